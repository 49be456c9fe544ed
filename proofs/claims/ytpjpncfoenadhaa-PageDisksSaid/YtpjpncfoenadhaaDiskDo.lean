/- The law's do: one call of both disks: they never part. Conditions: both lie in memory, in one state; the text has at most 600 bytes. -/
import Derived.Test.YtpjpncfoenadhaaDiskOpen
import Derived.Deep.RegionHeld3
namespace Go.Proofs.Ytpjpncfoenadhaa
open Go.RowKit Dk

/-- the act in its box -/
def BoxA (w : World) (b : Nat) (a : Act) (P : Option Addr) (len cap : Nat) : Prop :=
  w.heap[b]? = some (.cells #[.int .i64 a.kind, .int .i64 a.i, .string a.s, .slice P len cap, .int .i64 a.c.torn, .int .i64 a.c.bytes] 45 (0, 0))
theorem BoxA.touch {w w' : World} {b lo hi : Nat} {a : Act} {P : Option Addr} {len cap : Nat} (h : BoxA w b a P len cap) (ht : Touch lo hi w w') (hb : hi ≤ b) : BoxA w' b a P len cap :=
  (ht.block b (lt_of_block h) (.inr hb)).trans h
theorem BoxA.q {w : World} {b : Nat} {a : Act} {P : Option Addr} {len cap : Nat} (h : BoxA w b a P len cap) :
    w.cell? ⟨b, 0, none⟩ = some (.int .i64 a.kind) ∧ w.cell? ⟨b, 1, none⟩ = some (.int .i64 a.i) ∧ w.cell? ⟨b, 2, none⟩ = some (.string a.s) ∧ w.cell? ⟨b, 3, none⟩ = some (.slice P len cap) ∧ w.cell? ⟨b, 4, none⟩ = some (.int .i64 a.c.torn) ∧ w.cell? ⟨b, 5, none⟩ = some (.int .i64 a.c.bytes) :=
  ⟨cell_of_row w b 0 _ _ (0, 0) h, cell_of_row w b 1 _ _ (0, 0) h, cell_of_row w b 2 _ _ (0, 0) h, cell_of_row w b 3 _ _ (0, 0) h, cell_of_row w b 4 _ _ (0, 0) h, cell_of_row w b 5 _ _ (0, 0) h⟩
/-- what a call of both leaves -/
def Done (lo : Nat) (w : World) (k : DB) (r : RB) (B : St) (e : Ending) (w' : World) : Prop := e = .returned (.bool true) ∧ Two lo w' k r B ∧ Touch k.lo r.hi w w'
section
variable {lo : Nat} {w : World} {k : DB} {r : RB} {A : St}
theorem Two.below (h : Two lo w k r A) {w' : World} (hb : Below w.heap.size w w') : Two lo w' k r A := ⟨h.p.below hb, h.x.below hb, h.lo, h.ap⟩
theorem Two.lohi (h : Two lo w k r A) : k.lo ≤ r.hi := by
  have h1 := h.p.ok.g
  have h2 := h.x.ok.g
  have h3 := h.ap
  omega
theorem Two.both (h : Two lo w k r A) {w1 w2 : World} {B : St} (hp : PD w1 k B) (ht : Touch k.lo k.hi w w1) (hx : XD w2 r B) (ht2 : Touch r.lo r.hi w1 w2) : Two lo w2 k r B ∧ Touch k.lo r.hi w w2 := by
  have h1 := h.p.ok.g
  have h2 := h.x.ok.g
  have h3 := h.ap
  exact ⟨⟨hp.far ht2 (.inl h.ap), hx, h.lo, h.ap⟩, (ht.mono (Nat.le_refl _) (by omega)).trans (ht2.mono (by omega) (Nat.le_refl _))⟩

set_option maxRecDepth 100000 in
set_option maxHeartbeats 4000000 in
theorem do_write {a : Act} {P : Option Addr} {len cap : Nat} (h : Two lo w k r A) (hk : a.kind = 0 ∨ a.kind = 1 ∨ a.kind = 2) (hs : a.s.size ≤ 600) :
    Calls Try.prog 49 #[.pointer (some ⟨k.g, 0, none⟩), .pointer (some ⟨r.g, 0, none⟩), actV a P len cap] w (Done lo w k r (A.write a.i a.s.data.toList).2) := by
  have hb0 : Below w.heap.size w (w.alloc (.cells #[.int .i64 a.kind, .int .i64 a.i, .string a.s, .slice P len cap, .int .i64 a.c.torn, .int .i64 a.c.bytes] 45 (0, 0))) := (Below.refl _ w).alloc (Nat.le_refl _) _
  have hB : BoxA (w.alloc (.cells #[.int .i64 a.kind, .int .i64 a.i, .string a.s, .slice P len cap, .int .i64 a.c.torn, .int .i64 a.c.bytes] 45 (0, 0))) w.heap.size a P len cap := World.alloc_heap_new w _
  have h1 := h.below hb0
  have hd : Below (w.alloc (.cells #[.int .i64 a.kind, .int .i64 a.i, .string a.s, .slice P len cap, .int .i64 a.c.torn, .int .i64 a.c.bytes] 45 (0, 0))).heap.size (w.alloc (.cells #[.int .i64 a.kind, .int .i64 a.i, .string a.s, .slice P len cap, .int .i64 a.c.torn, .int .i64 a.c.bytes] 45 (0, 0))) (w.alloc (.cells #[.int .i64 a.kind, .int .i64 a.i, .string a.s, .slice P len cap, .int .i64 a.c.torn, .int .i64 a.c.bytes] 45 (0, 0))).drew := below_drewN (Below.refl _ _) 1
  have H2 := Lib.hid (h1.below hd)
  have HB2 := Lib.hid (hB.touch (Touch.of_below (lo := 0) (hi := 0) hd) (Nat.zero_le _))
  have HT0 := Lib.hid ((Touch.of_below hb0 : Touch k.lo r.hi w _).trans (Touch.of_below hd))
  have HH := Lib.hid h
  have HS := Lib.hid hs
  obtain ⟨kd, i, s, c⟩ := a
  simp only at *
  unfold actV
  simp only
  have HW := Lib.hid (write_any i s H2.out.p)
  clear h h1 hB hb0 hd hs
  rcases hk with rfl | rfl | rfl
  · go_enter Try.func49, Try.ntmps49
    go_wp2_with fail
    have a1 := HB2.out.q
    have a2 := a1.2.1
    have a3 := a1.2.2.1
    clear a1
    go_region_held3 (fun w' => w'.cell? ⟨w.heap.size, 1, none⟩ = some (.int .i64 i) ∧ w'.cell? ⟨w.heap.size, 2, none⟩ = some (.string s)) (first | exact ⟨a2, a3⟩ | exact ⟨b2, b3⟩ | exact ⟨c2, c3⟩)
      (first
      | (go_at_call 21; refine HW.out.mono ?_; rintro e w2 ⟨rfl, hp2, ht2⟩; have b1 := (HB2.out.touch ht2 HH.out.p.inn).q; have b2 := b1.2.1; have b3 := b1.2.2.1)
      | (go_at_call 22; refine (rwrite_any i s (H2.out.stepP hp2 ht2) HS.out).mono ?_; rintro e w3 ⟨rfl, hp3, ht3⟩; have c1 := ((HB2.out.touch ht2 HH.out.p.inn).touch ht3 HH.out.x.inn).q; have c2 := c1.2.1; have c3 := c1.2.2.1))
    all_goals
      have hM := Lib.hid (H2.out.both hp2 ht2 hp3 ht3)
      clear hp2 ht2 hp3 ht3 b1 b2 b3 c1 c2 c3
      go_wp2_with fail
      go_ret
      exact ⟨by simp, hM.out.1, HT0.out.trans hM.out.2⟩
  · go_enter Try.func49, Try.ntmps49
    go_wp2_with fail
    have a1 := HB2.out.q
    have a2 := a1.2.1
    have a3 := a1.2.2.1
    clear a1
    go_region_held3 (fun w' => w'.cell? ⟨w.heap.size, 1, none⟩ = some (.int .i64 i) ∧ w'.cell? ⟨w.heap.size, 2, none⟩ = some (.string s)) (first | exact ⟨a2, a3⟩ | exact ⟨b2, b3⟩ | exact ⟨c2, c3⟩)
      (first
      | (go_at_call 21; refine HW.out.mono ?_; rintro e w2 ⟨rfl, hp2, ht2⟩; have b1 := (HB2.out.touch ht2 HH.out.p.inn).q; have b2 := b1.2.1; have b3 := b1.2.2.1)
      | (go_at_call 22; refine (rwrite_any i s (H2.out.stepP hp2 ht2) HS.out).mono ?_; rintro e w3 ⟨rfl, hp3, ht3⟩; have c1 := ((HB2.out.touch ht2 HH.out.p.inn).touch ht3 HH.out.x.inn).q; have c2 := c1.2.1; have c3 := c1.2.2.1))
    all_goals
      have hM := Lib.hid (H2.out.both hp2 ht2 hp3 ht3)
      clear hp2 ht2 hp3 ht3 b1 b2 b3 c1 c2 c3
      go_wp2_with fail
      go_ret
      exact ⟨by simp, hM.out.1, HT0.out.trans hM.out.2⟩
  · go_enter Try.func49, Try.ntmps49
    go_wp2_with fail
    have a1 := HB2.out.q
    have a2 := a1.2.1
    have a3 := a1.2.2.1
    clear a1
    go_region_held3 (fun w' => w'.cell? ⟨w.heap.size, 1, none⟩ = some (.int .i64 i) ∧ w'.cell? ⟨w.heap.size, 2, none⟩ = some (.string s)) (first | exact ⟨a2, a3⟩ | exact ⟨b2, b3⟩ | exact ⟨c2, c3⟩)
      (first
      | (go_at_call 21; refine HW.out.mono ?_; rintro e w2 ⟨rfl, hp2, ht2⟩; have b1 := (HB2.out.touch ht2 HH.out.p.inn).q; have b2 := b1.2.1; have b3 := b1.2.2.1)
      | (go_at_call 22; refine (rwrite_any i s (H2.out.stepP hp2 ht2) HS.out).mono ?_; rintro e w3 ⟨rfl, hp3, ht3⟩; have c1 := ((HB2.out.touch ht2 HH.out.p.inn).touch ht3 HH.out.x.inn).q; have c2 := c1.2.1; have c3 := c1.2.2.1))
    all_goals
      have hM := Lib.hid (H2.out.both hp2 ht2 hp3 ht3)
      clear hp2 ht2 hp3 ht3 b1 b2 b3 c1 c2 c3
      go_wp2_with fail
      go_ret
      exact ⟨by simp, hM.out.1, HT0.out.trans hM.out.2⟩

/-- the world behind the box -/
structure Boxed (lo : Nat) (w w1 : World) (k : DB) (r : RB) (A : St) (a : Act) (P : Option Addr) (len cap : Nat) : Prop where
  two : Two lo w1 k r A
  box : BoxA w1 w.heap.size a P len cap
  t : Touch k.lo r.hi w w1
  bk : Below w.heap.size w w1
theorem boxed (h : Two lo w k r A) (a : Act) (P : Option Addr) (len cap : Nat) :
    Boxed lo w (w.alloc (.cells #[.int .i64 a.kind, .int .i64 a.i, .string a.s, .slice P len cap, .int .i64 a.c.torn, .int .i64 a.c.bytes] 45 (0, 0))) k r A a P len cap := by
  have hb0 : Below w.heap.size w (w.alloc (.cells #[.int .i64 a.kind, .int .i64 a.i, .string a.s, .slice P len cap, .int .i64 a.c.torn, .int .i64 a.c.bytes] 45 (0, 0))) := (Below.refl _ w).alloc (Nat.le_refl _) _
  exact ⟨h.below hb0, World.alloc_heap_new w _, Touch.of_below hb0, hb0⟩
set_option maxRecDepth 100000 in
set_option maxHeartbeats 4000000 in
theorem do_sync {a : Act} {P : Option Addr} {len cap : Nat} (h : Two lo w k r A) (hk : a.kind = 3) :
    Calls Try.prog 49 #[.pointer (some ⟨k.g, 0, none⟩), .pointer (some ⟨r.g, 0, none⟩), actV a P len cap] w (Done lo w k r A.sync.2) := by
  have HB := Lib.hid (boxed h a P len cap)
  have HH := Lib.hid h
  obtain ⟨kd, i, s, c⟩ := a
  simp only at *
  subst hk
  unfold actV
  simp only
  clear h
  have b0 := HB.out.box.q.1
  go_enter Try.func49, Try.ntmps49
  go_wp2_with fail
  refine (sync_any HB.out.two.p).mono ?_
  rintro e w2 ⟨rfl, hp2, ht2⟩
  have Hp2 := Lib.hid hp2
  have Ht2 := Lib.hid ht2
  clear hp2 ht2
  go_wp2_with fail
  refine (rsync_any (HB.out.two.stepP Hp2.out Ht2.out)).mono ?_
  rintro e w3 ⟨rfl, hp3, ht3⟩
  have hM := Lib.hid (HB.out.two.both Hp2.out Ht2.out hp3 ht3)
  clear hp3 ht3 Hp2 Ht2
  go_wp2_with fail
  go_ret
  exact ⟨by simp, hM.out.1, HB.out.t.trans hM.out.2⟩
set_option maxRecDepth 100000 in
set_option maxHeartbeats 4000000 in
theorem do_arm {a : Act} {P : Option Addr} {len cap : Nat} (h : Two lo w k r A) (hk : a.kind = 4) (hi : a.i ≤ 9223372036854775807) :
    Calls Try.prog 49 #[.pointer (some ⟨k.g, 0, none⟩), .pointer (some ⟨r.g, 0, none⟩), actV a P len cap] w (Done lo w k r (A.armed a.i).2) := by
  have HB := Lib.hid (boxed h a P len cap)
  have HH := Lib.hid h
  obtain ⟨kd, i, s, c⟩ := a
  simp only at *
  subst hk
  unfold actV
  simp only
  clear h
  have b0 := HB.out.box.q.1
  have b1 := HB.out.box.q.2.1
  have HA := Lib.hid (arm_any i HB.out.two.p hi)
  have hx := HB.out.two.x.c5
  cases hd : A.down
  · rw [hd] at hx
    by_cases h1 : i < 1
    · have HR := Lib.hid (show A.armed i = (2, A) by unfold St.armed; rw [if_neg (by simp [hd]), if_pos h1])
      have HD := Lib.hid hd
      clear hd
      go_enter Try.func49, Try.ntmps49
      go_wp2_with fail
      refine HA.out.mono ?_
      rintro e w2 ⟨rfl, hp2, ht2⟩
      rw [HR.out] at hp2 ⊢
      have hX := HB.out.two.stepP hp2 ht2
      have c5 := hX.c5
      have c1 := ((HB.out.box.touch ht2 (by have := HH.out.p.inn; exact this)).q).2.1
      rw [HD.out] at c5
      have HM := Lib.hid (show Two lo w2 k r A ∧ Touch k.lo r.hi w w2 from ⟨⟨hp2, hX, HB.out.two.lo, HB.out.two.ap⟩, HB.out.t.trans (ht2.mono (Nat.le_refl _) (by have := HB.out.two.ap; have := HB.out.two.x.ok.g; omega))⟩)
      clear hp2 ht2 hX hx b0 b1
      go_wp2_with fail
      go_ret
      rw [HR.out]
      exact ⟨rfl, HM.out.1, HM.out.2⟩
    · have HR := Lib.hid (show A.armed i = (0, { A with arm := i }) by unfold St.armed; rw [if_neg (by simp [hd]), if_neg h1])
      have HG := Lib.hid (show St.Good { A with arm := i } from by
        have := Good.armed HB.out.two.p.good i hi
        rw [HR.out] at this
        exact this)
      have HD := Lib.hid hd
      clear hd
      go_enter Try.func49, Try.ntmps49
      go_wp2_with fail
      refine HA.out.mono ?_
      rintro e w2 ⟨rfl, hp2, ht2⟩
      rw [HR.out] at hp2 ⊢
      have hX := HB.out.two.stepP hp2 ht2
      have c5 := hX.c5
      have c3 := hX.c3
      have f3 := hX.fr 3
      have c1 := ((HB.out.box.touch ht2 (by have := HH.out.p.inn; exact this)).q).2.1
      rw [HD.out] at c5
      have hw1 := headR_one hX 3 (.int .i64 i)
      have hst := hX.stores { A with arm := i } rfl HG.out _ hw1.1 hw1.2
      have hM := Lib.hid (HB.out.two.both hp2 ht2 hst.1 hst.2)
      clear hp2 ht2 hX hx b0 b1 hw1 hst
      go_wp2_with fail
      go_ret
      rw [HR.out]
      exact ⟨rfl, hM.out.1, HB.out.t.trans hM.out.2⟩
  · rw [hd] at hx
    have HR := Lib.hid (show A.armed i = (13, A) by unfold St.armed; rw [if_pos hd])
    have HD := Lib.hid hd
    clear hd
    go_enter Try.func49, Try.ntmps49
    go_wp2_with fail
    refine HA.out.mono ?_
    rintro e w2 ⟨rfl, hp2, ht2⟩
    rw [HR.out] at hp2 ⊢
    have hX := HB.out.two.stepP hp2 ht2
    have c5 := hX.c5
    rw [HD.out] at c5
    have HM := Lib.hid (show Two lo w2 k r A ∧ Touch k.lo r.hi w w2 from ⟨⟨hp2, hX, HB.out.two.lo, HB.out.two.ap⟩, HB.out.t.trans (ht2.mono (Nat.le_refl _) (by have := HB.out.two.ap; have := HB.out.two.x.ok.g; omega))⟩)
    clear hp2 ht2 hX hx b0 b1
    go_wp2_with fail
    go_ret
    rw [HR.out]
    exact ⟨rfl, HM.out.1, HM.out.2⟩
set_option maxRecDepth 100000 in
set_option maxHeartbeats 4000000 in
theorem do_crash {a : Act} {P : Option Addr} {len cap : Nat} (h : Two lo w k r A) (hk : ¬ (a.kind = 0 ∨ a.kind = 1 ∨ a.kind = 2 ∨ a.kind = 3 ∨ a.kind = 4)) (hb : Bools lo w P len a.c.keep) :
    Calls Try.prog 49 #[.pointer (some ⟨k.g, 0, none⟩), .pointer (some ⟨r.g, 0, none⟩), actV a P len cap] w (Done lo w k r (A.crash a.c)) := by
  have HB := Lib.hid (boxed h a P len cap)
  have HH := Lib.hid h
  have HK := Lib.hid hb
  obtain ⟨kd, i, s, c⟩ := a
  simp only at *
  have e0 : (kd == 0) = false := by rw [beq_eq_false_iff_ne]; omega
  have e1 : (kd == 1) = false := by rw [beq_eq_false_iff_ne]; omega
  have e2 : (kd == 2) = false := by rw [beq_eq_false_iff_ne]; omega
  have e3 : (kd == 3) = false := by rw [beq_eq_false_iff_ne]; omega
  have e4 : (kd == 4) = false := by rw [beq_eq_false_iff_ne]; omega
  unfold actV
  simp only
  clear h hb hk
  have b0 := HB.out.box.q.1
  have b3 := HB.out.box.q.2.2.2.1
  have b4 := HB.out.box.q.2.2.2.2.1
  have b5 := HB.out.box.q.2.2.2.2.2
  go_enter Try.func49, Try.ntmps49
  go_wp2_with fail
  refine (rcrash_any (c := c) HB.out.two.x ((HK.out.touch (Touch.of_below (lo := lo) (hi := lo) HB.out.bk) (Nat.le_refl _)).lift (by have := HH.out.lo; have := HH.out.lohi; have := HH.out.ap; have := HH.out.p.ok.g; omega))).mono ?_
  rintro e w2 ⟨rfl, hp2, ht2⟩
  have hP := HB.out.two.stepX hp2 ht2
  have q := (HB.out.box.touch ht2 HH.out.x.inn).q
  have q3 := q.2.2.2.1
  have q4 := q.2.2.2.2.1
  have q5 := q.2.2.2.2.2
  have HX2 := Lib.hid hp2
  have HT2 := Lib.hid ht2
  have HP2 := Lib.hid hP
  have HK2 := Lib.hid (((HK.out.touch (Touch.of_below (lo := lo) (hi := lo) HB.out.bk) (Nat.le_refl _)).touch ht2 (by have := HH.out.lo; have := HH.out.lohi; have := HH.out.ap; have := HH.out.p.ok.g; omega)).lift HH.out.lo)
  clear hp2 ht2 hP q b0 b3 b4 b5 e0 e1 e2 e3 e4
  go_wp2_with fail
  refine (crash_any (c := c) HP2.out HK2.out).mono ?_
  rintro e w3 ⟨rfl, hp3, ht3⟩
  have HM := Lib.hid (show Two lo w3 k r (A.crash c) ∧ Touch k.lo r.hi w w3 from ⟨⟨hp3, HX2.out.far ht3 (.inr HH.out.ap), HH.out.lo, HH.out.ap⟩,
    HB.out.t.trans ((HT2.out.mono (by have := HH.out.ap; have := HH.out.p.ok.g; omega) (Nat.le_refl _)).trans (ht3.mono (Nat.le_refl _) (by have := HH.out.ap; have := HH.out.x.ok.g; omega)))⟩)
  clear hp3 ht3 q3 q4 q5
  go_wp2_with fail
  go_ret
  exact ⟨rfl, HM.out.1, HM.out.2⟩
end
end Go.Proofs.Ytpjpncfoenadhaa
