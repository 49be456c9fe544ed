/- DiskSafe: what is synced is there behind any crash. No condition. -/
import Derived.Test.YtpjpncfoenadhaaDiskSnap
import Derived.Test.YtpjpncfoenadhaaDiskSafeP
import Derived.Deep.DeepCutAuto
namespace Go.Proofs.Ytpjpncfoenadhaa
open Go.ChangeShapes Go.WideShapes Go.ChangeAt Go.RowKit Dk

/-- both crashes in their boxes -/
structure SafeB (w : World) (Q R : Option Addr) (lb cb lc cc : Nat) (c more : Cr) (wx : World) : Prop where
  b1 : Box wx w.heap.size Q lb cb c
  b2 : Box wx (w.heap.size + 1) R lc cc more
  k1 : Bools w.heap.size wx Q lb c.keep
  k2 : Bools w.heap.size wx R lc more.keep
  b : Below w.heap.size w wx
  z : w.heap.size + 2 ≤ wx.heap.size
section
variable {w wx : World} {Q R : Option Addr} {lb cb lc cc : Nat} {c more : Cr}
theorem SafeB.below (h : SafeB w Q R lb cb lc cc c more wx) {w' : World} (hb : Below wx.heap.size wx w') : SafeB w Q R lb cb lc cc c more w' := by
  have hz := h.z
  have ht : Touch 0 0 wx w' := Touch.of_below hb
  have ht2 : Touch w.heap.size w.heap.size wx w' := Touch.of_below hb
  exact ⟨h.b1.touch ht (Nat.zero_le _), h.b2.touch ht (Nat.zero_le _), h.k1.touch ht2 (Nat.le_refl _), h.k2.touch ht2 (Nat.le_refl _), h.b.trans (hb.mono (by omega)), Nat.le_trans hz hb.size⟩
theorem safeB_new (Q R : Option Addr) (lb cb lc cc : Nat) (c more : Cr) (w : World) (hq : Bools w.heap.size w Q lb c.keep) (hr : Bools w.heap.size w R lc more.keep) :
    SafeB w Q R lb cb lc cc c more ((w.alloc (.cells #[.slice Q lb cb, .int .i64 c.torn, .int .i64 c.bytes] 25 (0, 0))).alloc (.cells #[.slice R lc cc, .int .i64 more.torn, .int .i64 more.bytes] 25 (0, 0))) := by
  have h1 : Below w.heap.size w (w.alloc (.cells #[.slice Q lb cb, .int .i64 c.torn, .int .i64 c.bytes] 25 (0, 0))) := (Below.refl _ w).alloc (Nat.le_refl _) _
  have h2 : Below (w.alloc (.cells #[.slice Q lb cb, .int .i64 c.torn, .int .i64 c.bytes] 25 (0, 0))).heap.size (w.alloc (.cells #[.slice Q lb cb, .int .i64 c.torn, .int .i64 c.bytes] 25 (0, 0))) ((w.alloc (.cells #[.slice Q lb cb, .int .i64 c.torn, .int .i64 c.bytes] 25 (0, 0))).alloc (.cells #[.slice R lc cc, .int .i64 more.torn, .int .i64 more.bytes] 25 (0, 0))) := (Below.refl _ _).alloc (Nat.le_refl _) _
  have hz : (w.alloc (.cells #[.slice Q lb cb, .int .i64 c.torn, .int .i64 c.bytes] 25 (0, 0))).heap.size = w.heap.size + 1 := by simp
  have h3 := h1.trans (h2.mono (by omega))
  have ht : Touch w.heap.size w.heap.size w _ := Touch.of_below h3
  refine ⟨(Box.new w Q lb cb c).touch (Touch.of_below (lo := 0) (hi := 0) h2) (Nat.zero_le _), ?_, hq.touch ht (Nat.le_refl _), hr.touch ht (Nat.le_refl _), h3, by simp⟩
  have := Box.new (w.alloc (.cells #[.slice Q lb cb, .int .i64 c.torn, .int .i64 c.bytes] 25 (0, 0))) R lc cc more
  rw [hz] at this
  exact this
/-- ahead of the crash -/
structure SafeA (w : World) (k : DB) (r : RB) (A B : St) (L : List Value) (x y z : Value) (Q R : Option Addr) (lb cb lc cc : Nat) (c more : Cr) (wx : World) : Prop where
  b : SafeB w Q R lb cb lc cc c more wx
  p : PD wx k B
  l : NewOf A L
  ra : RowAt r.hi wx x (safeL A)
  rb : RowAt r.hi wx y L
  rc : RowAt r.hi wx z (isL A)
  lo : w.heap.size + 2 ≤ k.lo
  ap : k.hi ≤ r.hi
abbrev SafeR (w : World) (k : DB) (r : RB) (A B : St) (L : List Value) (ga gb gc ca cb' cc' : Nat) (Q R : Option Addr) (lb cb lc cc : Nat) (c more : Cr) (wx : World) : Prop :=
  SafeA w k r A B L (.slice (some ⟨ga, 0, none⟩) 6 ca) (.slice (some ⟨gb, 0, none⟩) 6 cb') (.slice (some ⟨gc, 0, none⟩) 6 cc') Q R lb cb lc cc c more wx
variable {k : DB} {r : RB} {A B : St} {L : List Value} {x y z : Value}
theorem SafeA.below (h : SafeA w k r A B L x y z Q R lb cb lc cc c more wx) {w' : World} (hb : Below wx.heap.size wx w') : SafeA w k r A B L x y z Q R lb cb lc cc c more w' :=
  ⟨h.b.below hb, h.p.below hb, h.l, h.ra.below hb, h.rb.below hb, h.rc.below hb, h.lo, h.ap⟩
theorem SafeA.crashed (h : SafeA w k r A B L x y z Q R lb cb lc cc c more wx) {w' : World} {B' : St} (hp : PD w' k B') (ht : Touch k.lo k.hi wx w') : SafeA w k r A B' L x y z Q R lb cb lc cc c more w' := by
  have hlo := h.lo
  have hz := h.b.z
  have hb : Below w.heap.size wx w' := ht.below (by omega) (by omega)
  refine ⟨⟨?_, ?_, h.b.k1.touch ht (by omega), h.b.k2.touch ht (by omega), h.b.b.trans hb, Nat.le_trans hz ht.size⟩, hp, h.l, h.ra.touch ht h.ap, h.rb.touch ht h.ap, h.rc.touch ht h.ap, hlo, h.ap⟩
  · have e := fun j => World.cell?_of_block (w := wx) (w' := w') (a := ⟨w.heap.size, j, none⟩) (ht.block w.heap.size (by omega) (.inl (by omega)))
    exact ⟨(e 0).trans h.b.b1.c0, (e 1).trans h.b.b1.c1, (e 2).trans h.b.b1.c2⟩
  · have e := fun j => World.cell?_of_block (w := wx) (w' := w') (a := ⟨w.heap.size + 1, j, none⟩) (ht.block (w.heap.size + 1) (by omega) (.inl (by omega)))
    exact ⟨(e 0).trans h.b.b2.c0, (e 1).trans h.b.b2.c1, (e 2).trans h.b.b2.c2⟩
end
theorem rowAt_cell {lo g n cap : Nat} {w : World} {L : List Value} (h : RowAt lo w (.slice (some ⟨g, 0, none⟩) n cap) L) (j : Nat) (u : Value) (hu : L[j]? = some u) : w.cell? ⟨g, j, none⟩ = some u := by
  obtain ⟨g', cap', h1, _, _, h4⟩ := h
  cases h1
  exact h4 j u hu
theorem safe_begin {w w2 wc : World} {Q R : Option Addr} {lb cb lc cc lo : Nat} {c more : Cr} {k : DB} {r : RB} {A : St} {L : List Value} {x y z : Value}
    (HT : Hid (Two lo w2 k r A)) (HB : Hid (SafeB w Q R lb cb lc cc c more w2)) (HL : Hid (w.heap.size + 2 ≤ k.lo)) (hX : Hid (XL wc r A L))
    (hra : RowAt r.hi wc x (safeL A)) (hrb : RowAt r.hi wc y L) (hrc : RowAt r.hi wc z (isL A)) (hB2 : Hid (Below w2.heap.size w2 wc)) : SafeA w k r A A L x y z Q R lb cb lc cc c more wc :=
  ⟨HB.out.below hB2.out, HT.out.p.below hB2.out, hX.out.l, hra, hrb, hrc, HL.out, by have := HT.out.ap; have := HT.out.x.ok.g; omega⟩
set_option maxRecDepth 100000 in
set_option maxHeartbeats 8000000 in
theorem safe_any (P Q R : Option Addr) (len cap lb cb lc cc : Nat) (c more : Cr) (w : World) (ha : ActsAt w P len) (hq : Bools w.heap.size w Q lb c.keep) (hr : Bools w.heap.size w R lc more.keep) :
    Calls Try.prog 3 #[.slice P len cap, .agg #[.slice Q lb cb, .int .i64 c.torn, .int .i64 c.bytes], .agg #[.slice R lc cc, .int .i64 more.torn, .int .i64 more.bytes]] w fun e w' => e = .returned (.bool true) ∧ Below w.heap.size w w' := by
  have hb1 : Below w.heap.size w ((w.alloc (.cells #[.slice Q lb cb, .int .i64 c.torn, .int .i64 c.bytes] 25 (0, 0))).alloc (.cells #[.slice R lc cc, .int .i64 more.torn, .int .i64 more.bytes] 25 (0, 0))) :=
    ((Below.refl _ w).alloc (Nat.le_refl _) _).alloc (by simp) _
  have HI := Lib.hid (safeB_new Q R lb cb lc cc c more w hq hr)
  have HN := Lib.hid (made_in 6 P len cap _ (by decide) (by decide) (ha.below hb1))
  clear ha hq hr hb1
  go_enter Try.func3, Try.ntmps3
  go_wp2_with fail
  refine HN.out.mono ?_
  rintro e w1 ⟨k, r, A, rfl, hT, hn, hb⟩
  have HB1 := Lib.hid (HI.out.below hb)
  have HT1 := Lib.hid hT
  have HA := Lib.hid hn
  have HL := Lib.hid (show w.heap.size + 2 ≤ k.lo from by have := hT.lo; simp at this; omega)
  clear hb hT HN hn HI
  go_wp2_with fail
  refine (awake_any _).mono ?_
  rintro e w2 ⟨rfl, hb⟩
  have HT := Lib.hid (HT1.out.below hb)
  have HB := Lib.hid (HB1.out.below hb)
  clear hb HT1 HB1
  go_upto_region 4 with (fail)
  go_cut [10, 11, 12] (fun a b c wx => ∃ L, Hid (XL wx r A L) ∧ RowAt r.hi wx a (safeL A) ∧ RowAt r.hi wx b L ∧ RowAt r.hi wx c (isL A) ∧ Hid (Below w2.heap.size w2 wx))
  case first =>
    obtain ⟨L, hl, hln⟩ := HT.out.x.new
    have HX : Hid (XL w2.drew r A L) := XL.below (w := w2) ⟨HT.out.x, hl, hln⟩ (below_drewN (Below.refl _ _) 1)
    have hm := HX.out.x.inn
    obtain ⟨si, sz, q1, q2, q3, q4, q5⟩ := str_info
    obtain ⟨bi, bz, p1, p2, p3, p4, p5⟩ := bool_info
    have HS0 : ∀ W, Below w2.drew.heap.size w2.drew W → ∀ x, Emp x → ∃ v W1, (Builtin.append_ #[31, 31] 31 #[x, .slice (some ⟨r.s, 0, none⟩) A.n r.cs]).run Try.prog W = .ok v W1 ∧ RowAt r.hi W1 v (safeL A) ∧ Below W.heap.size W W1 := fun W hB x hx0 => by
      have hx := HX.out.below hB
      have hl : (safeL A).length = A.n := by simp [safeL, St.n]
      rw [← hl]
      exact run_fresh _ _ si sz 16 Try.underlying31 q1 q2 q3 q4 q5 _ hx0 _ _ (safeL A) (hx.x.safe.add) (by rw [hl, HA.out]; decide) (by rw [hl, HA.out]; decide) (by decide) _ (Nat.le_trans hm hB.size)
    have HS1 : ∀ W, Below w2.drew.heap.size w2.drew W → ∀ x, Emp x → ∃ v W1, (Builtin.append_ #[31, 31] 31 #[x, .slice (some ⟨r.n, 0, none⟩) A.n r.cn]).run Try.prog W = .ok v W1 ∧ RowAt r.hi W1 v L ∧ Below W.heap.size W W1 := fun W hB x hx0 => by
      have hx := HX.out.below hB
      have hl : L.length = A.n := HX.out.l.1
      rw [← hl]
      exact run_fresh _ _ si sz 16 Try.underlying31 q1 q2 q3 q4 q5 _ hx0 _ _ L (hx.n.add) (by rw [hl, HA.out]; decide) (by rw [hl, HA.out]; decide) (by decide) _ (Nat.le_trans hm hB.size)
    have HS2 : ∀ W, Below w2.drew.heap.size w2.drew W → ∀ x, Emp x → ∃ v W1, (Builtin.append_ #[23, 23] 23 #[x, .slice (some ⟨r.b, 0, none⟩) A.n r.cb]).run Try.prog W = .ok v W1 ∧ RowAt r.hi W1 v (isL A) ∧ Below W.heap.size W W1 := fun W hB x hx0 => by
      have hx := HX.out.below hB
      have hl : (isL A).length = A.n := by simp [isL, St.n]
      rw [← hl]
      exact run_fresh _ _ bi bz 1 Try.underlying23 p1 p2 p3 p4 p5 _ hx0 _ _ (isL A) (hx.x.is.add) (by rw [hl, HA.out]; decide) (by rw [hl, HA.out]; decide) (by decide) _ (Nat.le_trans hm hB.size)
    refine Plan.wp_region_each (plan := snapPlan r.hi r A L) (by kernel_rfl) snap_stable (by kernel_rfl) (by kernel_rfl) ?_ ?_
    · refine ⟨⟨rfl, _, rfl, by simp, ?_⟩, ⟨rfl, _, rfl, by simp, ?_⟩, ⟨rfl, _, rfl, by simp, ?_⟩, ⟨rfl, _, rfl, by simp, ?_⟩, ⟨rfl, _, rfl, by simp, ?_⟩, ⟨rfl, _, rfl, by simp, ?_⟩, ⟨rfl, _, rfl, by simp, ?_⟩, ⟨rfl, _, rfl, by simp, ?_⟩, ⟨rfl, _, rfl, by simp, ?_⟩, ⟨rfl, _, rfl, by simp, ?_⟩, ⟨rfl, _, rfl, by simp, ?_⟩, ⟨rfl, _, rfl, by simp, ?_⟩, ⟨rfl, _, rfl, by simp, ?_⟩, ⟨rfl, _, rfl, by simp, ?_⟩, ⟨rfl, _, rfl, by simp, ?_⟩, ⟨rfl, _, rfl, by simp, ?_⟩, ⟨rfl, _, rfl, by simp, ?_⟩, ⟨rfl, _, rfl, by simp, ?_⟩, ⟨rfl, _, rfl, by simp, ?_⟩, ⟨rfl, _, rfl, by simp, ?_⟩, ⟨rfl, _, rfl, by simp, ?_⟩, trivial⟩
      · intro a w' hF hB hP K hK
        refine Plan.wp_of_run (run_empty _ _ 31 9 rfl Try.underlying31 (by kernel_rfl) w') (hK _ _ ((Below.refl _ _).alloc (Nat.le_refl _) _) ⟨_, rfl⟩)
      · intro a w' hF hB hP K hK
        have e8 := hF.eval (t := 8) (v := Value.pointer (some ⟨r.g, 0, none⟩)) (by kernel_rfl) rfl
        refine Plan.wp_of_run ?_ (hK _ _ (Below.refl _ _) e8)
        rfl
      · intro a w' hF hB hP K hK
        have h := (Plan.of_after hP 1 (by kernel_rfl)).at_ (d := 39) (by kernel_rfl)
        replace h : (a.tmps[39]?).getD undef = Value.pointer (some ⟨r.g, 0, none⟩) := h
        have hc := (HX.out.below hB).x.c0
        refine Plan.wp_of_run (v := Value.pointer (some ⟨r.g, 0, none⟩)) ?_ (hK _ _ (Below.refl _ _) rfl)
        simp [execOp, h, go_sem]
      · intro a w' hF hB hP K hK
        have h := (Plan.of_after hP 2 (by kernel_rfl)).at_ (d := 40) (by kernel_rfl)
        replace h : (a.tmps[40]?).getD undef = Value.pointer (some ⟨r.g, 0, none⟩) := h
        refine Plan.wp_of_run (v := Value.pointer (some ⟨r.g, 0, none⟩)) ?_ (hK _ _ (Below.refl _ _) rfl)
        simp [execOp, h, go_sem]
      · intro a w' hF hB hP K hK
        have h := (Plan.of_after hP 3 (by kernel_rfl)).at_ (d := 41) (by kernel_rfl)
        replace h : (a.tmps[41]?).getD undef = Value.pointer (some ⟨r.g, 0, none⟩) := h
        have hc := (HX.out.below hB).x.c0
        refine Plan.wp_of_run (v := .slice (some ⟨r.s, 0, none⟩) A.n r.cs) ?_ (hK _ _ (Below.refl _ _) rfl)
        simp [execOp, h, hc, go_sem]
      · intro a w' hF hB hP K hK
        have h0 := (Plan.of_after hP 0 (by kernel_rfl)).eval (d := 38) (by kernel_rfl)
        replace h0 : Emp (a.eval (.tmp 38)) := h0
        have h := (Plan.of_after hP 4 (by kernel_rfl)).eval (d := 42) (by kernel_rfl)
        replace h : a.eval (.tmp 42) = .slice (some ⟨r.s, 0, none⟩) A.n r.cs := h
        obtain ⟨v, w1, hr, h1, h2⟩ := HS0 w' hB _ h0
        refine Plan.wp_of_run (v := v) (w' := w1) ?_ (hK _ _ h2 h1)
        simp [execOp, h, resolve, invoke, builtin, hr, Result.andThen]
      · intro a w' hF hB hP K hK
        refine Plan.wp_of_run (run_empty _ _ 31 9 rfl Try.underlying31 (by kernel_rfl) w') (hK _ _ ((Below.refl _ _).alloc (Nat.le_refl _) _) ⟨_, rfl⟩)
      · intro a w' hF hB hP K hK
        have e8 := hF.eval (t := 8) (v := Value.pointer (some ⟨r.g, 0, none⟩)) (by kernel_rfl) rfl
        refine Plan.wp_of_run ?_ (hK _ _ (Below.refl _ _) e8)
        rfl
      · intro a w' hF hB hP K hK
        have h := (Plan.of_after hP 7 (by kernel_rfl)).at_ (d := 45) (by kernel_rfl)
        replace h : (a.tmps[45]?).getD undef = Value.pointer (some ⟨r.g, 0, none⟩) := h
        have hc := (HX.out.below hB).x.c0
        refine Plan.wp_of_run (v := Value.pointer (some ⟨r.g, 0, none⟩)) ?_ (hK _ _ (Below.refl _ _) rfl)
        simp [execOp, h, go_sem]
      · intro a w' hF hB hP K hK
        have h := (Plan.of_after hP 8 (by kernel_rfl)).at_ (d := 46) (by kernel_rfl)
        replace h : (a.tmps[46]?).getD undef = Value.pointer (some ⟨r.g, 0, none⟩) := h
        refine Plan.wp_of_run (v := Value.pointer (some ⟨r.g, 1, none⟩)) ?_ (hK _ _ (Below.refl _ _) rfl)
        simp [execOp, h, go_sem]
      · intro a w' hF hB hP K hK
        have h := (Plan.of_after hP 9 (by kernel_rfl)).at_ (d := 47) (by kernel_rfl)
        replace h : (a.tmps[47]?).getD undef = Value.pointer (some ⟨r.g, 1, none⟩) := h
        have hc := (HX.out.below hB).x.c1
        refine Plan.wp_of_run (v := .slice (some ⟨r.n, 0, none⟩) A.n r.cn) ?_ (hK _ _ (Below.refl _ _) rfl)
        simp [execOp, h, hc, go_sem]
      · intro a w' hF hB hP K hK
        have h0 := (Plan.of_after hP 6 (by kernel_rfl)).eval (d := 44) (by kernel_rfl)
        replace h0 : Emp (a.eval (.tmp 44)) := h0
        have h := (Plan.of_after hP 10 (by kernel_rfl)).eval (d := 48) (by kernel_rfl)
        replace h : a.eval (.tmp 48) = .slice (some ⟨r.n, 0, none⟩) A.n r.cn := h
        obtain ⟨v, w1, hr, h1, h2⟩ := HS1 w' hB _ h0
        refine Plan.wp_of_run (v := v) (w' := w1) ?_ (hK _ _ h2 h1)
        simp [execOp, h, resolve, invoke, builtin, hr, Result.andThen]
      · intro a w' hF hB hP K hK
        refine Plan.wp_of_run (run_empty _ _ 23 4 rfl Try.underlying23 (by kernel_rfl) w') (hK _ _ ((Below.refl _ _).alloc (Nat.le_refl _) _) ⟨_, rfl⟩)
      · intro a w' hF hB hP K hK
        have e8 := hF.eval (t := 8) (v := Value.pointer (some ⟨r.g, 0, none⟩)) (by kernel_rfl) rfl
        refine Plan.wp_of_run ?_ (hK _ _ (Below.refl _ _) e8)
        rfl
      · intro a w' hF hB hP K hK
        have h := (Plan.of_after hP 13 (by kernel_rfl)).at_ (d := 51) (by kernel_rfl)
        replace h : (a.tmps[51]?).getD undef = Value.pointer (some ⟨r.g, 0, none⟩) := h
        have hc := (HX.out.below hB).x.c0
        refine Plan.wp_of_run (v := Value.pointer (some ⟨r.g, 0, none⟩)) ?_ (hK _ _ (Below.refl _ _) rfl)
        simp [execOp, h, go_sem]
      · intro a w' hF hB hP K hK
        have h := (Plan.of_after hP 14 (by kernel_rfl)).at_ (d := 52) (by kernel_rfl)
        replace h : (a.tmps[52]?).getD undef = Value.pointer (some ⟨r.g, 0, none⟩) := h
        refine Plan.wp_of_run (v := Value.pointer (some ⟨r.g, 2, none⟩)) ?_ (hK _ _ (Below.refl _ _) rfl)
        simp [execOp, h, go_sem]
      · intro a w' hF hB hP K hK
        have h := (Plan.of_after hP 15 (by kernel_rfl)).at_ (d := 53) (by kernel_rfl)
        replace h : (a.tmps[53]?).getD undef = Value.pointer (some ⟨r.g, 2, none⟩) := h
        have hc := (HX.out.below hB).x.c2
        refine Plan.wp_of_run (v := .slice (some ⟨r.b, 0, none⟩) A.n r.cb) ?_ (hK _ _ (Below.refl _ _) rfl)
        simp [execOp, h, hc, go_sem]
      · intro a w' hF hB hP K hK
        have h0 := (Plan.of_after hP 12 (by kernel_rfl)).eval (d := 50) (by kernel_rfl)
        replace h0 : Emp (a.eval (.tmp 50)) := h0
        have h := (Plan.of_after hP 16 (by kernel_rfl)).eval (d := 54) (by kernel_rfl)
        replace h : a.eval (.tmp 54) = .slice (some ⟨r.b, 0, none⟩) A.n r.cb := h
        obtain ⟨v, w1, hr, h1, h2⟩ := HS2 w' hB _ h0
        refine Plan.wp_of_run (v := v) (w' := w1) ?_ (hK _ _ h2 h1)
        simp [execOp, h, resolve, invoke, builtin, hr, Result.andThen]
      · intro a w' hF hB hP K hK
        have h := (Plan.of_after hP 5 (by kernel_rfl)).eval (d := 43) (by kernel_rfl)
        refine Plan.wp_of_run ?_ (hK _ _ (Below.refl _ _) (show RowAt r.hi w' (a.eval (.tmp 43)) (safeL A) from h))
        rfl
      · intro a w' hF hB hP K hK
        have h := (Plan.of_after hP 11 (by kernel_rfl)).eval (d := 49) (by kernel_rfl)
        refine Plan.wp_of_run ?_ (hK _ _ (Below.refl _ _) (show RowAt r.hi w' (a.eval (.tmp 49)) L from h))
        rfl
      · intro a w' hF hB hP K hK
        have h := (Plan.of_after hP 17 (by kernel_rfl)).eval (d := 55) (by kernel_rfl)
        refine Plan.wp_of_run ?_ (hK _ _ (Below.refl _ _) (show RowAt r.hi w' (a.eval (.tmp 55)) (isL A) from h))
        rfl
    · intro a w' hF hB hH
      have h10 : RowAt r.hi w' (a.eval (.tmp 10)) (safeL A) := (hH 18 (by simp)).eval (d := 10) (by kernel_rfl)
      have h11 : RowAt r.hi w' (a.eval (.tmp 11)) L := (hH 19 (by simp)).eval (d := 11) (by kernel_rfl)
      have h12 : RowAt r.hi w' (a.eval (.tmp 12)) (isL A) := (hH 20 (by simp)).eval (d := 12) (by kernel_rfl)
      have e := hF.lit
      clear hF hH
      rw [show Plan.dsts _ = [38, 39, 40, 41, 42, 43, 44, 45, 46, 47, 48, 49, 50, 51, 52, 53, 54, 55, 10, 11, 12] by kernel_rfl] at e
      generalize hf : (fun d => a.eval (.tmp d)) = f at e
      rw [show a.eval (.tmp 10) = f 10 by rw [← hf]] at h10
      rw [show a.eval (.tmp 11) = f 11 by rw [← hf]] at h11
      rw [show a.eval (.tmp 12) = f 12 by rw [← hf]] at h12
      clear hf
      subst e
      simp only [Plan.putAll]
      generalize f 38 = x38 at *
      generalize f 39 = x39 at *
      generalize f 40 = x40 at *
      generalize f 41 = x41 at *
      generalize f 42 = x42 at *
      generalize f 43 = x43 at *
      generalize f 44 = x44 at *
      generalize f 45 = x45 at *
      generalize f 46 = x46 at *
      generalize f 47 = x47 at *
      generalize f 48 = x48 at *
      generalize f 49 = x49 at *
      generalize f 50 = x50 at *
      generalize f 51 = x51 at *
      generalize f 52 = x52 at *
      generalize f 53 = x53 at *
      generalize f 54 = x54 at *
      generalize f 55 = x55 at *
      generalize f 10 = x10 at *
      generalize f 11 = x11 at *
      generalize f 12 = x12 at *
      have HX2 := Lib.hid (HX.out.below hB)
      have HB2 := Lib.hid ((below_drewN (Below.refl w2.heap.size w2) 1).trans hB)
      clear HX HS0 HS1 HS2
      simp only [Act.put, List.setIfInBounds_toArray, List.set_cons_zero, List.set_cons_succ]
      go_wp2_with fail
      go_meet
      exact ⟨L, HX2, h10, h11, h12, HB2⟩
  case rest =>
    obtain ⟨L, hX, hra, hrb, hrc, hB2⟩ := hcut
    have HM := Lib.hid (safe_begin HT HB HL hX hra hrb hrc hB2)
    clear hra hrb hrc hX hB2 HT HB
    have HD : Hid ((A.crash c).down = false) := rfl
    have HG := Lib.hid HM.out.p.good
    have HZ := Lib.hid (crash_loose A c)
    have HY := Lib.hid (crash_again A c more)
    have HN : Hid ((A.crash c).n = 6) := (n_crash A c).trans HA.out
    have q0 := HM.out.b.b1.c0
    have q1 := HM.out.b.b1.c1
    have q2 := HM.out.b.b1.c2
    obtain ⟨ga, ca, rfl, ha1, ha2, hca⟩ := HM.out.ra
    obtain ⟨gb, cb', rfl, hb1, hb2, hcb⟩ := HM.out.rb
    obtain ⟨gc, cc', rfl, hc1, hc2, hcc⟩ := HM.out.rc
    rw [show (safeL A).length = 6 from by simp [safeL, ← HA.out, St.n]] at HM ⊢
    rw [show (isL A).length = 6 from by simp [isL, ← HA.out, St.n]] at HM ⊢
    rw [show L.length = 6 from HM.out.l.1.trans HA.out] at HM ⊢
    clear hca hcb hcc
    go_wp2_with fail
    refine (crash_any (c := c) HM.out.p (HM.out.b.k1.lift (by have := HL.out; omega))).mono ?_
    rintro e w3 ⟨rfl, hp3, ht3⟩
    have HM3 := Lib.hid (HM.out.crashed hp3 ht3)
    clear hp3 ht3 HM q0 q1 q2
    go_wp2_with fail
    go_loopw [13, 14] (fun t i wr => ∃ m q : Nat, m ≤ 6 ∧ i = .int .i64 m ∧ t = .int .i64 q ∧ q ≤ 1 ∧ (q = 1 → c.torn < (upTo A m : Int)) ∧ Hid (SafeR w k r A (A.crash c) L ga gb gc ca cb' cc' Q R lb cb lc cc c more wr)) (fun _ i _ => 100 - (intOf i).toNat)
    case atStart => exact ⟨0, 0, Nat.zero_le _, rfl, rfl, Nat.zero_le _, fun h => absurd h (by decide), HM3⟩
    case round =>
      obtain ⟨m, q, hm, rfl, rfl, hq1, hqt, hR⟩ := hrel
      have HQ := Lib.hid hqt
      clear hqt
      by_cases hlt : m < 6
      · have hltI : (m : Int) < 6 := by omega
        have hlm : m < A.secs.length := by have := HA.out; unfold St.n at this; omega
        obtain ⟨x, hx⟩ : ∃ x, A.secs[m]? = some x := ⟨_, List.getElem?_eq_getElem hlm⟩
        have hl64 := HG.out.len x (List.mem_of_getElem? hx)
        have HRd := Lib.hid (read_in m hR.out.p HD.out (by rw [HN.out]; exact hlt))
        rw [crash_at A c m x hx] at HRd
        have qa := rowAt_cell hR.out.ra m (str x.safe) (by simp [safeL, hx])
        have qc := rowAt_cell hR.out.rc m (.bool x.is) (by simp [isL, hx])
        have HU := Lib.hid (upTo_succ A m x hx)
        cases hi : x.is
        · rw [hi] at qc HRd HU
          simp only [Bool.false_eq_true, if_false] at HRd HU
          unfold str at qa
          have hF : (⟨x.safe.toArray⟩ : ByteArray).size = 64 := hl64.1
          generalize (⟨x.safe.toArray⟩ : ByteArray) = F at *
          clear hx hi hlm hl64
          go_wp2_with fail
          refine HRd.out.mono ?_
          rintro e w' ⟨rfl, rfl⟩
          go_wp2_with fail
          go_roundw
          case rel => exact ⟨m + 1, q, by omega, by go_num, rfl, hq1, fun h => by have := HQ.out h; rw [HU.out]; omega, hR⟩
          case measure => simp [intOf]; omega
        · have qb := rowAt_cell hR.out.rb m (str x.new) (hR.out.l.2 m x hx hi)
          rw [hi] at qc HRd HU
          simp only [if_true] at HRd HU
          have HT := Lib.hid (torn_of x hl64 (c.k (upTo A m)) (k_le c _))
          have HK := Lib.hid (k_mid c (upTo A m))
          have HKK := Lib.hid (k_le c (upTo A m))
          unfold str at qa qb
          generalize c.k (upTo A m) = kk at *
          generalize (⟨(x.new.take kk ++ x.safe.drop kk).toArray⟩ : ByteArray) = S at *
          generalize hFf : (⟨x.safe.toArray⟩ : ByteArray) = F at *
          generalize hNn : (⟨x.new.toArray⟩ : ByteArray) = N at *
          have hs := HT.out.s
          have hN : ∀ wx, SafeR w k r A (A.crash c) L ga gb gc ca cb' cc' Q R lb cb lc cc c more wx → wx.cell? ⟨gb, m, none⟩ = some (.string N) ∧ wx.cell? ⟨ga, m, none⟩ = some (.string F) := fun wx h =>
            ⟨rowAt_cell h.rb m _ (hNn ▸ h.l.2 m x hx hi), rowAt_cell h.ra m _ (by rw [← hFf]; simp [safeL, hx, str])⟩
          have HN2 := Lib.hid hN
          clear hx hi hlm hl64 hN hNn hFf
          by_cases hSF : S = F
          · subst hSF
            go_wp2_with fail
            refine HRd.out.mono ?_
            rintro e w' ⟨rfl, rfl⟩
            go_wp2_with fail
            go_roundw
            case rel => exact ⟨m + 1, q, by omega, by go_num, rfl, hq1, fun h => by have := HQ.out h; rw [HU.out]; omega, hR⟩
            case measure => simp [intOf]; omega
          · have e1 : ¬ S.toList = F.toList := fun h => hSF (bytes_inj (by rw [← ByteArray.toList_eq, ← ByteArray.toList_eq]; exact h))
            have e2 : (S.toList == F.toList) = false := by simpa using e1
            by_cases hSN : S = N
            · subst hSN
              clear hSF
              go_wp2_with fail
              refine HRd.out.mono ?_
              rintro e w' ⟨rfl, rfl⟩
              go_wp2_with fail
              go_roundw
              case rel => exact ⟨m + 1, q, by omega, by go_num, rfl, hq1, fun h => by have := HQ.out h; rw [HU.out]; omega, hR⟩
              case measure => simp [intOf]; omega
            · have e3 : (S.toList == N.toList) = false := by
                have : ¬ S.toList = N.toList := fun h => hSN (bytes_inj (by rw [← ByteArray.toList_eq, ← ByteArray.toList_eq]; exact h))
                simpa using this
              have HK2 := Lib.hid (HK.out (fun h => hSF (HT.out.z h)) (fun h => hSN (HT.out.e h)))
              have hq0 : q = 0 := by
                rcases Nat.lt_or_ge 0 q with h | h
                · have h1 := HQ.out (by omega)
                  have h2 := HK2.out
                  omega
                · omega
              subst hq0
              clear hSF hSN HK
              go_wp2_with fail
              refine HRd.out.mono ?_
              rintro e w' ⟨rfl, rfl⟩
              go_wp2_with fail
              obtain ⟨wo, rfl⟩ : ∃ wo : World, wo = wr := ⟨_, rfl⟩
              clear qa qb qc e1 e2 e3 HRd
              go_loopw [17] (fun j wr => ∃ p : Nat, p ≤ 64 ∧ j = .int .i64 p ∧ Hid (SafeR w k r A (A.crash c) L ga gb gc ca cb' cc' Q R lb cb lc cc c more wr)) (fun j _ => 100 - (intOf j).toNat)
              case atStart => exact ⟨0, Nat.zero_le _, rfl, hR⟩
              case round =>
                obtain ⟨p, hp, rfl, hR2⟩ := hrel
                have hn := HT.out.n
                obtain ⟨qb, qa⟩ := HN2.out _ hR2.out
                by_cases hp64 : p < 64
                · have hp64I : (p : Int) < 64 := by omega
                  have hpS : p < S.size := by omega
                  have hpN : p < N.size := by omega
                  by_cases heq : S[p] = N[p]
                  · have hb : ((S[p].toNat : Int) == (N[p].toNat : Int)) = true := by rw [heq]; simp
                    go_wp2_with fail
                    go_quiet (fail)
                    have hR3 := Lib.hid (hR2.out.below (below_drewN (Below.refl _ _) nq))
                    generalize wr.drewN nq = wy at *
                    go_wp2_with fail
                    go_roundw
                    case rel => exact ⟨p + 1, by omega, by go_num, hR3⟩
                    case measure => simp [intOf]; omega
                  · have hkk : kk ≤ p := by
                      rcases Nat.lt_or_ge p kk with h | h
                      · exact absurd (HT.out.lo p hpS hpN h) heq
                      · exact h
                    have hb : ((S[p].toNat : Int) == (N[p].toNat : Int)) = false := by
                      rw [beq_eq_false_iff_ne]
                      exact fun h => heq (UInt8.toNat_inj.1 (by omega))
                    clear heq
                    go_wp2_with fail
                    go_quiet (fail)
                    go_wp2_with fail
                    have hR3 := Lib.hid (hR2.out.below (below_drewN (Below.refl _ _) nq))
                    generalize wr.drewN nq = wy at *
                    obtain ⟨qb3, qa3⟩ := HN2.out _ hR3.out
                    have hf := HT.out.f
                    have hpF : (p : Int) ≤ (F.size : Int) := by omega
                    have hpS2 : (p : Int) ≤ (S.size : Int) := by omega
                    have hx : S.extract p 64 = F.extract p 64 := by have := HT.out.hi p hkk; rw [HT.out.s, HT.out.f] at this; exact this
                    go_quiet (fail)
                    have hR4 := Lib.hid (hR3.out.below (below_drewN (Below.refl _ _) nq))
                    generalize wy.drewN nq = wz at *
                    go_wp2_with fail
                    go_roundw
                    case rel => exact ⟨m + 1, 1, by omega, by go_num, rfl, Nat.le_refl _, fun _ => by have := HK2.out; rw [HU.out]; omega, hR4⟩
                    case measure => simp [intOf]; omega
                · obtain rfl : p = 64 := by omega
                  have hd : decide (((64 : Nat) : Int) < 64) = false := by decide
                  have hkk : kk ≤ 64 := HKK.out
                  go_wp2_with fail
                  go_quiet (fail)
                  go_wp2_with fail
                  have hR3 := Lib.hid (hR2.out.below (below_drewN (Below.refl _ _) nq))
                  generalize wr.drewN nq = wy at *
                  obtain ⟨qb3, qa3⟩ := HN2.out _ hR3.out
                  have hf := HT.out.f
                  have hpF : (64 : Int) ≤ (F.size : Int) := by omega
                  have hpS2 : (64 : Int) ≤ (S.size : Int) := by omega
                  have hx : S.extract 64 64 = F.extract 64 64 := by have := HT.out.hi 64 hkk; rw [HT.out.s, HT.out.f] at this; exact this
                  go_quiet (fail)
                  have hR4 := Lib.hid (hR3.out.below (below_drewN (Below.refl _ _) nq))
                  generalize wy.drewN nq = wz at *
                  go_wp2_with fail
                  go_roundw
                  case rel => exact ⟨m + 1, 1, by omega, by go_num, rfl, Nat.le_refl _, fun _ => by have := HK2.out; rw [HU.out]; omega, hR4⟩
                  case measure => simp [intOf]; omega
      · obtain rfl : m = 6 := by omega
        have HRd := Lib.hid (read_in 2 hR.out.p HD.out (by rw [HN.out]; decide))
        generalize hS : (⟨((A.crash c).at_ 2).toArray⟩ : ByteArray) = S at *
        have HS := Lib.hid hS
        have hqI : (q : Int) ≤ 1 := by omega
        clear hS
        have r0 := hR.out.b.b2.c0
        have r1 := hR.out.b.b2.c1
        have r2 := hR.out.b.b2.c2
        go_wp2_with fail
        refine HRd.out.mono ?_
        rintro e w' ⟨rfl, rfl⟩
        go_wp2_with fail
        refine (crash_any (c := more) hR.out.p (hR.out.b.k2.lift (by have := HL.out; omega))).mono ?_
        rintro e w4 ⟨rfl, hp4, ht4⟩
        rw [HY.out] at hp4
        have HR4 := Lib.hid (hR.out.crashed hp4 ht4)
        have HRe := Lib.hid (read_in 2 HR4.out.p HD.out (by rw [HN.out]; decide))
        rw [HS.out] at HRe
        have HLo := Lib.hid (loose_any HR4.out.p)
        rw [HZ.out] at HLo
        have HDn := Lib.hid (down_any HR4.out.p)
        rw [HD.out] at HDn
        clear hp4 ht4 hR r0 r1 r2
        go_wp2_with fail
        refine HRe.out.mono ?_
        rintro e w' ⟨rfl, rfl⟩
        go_wp2_with fail
        refine HLo.out.mono ?_
        rintro e w' ⟨rfl, rfl⟩
        go_wp2_with fail
        refine HDn.out.mono ?_
        rintro e w' ⟨rfl, rfl⟩
        go_wp2_with fail
        go_ret
        exact ⟨by simp, HR4.out.b.b⟩
set_option maxRecDepth 100000 in
theorem safe_law : Frame.LawCalls 3 Try.f3 := by
  intro H enc W base args ds p hval hA _ _ _
  rw [Try.params3] at hA hval
  obtain ⟨v0, vs0, d0, ds0, p0, q0, hargs, rfl, rfl, h0, r0⟩ := trodAll_cons hA
  obtain ⟨v1, vs1, d1, ds1, p1, q1, rfl, rfl, rfl, h1, r1⟩ := trodAll_cons r0
  obtain ⟨v2, vs2, d2, ds2, p2, q2, rfl, rfl, rfl, h2, r2⟩ := trodAll_cons r1
  obtain ⟨rfl, rfl, rfl⟩ := trodAll_nil r2
  obtain rfl : args = #[v0, v1, v2] := by cases args; simp_all
  obtain ⟨A, len, cap, rfl, ha⟩ := acts_args (hval 0 22 v0 rfl rfl) h0
  obtain ⟨c, Q, lb, cb, rfl, hq⟩ := crash_args (hval 1 25 v1 rfl rfl) h1
  obtain ⟨more, R, lc, cc, rfl, hr⟩ := crash_args (hval 2 25 v2 rfl rfl) h2
  exact safe_any A Q R len cap lb cb lc cc c more W ha hq hr
set_option maxRecDepth 100000 in
theorem safe_lifted (os : Os) (started : os.Started) (H : Type) (enc : TypeId × Value → H) :
    ReturnsInHanded {} Try.checked os 3 .any (Rows.diskSafeSpec.pre6 enc Try.prog Try.f3 Rows.diskSafeRow.domain false) (Rows.diskSafeSpec.post enc Try.prog Try.f3 false true false false) :=
  Frame.lifted (s := Rows.diskSafeSpec) (by kernel_rfl) Try.func3 (by kernel_rfl) rfl (tb := 4) (by kernel_rfl) Try.underlying4
    (fun H ds h => by
      obtain ⟨d, e, g, rfl⟩ := three_data ds h
      rfl) safe_law os started H enc
    (ChangeSpec.witness6 (enc := enc) (C := Try.checked) false ⟨#[], #[.slice none 0 0, .agg #[.slice none 0 0, .int .i64 0, .int .i64 0], .agg #[.slice none 0 0, .int .i64 0, .int .i64 0]], []⟩ 8 (by kernel_rfl) (by kernel_rfl) (by kernel_rfl) (by kernel_rfl))
theorem safe_holds : Rows.DiskSafeSaid :=
  OpenClaim.holds_of_wide 3 Try.f3 rfl rfl rfl rfl rfl rfl rfl ⟨rfl, rfl, rfl, rfl, rfl⟩ rfl rfl rfl rfl rfl (by kernel_rfl) Try.func3 (by kernel_rfl)
    (of_decide_eq_true (by kernel_rfl)) (by unfold Func.isWrapper; first | (rw [if_pos (by decide +kernel)]; kernel_rfl) | (rw [if_neg (by decide +kernel)]; exact ⟨rfl, rfl⟩))
    (fun os started H enc _ => safe_lifted os started H enc)
#print axioms safe_holds
end Go.Proofs.Ytpjpncfoenadhaa
