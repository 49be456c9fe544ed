/- Pages read from the program's disk. Condition: the disk lies in memory. -/
import Derived.Test.YtpjpncfoenadhaaPageWrite
namespace Go.Proofs.Ytpjpncfoenadhaa
open Go.RowKit Go.WideShapes Pg Dk

def readPV (r : Page × Int) : Value := .tuple #[pageV r.1, .int .i64 r.2]
/-- the result's box, as it was made -/
def ZBox (w : World) (r : Nat) : Prop := w.heap[r]? = some (.cells #[.int .i64 0, .int .i64 0, .int .i64 0, .string ⟨#[]⟩] 56 (0, 0))
theorem ZBox.below {w w' : World} {r B : Nat} (h : ZBox w r) (hb : Below B w w') (hB : r < B) : ZBox w' r := (hb.block r hB).trans h
theorem ZBox.q {w1 : World} {r : Nat} (h : ZBox w1 r) : w1.cell? ⟨r, 0, none⟩ = some (.int .i64 0) ∧ w1.cell? ⟨r, 1, none⟩ = some (.int .i64 0) ∧ w1.cell? ⟨r, 2, none⟩ = some (.int .i64 0) ∧ w1.cell? ⟨r, 3, none⟩ = some (.string ⟨#[]⟩) ∧
      w1.frozen? ⟨r, 0, none⟩ = false ∧ w1.frozen? ⟨r, 1, none⟩ = false ∧ w1.frozen? ⟨r, 2, none⟩ = false ∧ w1.frozen? ⟨r, 3, none⟩ = false :=
  ⟨cell_of_row w1 _ 0 _ _ (0, 0) h, cell_of_row w1 _ 1 _ _ (0, 0) h, cell_of_row w1 _ 2 _ _ (0, 0) h, cell_of_row w1 _ 3 _ _ (0, 0) h, frozen_of_row w1 _ 0 _ _ h, frozen_of_row w1 _ 1 _ _ h, frozen_of_row w1 _ 2 _ _ h, frozen_of_row w1 _ 3 _ _ h⟩
theorem ZBox.new (w : World) : ZBox (w.alloc (.cells #[.int .i64 0, .int .i64 0, .int .i64 0, .string ⟨#[]⟩] 56 (0, 0))) w.heap.size := World.alloc_heap_new w _
set_option maxRecDepth 100000 in
set_option maxHeartbeats 2000000 in
theorem pread_nil (id : Int) (w : World) : Calls Try.prog 41 #[.pointer none, .int .i64 id] w fun e w' => e = .returned (readPV (zero, 1)) ∧ Below w.heap.size w w' := by
  go_enter Try.func41, Try.ntmps41
  go_wp2_with fail
  refine bodyPost_ret (v := readPV (zero, 1)) (by unfold readPV pageV zero; simp [results, Try.results41, go_sem]) rfl ⟨rfl, ?_⟩
  exact (Below.refl _ _).alloc (Nat.le_refl _) _
set_option maxRecDepth 100000 in
set_option maxHeartbeats 2000000 in
theorem pread_out {w : World} {k : DB} {A : Dk.St} (id : Int) (h : PD w k A) (ho : id < 0 ∨ (many A.n : Int) ≤ id) :
    Calls Try.prog 41 #[.pointer (some ⟨k.g, 0, none⟩), .int .i64 id] w fun e w' => e = .returned (readPV (zero, 3)) ∧ Below w.heap.size w w' := by
  have hb0 : Below w.heap.size w (w.alloc (.cells #[.int .i64 0, .int .i64 0, .int .i64 0, .string ⟨#[]⟩] 56 (0, 0))) := (Below.refl _ _).alloc (Nat.le_refl _) _
  have HM := Lib.hid (many_any (h.below hb0))
  clear h hb0
  by_cases h0 : id < 0
  · clear ho
    go_enter Try.func41, Try.ntmps41
    go_wp2_with fail
    refine bodyPost_ret (v := readPV (zero, 3)) (by unfold readPV pageV zero; simp [results, Try.results41, go_sem]) rfl ⟨rfl, ?_⟩
    exact (Below.refl _ _).alloc (Nat.le_refl _) _
  · have h1 : (many A.n : Int) ≤ id := by omega
    clear ho
    go_enter Try.func41, Try.ntmps41
    go_wp2_with fail
    refine HM.out.mono ?_
    rintro en w' ⟨rfl, rfl⟩
    go_wp2_with fail
    refine bodyPost_ret (v := readPV (zero, 3)) (by unfold readPV pageV zero; simp [results, Try.results41, go_sem]) rfl ⟨rfl, ?_⟩
    exact (Below.refl _ _).alloc (Nat.le_refl _) _
/-- what has been read so far -/
structure RdR (w : World) (k : DB) (A : Dk.St) (l : List UInt8) (v : Value) (wr : World) : Prop where
  box : ZBox wr w.heap.size
  own : wr.ownsRow (w.heap.size + 1) 5 1 v l.length (bs l)
  p : PD wr k A
  b : Below w.heap.size w wr
theorem RdR.grow {w wr w1 : World} {k : DB} {A : Dk.St} {l m : List UInt8} {v v' : Value} (h : RdR w k A l v wr) (hin : k.hi ≤ w.heap.size) (hg : wr.grownBy w1 v.ownBlock) (hown : w1.ownsRow (w.heap.size + 1) 5 1 v' (l.length + m.length) (bs l ++ bs m)) : RdR w k A (l ++ m) v' w1 := by
  have hz := lt_of_block h.box
  have hb : Below (w.heap.size + 1) wr w1 := ⟨hg.os, hg.tape, hg.output, hg.size, fun i hi => hg.block i (by omega) (fun e => by have := (h.own.lt i e.symm).1; omega)⟩
  refine ⟨h.box.below hb (by omega), by rw [List.length_append, bs_append]; exact hown, h.p.far (lo := w.heap.size + 1) (hi := w1.heap.size) ⟨hg.os, hg.tape, hg.output, hg.size, fun i hi hd => ?_⟩ (.inl (by omega)), h.b.trans (hb.mono (by omega))⟩
  rcases hd with hd | hd
  · exact hb.block i hd
  · have := hg.size
    omega
def preL (A : Dk.St) (K : Nat) : Nat → List UInt8
  | 0 => []
  | m + 1 => preL A K m ++ A.at_ (K + m)
theorem pre_sects (A : Dk.St) (K : Nat) : preL A K 4 = sects A K := by
  unfold sects
  simp only [preL, List.nil_append, List.append_assoc]
  rfl
theorem pre_len {A : Dk.St} (hg : A.Good) (K : Nat) : ∀ m, K + m ≤ A.n → (preL A K m).length = 64 * m
  | 0, _ => rfl
  | m + 1, h => by
    have hlt : K + m < A.secs.length := by unfold Dk.St.n at h; omega
    have : (A.at_ (K + m)).length = 64 := by
      unfold Dk.St.at_
      rw [List.getD_eq_getElem?_getD, List.getElem?_eq_getElem hlt]
      exact now_len (hg.len _ (List.getElem_mem hlt))
    rw [preL, List.length_append, pre_len hg K m (by omega), this]
    omega
set_option maxRecDepth 100000 in
set_option maxHeartbeats 4000000 in
theorem pread_down {w : World} {k : DB} {A : Dk.St} (i : Nat) (h : PD w k A) (hi : i < many A.n) (hd : A.down = true) :
    Calls Try.prog 41 #[.pointer (some ⟨k.g, 0, none⟩), .int .i64 (i : Int)] w fun e w' => e = .returned (readPV (zero, 13)) ∧ Below w.heap.size w w' := by
  have hnb := h.nb
  have hmany : many A.n ≤ 1100 := by unfold many; omega
  have hb0 : Below w.heap.size w (w.alloc (.cells #[.int .i64 0, .int .i64 0, .int .i64 0, .string ⟨#[]⟩] 56 (0, 0))) := (Below.refl _ _).alloc (Nat.le_refl _) _
  have HM := Lib.hid (many_any (h.below hb0))
  have HP0 := Lib.hid (h.below hb0)
  have HQ0 := Lib.hid hb0
  have HZ0 := Lib.hid (ZBox.new w)
  have HD := Lib.hid hd
  have hiI : (i : Int) < (many A.n : Nat) := by omega
  clear h hb0 hd
  go_enter Try.func41, Try.ntmps41
  go_wp2_with fail
  refine HM.out.mono ?_
  rintro en w' ⟨rfl, rfl⟩
  go_wp2_with fail
  refine (sects_any i _ (by omega)).mono ?_
  rintro en w1 ⟨rfl, hb⟩
  have HP1 := Lib.hid (HP0.out.below hb)
  have HQ1 := Lib.hid (HQ0.out.trans (hb.mono (by simp)))
  have HZ1 := Lib.hid (HZ0.out.below hb (by simp))
  have hz : w.heap.size < w1.heap.size := by have := hb.size; simp at this; omega
  clear hb HP0 HQ0 HZ0 HM
  have i0 : ∀ w, (Instr.index 92 (.agg #[.int .i64 (2 + (i : Int) * 4), .int .i64 (2 + (i : Int) * 4 + 1), .int .i64 (2 + (i : Int) * 4 + 2), .int .i64 (2 + (i : Int) * 4 + 3)]) (.int .i64 0)).run Try.prog w = .ok (.int .i64 (2 + (i : Int) * 4)) w := fun _ => by kernel_rfl
  have HRd : Hid (Calls Try.prog 18 #[.pointer (some ⟨k.g, 0, none⟩), .int .i64 (2 + (i : Int) * 4)] w1 fun e w' => e = .returned (.tuple #[.string ⟨#[]⟩, .int .i64 13]) ∧ w1 = w') := by
    have := read_any (2 + (i : Int) * 4) HP1.out
    have e : A.read (2 + (i : Int) * 4) = ([], 13) := by unfold Dk.St.read; rw [if_pos HD.out]
    rw [e] at this
    exact this
  obtain ⟨c0, c1, c2, c3, f0, f1, f2, f3⟩ := HZ1.out.q
  go_wp2_with fail
  refine wp_loop_rounds 2 ?_
  rw [rounds_succ]
  go_wp2_with fail
  refine HRd.out.mono ?_
  rintro en w' ⟨rfl, rfl⟩
  go_wp2_with fail
  refine bodyPost_ret (v := readPV (zero, 13)) (by unfold readPV pageV zero; simp [results, Try.results41, go_sem, c0, c1, c2, c3]) rfl ⟨rfl, ?_⟩
  exact (((HQ1.out.setCell (Nat.le_refl _) _).setCell (Nat.le_refl _) _).setCell (Nat.le_refl _) _).setCell (Nat.le_refl _) _
set_option maxRecDepth 100000 in
set_option maxHeartbeats 8000000 in
theorem pread_in {w : World} {k : DB} {A : Dk.St} (i : Nat) (h : PD w k A) (hi : i < many A.n) (hd : A.down = false) :
    Calls Try.prog 41 #[.pointer (some ⟨k.g, 0, none⟩), .int .i64 (i : Int)] w fun e w' => e = .returned (readPV (Pg.read A i)) ∧ Below w.heap.size w w' := by
  have hnb := h.nb
  have hmany : many A.n ≤ 1100 := by unfold many; omega
  have hin4 : 2 + 4 * i + 4 ≤ A.n := by unfold many at hi; omega
  have HRA : Hid (∀ m : Nat, m < 4 → ∀ wr, PD wr k A → Calls Try.prog 18 #[.pointer (some ⟨k.g, 0, none⟩), .int .i64 (2 + (i : Int) * 4 + (m : Int))] wr fun e w' => e = .returned (.tuple #[.string ⟨(A.at_ (2 + 4 * i + m)).toArray⟩, .int .i64 0]) ∧ wr = w') := fun m hm wr hp => by
    have := read_in (2 + 4 * i + m) hp hd (by omega)
    rwa [show ((2 + 4 * i + m : Nat) : Int) = 2 + (i : Int) * 4 + (m : Int) by omega] at this
  have HPL : Hid (∀ m : Nat, m ≤ 4 → (preL A (2 + 4 * i) m).length = 64 * m) := fun m hm => pre_len h.good _ m (by omega)
  have HTL : Hid (∀ m : Nat, m < 4 → (⟨(A.at_ (2 + 4 * i + m)).toArray⟩ : ByteArray).size = 64) := fun m hm => by
    have h1 := pre_len h.good (2 + 4 * i) m (by omega)
    have h2 := pre_len h.good (2 + 4 * i) (m + 1) (by omega)
    rw [preL, List.length_append] at h2
    show (A.at_ (2 + 4 * i + m)).length = 64
    omega
  have HIN := Lib.hid h.inn
  have HRV : Hid (Pg.read A i = if (Pg.get (sects A (2 + 4 * i))).2 ≠ 0 then (zero, (Pg.get (sects A (2 + 4 * i))).2) else if (Pg.get (sects A (2 + 4 * i))).1.id ≠ i then (zero, 14) else Pg.get (sects A (2 + 4 * i))) := by
    unfold Pg.read
    rw [if_neg (by omega), if_neg (by simp [hd]), Int.toNat_natCast i]
    exact rfl
  have hb0 : Below w.heap.size w (w.alloc (.cells #[.int .i64 0, .int .i64 0, .int .i64 0, .string ⟨#[]⟩] 56 (0, 0))) := (Below.refl _ _).alloc (Nat.le_refl _) _
  have HM := Lib.hid (many_any (h.below hb0))
  have HP0 := Lib.hid (h.below hb0)
  have HQ0 := Lib.hid hb0
  have HZ0 := Lib.hid (ZBox.new w)
  have hiI : (i : Int) < (many A.n : Nat) := by omega
  clear h hb0 hd
  go_enter Try.func41, Try.ntmps41
  go_wp2_with fail
  refine HM.out.mono ?_
  rintro en w' ⟨rfl, rfl⟩
  go_wp2_with fail
  refine (sects_any i _ (by omega)).mono ?_
  rintro en w1 ⟨rfl, hb⟩
  have HI : Hid (RdR w k A (preL A (2 + 4 * i) 0) (.slice none 0 0) w1) := ⟨HZ0.out.below hb (by simp), World.ownsRow_nil _ _ _ _, HP0.out.below hb, HQ0.out.trans (hb.mono (by simp))⟩
  clear hb HP0 HQ0 HZ0 HM hiI
  have i0 : ∀ w, (Instr.index 92 (.agg #[.int .i64 (2 + (i : Int) * 4), .int .i64 (2 + (i : Int) * 4 + 1), .int .i64 (2 + (i : Int) * 4 + 2), .int .i64 (2 + (i : Int) * 4 + 3)]) (.int .i64 0)).run Try.prog w = .ok (.int .i64 (2 + (i : Int) * 4)) w := fun _ => by kernel_rfl
  have i1 : ∀ w, (Instr.index 92 (.agg #[.int .i64 (2 + (i : Int) * 4), .int .i64 (2 + (i : Int) * 4 + 1), .int .i64 (2 + (i : Int) * 4 + 2), .int .i64 (2 + (i : Int) * 4 + 3)]) (.int .i64 1)).run Try.prog w = .ok (.int .i64 (2 + (i : Int) * 4 + 1)) w := fun _ => by kernel_rfl
  have i2 : ∀ w, (Instr.index 92 (.agg #[.int .i64 (2 + (i : Int) * 4), .int .i64 (2 + (i : Int) * 4 + 1), .int .i64 (2 + (i : Int) * 4 + 2), .int .i64 (2 + (i : Int) * 4 + 3)]) (.int .i64 2)).run Try.prog w = .ok (.int .i64 (2 + (i : Int) * 4 + 2)) w := fun _ => by kernel_rfl
  have i3 : ∀ w, (Instr.index 92 (.agg #[.int .i64 (2 + (i : Int) * 4), .int .i64 (2 + (i : Int) * 4 + 1), .int .i64 (2 + (i : Int) * 4 + 2), .int .i64 (2 + (i : Int) * 4 + 3)]) (.int .i64 3)).run Try.prog w = .ok (.int .i64 (2 + (i : Int) * 4 + 3)) w := fun _ => by kernel_rfl
  obtain ⟨u0, ui, uz0, uz1, uz2⟩ := info_parts u8_row
  go_wp2_with fail
  go_loopw [6, 29] (fun v j wr => ∃ (m : Nat), m ≤ 4 ∧ j = .int .i64 m ∧ Hid (RdR w k A (preL A (2 + 4 * i) m) v wr)) (fun _ j _ => 100 - (intOf j).toNat)
  case atStart => exact ⟨0, by omega, rfl, HI⟩
  case round =>
    obtain ⟨m, hm, rfl, hR⟩ := hrel
    clear HI
    match m, hm with
    | 0, _ =>
      rw [show ((0 : Nat) : Int) = 0 from rfl]
      have HRd := Lib.hid (HRA.out 0 (by decide) wr hR.out.p)
      have hx : (2 + (i : Int) * 4 + ((0 : Nat) : Int)) = 2 + (i : Int) * 4 := by simp
      rw [hx] at HRd
      clear hx
      obtain ⟨ad, n, cap, rfl, hn⟩ := owns_form hR.out.own
      have HN := Lib.hid hn
      have HT := Lib.hid (HTL.out 0 (by decide))
      have HLn := Lib.hid (HPL.out 0 (by decide))
      clear hn
      go_wp2_with fail
      refine HRd.out.mono ?_
      rintro en w' ⟨rfl, rfl⟩
      go_wp2_with (at_builtin; refine Lib.wpList_append_own_string _ rfl (.tmp 42) (.tmp 43) 81 9 rfl (w.heap.size + 1) 5 u0 Try.underlying81 Try.underlying9 ui uz0 uz1 uz2 _ _ _ rfl hR.out.own ⟨(A.at_ (2 + 4 * i + 0)).toArray⟩ rfl (by rw [HT.out, HLn.out, show maxLen = 9223372036854775807 from rfl]; omega) (by rw [HT.out, HLn.out]; omega) (by have := lt_of_block hR.out.box; omega) ?_; intro v2 w2 hown2 hgrow2 _; have HG := Lib.hid (hR.out.grow (m := A.at_ (2 + 4 * i + 0)) HIN.out hgrow2 hown2); clear hown2 hgrow2)
      go_roundw
      case rel => exact ⟨1, by omega, rfl, HG⟩
      case measure => simp [intOf]
    | 1, _ =>
      rw [show ((1 : Nat) : Int) = 1 from rfl]
      have HRd := Lib.hid (HRA.out 1 (by decide) wr hR.out.p)
      have hx : (2 + (i : Int) * 4 + ((1 : Nat) : Int)) = 2 + (i : Int) * 4 + 1 := by simp
      rw [hx] at HRd
      clear hx
      obtain ⟨ad, n, cap, rfl, hn⟩ := owns_form hR.out.own
      have HN := Lib.hid hn
      have HT := Lib.hid (HTL.out 1 (by decide))
      have HLn := Lib.hid (HPL.out 1 (by decide))
      clear hn
      go_wp2_with fail
      refine HRd.out.mono ?_
      rintro en w' ⟨rfl, rfl⟩
      go_wp2_with (at_builtin; refine Lib.wpList_append_own_string _ rfl (.tmp 42) (.tmp 43) 81 9 rfl (w.heap.size + 1) 5 u0 Try.underlying81 Try.underlying9 ui uz0 uz1 uz2 _ _ _ rfl hR.out.own ⟨(A.at_ (2 + 4 * i + 1)).toArray⟩ rfl (by rw [HT.out, HLn.out, show maxLen = 9223372036854775807 from rfl]; omega) (by rw [HT.out, HLn.out]; omega) (by have := lt_of_block hR.out.box; omega) ?_; intro v2 w2 hown2 hgrow2 _; have HG := Lib.hid (hR.out.grow (m := A.at_ (2 + 4 * i + 1)) HIN.out hgrow2 hown2); clear hown2 hgrow2)
      go_roundw
      case rel => exact ⟨2, by omega, rfl, HG⟩
      case measure => simp [intOf]
    | 2, _ =>
      rw [show ((2 : Nat) : Int) = 2 from rfl]
      have HRd := Lib.hid (HRA.out 2 (by decide) wr hR.out.p)
      have hx : (2 + (i : Int) * 4 + ((2 : Nat) : Int)) = 2 + (i : Int) * 4 + 2 := by simp
      rw [hx] at HRd
      clear hx
      obtain ⟨ad, n, cap, rfl, hn⟩ := owns_form hR.out.own
      have HN := Lib.hid hn
      have HT := Lib.hid (HTL.out 2 (by decide))
      have HLn := Lib.hid (HPL.out 2 (by decide))
      clear hn
      go_wp2_with fail
      refine HRd.out.mono ?_
      rintro en w' ⟨rfl, rfl⟩
      go_wp2_with (at_builtin; refine Lib.wpList_append_own_string _ rfl (.tmp 42) (.tmp 43) 81 9 rfl (w.heap.size + 1) 5 u0 Try.underlying81 Try.underlying9 ui uz0 uz1 uz2 _ _ _ rfl hR.out.own ⟨(A.at_ (2 + 4 * i + 2)).toArray⟩ rfl (by rw [HT.out, HLn.out, show maxLen = 9223372036854775807 from rfl]; omega) (by rw [HT.out, HLn.out]; omega) (by have := lt_of_block hR.out.box; omega) ?_; intro v2 w2 hown2 hgrow2 _; have HG := Lib.hid (hR.out.grow (m := A.at_ (2 + 4 * i + 2)) HIN.out hgrow2 hown2); clear hown2 hgrow2)
      go_roundw
      case rel => exact ⟨3, by omega, rfl, HG⟩
      case measure => simp [intOf]
    | 3, _ =>
      rw [show ((3 : Nat) : Int) = 3 from rfl]
      have HRd := Lib.hid (HRA.out 3 (by decide) wr hR.out.p)
      have hx : (2 + (i : Int) * 4 + ((3 : Nat) : Int)) = 2 + (i : Int) * 4 + 3 := by simp
      rw [hx] at HRd
      clear hx
      obtain ⟨ad, n, cap, rfl, hn⟩ := owns_form hR.out.own
      have HN := Lib.hid hn
      have HT := Lib.hid (HTL.out 3 (by decide))
      have HLn := Lib.hid (HPL.out 3 (by decide))
      clear hn
      go_wp2_with fail
      refine HRd.out.mono ?_
      rintro en w' ⟨rfl, rfl⟩
      go_wp2_with (at_builtin; refine Lib.wpList_append_own_string _ rfl (.tmp 42) (.tmp 43) 81 9 rfl (w.heap.size + 1) 5 u0 Try.underlying81 Try.underlying9 ui uz0 uz1 uz2 _ _ _ rfl hR.out.own ⟨(A.at_ (2 + 4 * i + 3)).toArray⟩ rfl (by rw [HT.out, HLn.out, show maxLen = 9223372036854775807 from rfl]; omega) (by rw [HT.out, HLn.out]; omega) (by have := lt_of_block hR.out.box; omega) ?_; intro v2 w2 hown2 hgrow2 _; have HG := Lib.hid (hR.out.grow (m := A.at_ (2 + 4 * i + 3)) HIN.out hgrow2 hown2); clear hown2 hgrow2)
      go_roundw
      case rel => exact ⟨4, by omega, rfl, HG⟩
      case measure => simp [intOf]
    | 4, _ =>
      rw [show ((4 : Nat) : Int) = 4 from rfl]
      clear i0 i1 i2 i3
      have hR4 := hR.out
      rw [pre_sects] at hR4
      have hL : (sects A (2 + 4 * i)).length = 256 := by rw [← pre_sects]; exact HPL.out 4 (by decide)
      obtain ⟨ad, n, cap, rfl, hn⟩ := owns_form hR4.own
      subst hn
      have hcv := conv_row hR4.own rfl
      have hbx := hR4.box
      have HP4 := Lib.hid hR4.p
      have HB4 := Lib.hid hR4.b
      rw [hL] at hcv ⊢
      have HG := Lib.hid (fun w => pget_any ⟨(sects A (2 + 4 * i)).toArray⟩ w)
      rw [show (⟨(sects A (2 + 4 * i)).toArray⟩ : ByteArray).data.toList = sects A (2 + 4 * i) from rfl] at HG
      clear hR hR4 hL HRA HPL HTL
      generalize (⟨(sects A (2 + 4 * i)).toArray⟩ : ByteArray) = L at *
      unfold getV at HG
      have HZ := Lib.hid (get_cases (sects A (2 + 4 * i)))
      generalize Pg.get (sects A (2 + 4 * i)) = G at *
      obtain ⟨⟨gi, ge, gk, gs⟩, gr⟩ := G
      unfold pageV at HG
      simp only at HG HZ HRV
      go_wp2_with fail
      refine (HG.out _).mono ?_
      rintro en w5 ⟨rfl, hb5⟩
      have hz := lt_of_block hbx
      have hbx5 := hbx.below hb5 hz
      obtain ⟨c0, c1, c2, c3, f0, f1, f2, f3⟩ := hbx5.q
      have HB5 := Lib.hid (HB4.out.trans (hb5.mono HB4.out.size))
      have hz5 : w.heap.size < w5.heap.size := lt_of_block hbx5
      clear hb5 hbx5 hbx HG hz hcv
      by_cases hr : gr = 0
      · subst hr
        by_cases hid : gi = (i : Int)
        · subst hid
          go_wp2_with fail
          refine bodyPost_ret (v := readPV (⟨(i : Int), ge, gk, gs⟩, 0)) (by unfold readPV pageV; simp [results, Try.results41, go_sem, c0, c1, c2, c3, World.cell?_alloc_lt, hz5]) rfl ⟨?_, ?_⟩
          · rw [HRV.out, if_neg (by simp), if_neg (by simp)]
          · exact ((((HB5.out.setCell (Nat.le_refl _) _).setCell (Nat.le_refl _) _).setCell (Nat.le_refl _) _).setCell (Nat.le_refl _) _).alloc (by simp; exact HB5.out.size) _
        · have hib : (gi != (i : Int)) = true := by rw [bne_iff_ne]; exact hid
          go_wp2_with fail
          refine bodyPost_ret (v := readPV (zero, 14)) (by unfold readPV pageV zero; simp [results, Try.results41, go_sem, c0, c1, c2, c3, World.cell?_alloc_lt, hz5]) rfl ⟨?_, ?_⟩
          · rw [HRV.out, if_neg (by simp), if_pos hid]
          · exact ((((HB5.out.setCell (Nat.le_refl _) _).setCell (Nat.le_refl _) _).setCell (Nat.le_refl _) _).setCell (Nat.le_refl _) _).alloc (by simp; exact HB5.out.size) _
      · have hrb : (gr != 0) = true := by rw [bne_iff_ne]; exact hr
        go_wp2_with fail
        refine bodyPost_ret (v := readPV (zero, gr)) (by unfold readPV pageV zero; simp [results, Try.results41, go_sem, c0, c1, c2, c3, World.cell?_alloc_lt, hz5]) rfl ⟨?_, ?_⟩
        · rw [HRV.out, if_pos hr]
        · exact ((((HB5.out.setCell (Nat.le_refl _) _).setCell (Nat.le_refl _) _).setCell (Nat.le_refl _) _).setCell (Nat.le_refl _) _).alloc (by simp; exact HB5.out.size) _
theorem pread_any {w : World} {k : DB} {A : Dk.St} (id : Int) (h : PD w k A) :
    Calls Try.prog 41 #[.pointer (some ⟨k.g, 0, none⟩), .int .i64 id] w fun e w' => e = .returned (readPV (Pg.read A id)) ∧ Below w.heap.size w w' := by
  by_cases ho : id < 0 ∨ (many A.n : Int) ≤ id
  · have e : Pg.read A id = (zero, 3) := by unfold Pg.read; rw [if_pos ho]
    rw [e]
    exact pread_out id h ho
  · obtain ⟨i, rfl⟩ := Int.eq_ofNat_of_zero_le (show 0 ≤ id by omega)
    cases hd : A.down
    · exact pread_in i h (by omega) hd
    · have e : Pg.read A (i : Int) = (zero, 13) := by unfold Pg.read; rw [if_neg ho, if_pos hd]
      rw [e]
      exact pread_down i h (by omega) hd
end Go.Proofs.Ytpjpncfoenadhaa
