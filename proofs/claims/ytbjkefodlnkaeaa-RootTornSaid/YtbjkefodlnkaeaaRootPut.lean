/- A root laid: the walk of root.Put. Conditions: the parts lie in memory. -/
import Derived.Test.YtbjkefodlnkaeaaRootRightB
import Derived.Test.YtbjkefodlnkaeaaCrcCut
import Derived.Deep.RegionHeld3
import Derived.Deep.RegionLaw
import Derived.Lib.QuietBelow
import Derived.Laws.CopyOwn
namespace Go.Proofs.Ytbjkefodlnkaeaa
open Go.RowKit

theorem Ints.up {lo lo' : Nat} {w : World} {A : Option Addr} {len cap : Nat} {T : List Int} (h : Ints lo w A len cap T) (hl : lo ≤ lo') : Ints lo' w A len cap T :=
  ⟨h.big, h.le, h.n, fun k hk => by
    obtain ⟨ad, e, hb, hc⟩ := h.at_ k hk
    exact ⟨ad, e, Nat.lt_of_lt_of_le hb hl, hc⟩⟩
theorem Ints.to {w w' : World} {A : Option Addr} {len cap : Nat} {T : List Int} (h : Ints w.heap.size w A len cap T) (hb : Below w.heap.size w w') : Ints w'.heap.size w' A len cap T := (h.below hb).up hb.size
/-- bytes that are being laid behind what was there -/
structure Bld (w : World) (v : Value) (l : List UInt8) (wr : World) : Prop where
  own : wr.ownsRow w.heap.size 5 1 v l.length (bs l)
  b : Below w.heap.size w wr
theorem Bld.zero {w wr : World} (hb : Below w.heap.size w wr) : Bld w (.slice none 0 0) [] wr := ⟨World.ownsRow_nil _ _ _ _, hb⟩
theorem Bld.drewN {w wr : World} {v : Value} {l : List UInt8} (h : Bld w v l wr) (n : Nat) : Bld w v l (wr.drewN n) := ⟨h.own, below_drewN h.b n⟩
theorem Bld.to {w wr w' : World} {v : Value} {l : List UInt8} (h : Bld w v l wr) (hb : Below wr.heap.size wr w') : Bld w v l w' := by
  refine ⟨⟨h.own.1, ?_⟩, h.b.trans (hb.mono h.b.size)⟩
  rcases h.own.2 with hn | ⟨g, cap, cur, hv, hg, hh, hr⟩
  · exact .inl hn
  · exact .inr ⟨g, cap, cur, hv, hg, (hb.block g (lt_of_block hh)).trans hh, hr⟩
theorem bld_two {w wr : World} {v : Value} {l : List UInt8} (h : Bld w v l wr) (n : Nat) (hn : n ≤ 65535) (hl : l.length ≤ 4000) :
    Calls Try.prog 32 #[v, .int .i64 (n : Int)] wr fun e w2 => ∃ v2, e = .returned v2 ∧ Bld w v2 (l ++ Pk.beL 2 n) w2 := by
  refine (two_any n hn h.own h.b.size hl).mono ?_
  rintro e w2 ⟨ad, cap, rfl, ho, hg⟩
  refine ⟨_, rfl, ?_, below_row h.b h.own hg (Nat.le_refl _) h.b.size⟩
  rw [List.length_append, Pk.beL_length]
  exact ho
/-- the box of a root -/
structure RBox (w : World) (g : Nat) (e l : Int) (A : Option Addr) (len cap : Nat) : Prop where
  at_ : w.heap[g]? = some (.cells #[.int .i64 e, .int .i64 l, .slice A len cap] 40 (0, 0))
theorem RBox.new (w : World) (e l : Int) (A : Option Addr) (len cap : Nat) : RBox (w.alloc (.cells #[.int .i64 e, .int .i64 l, .slice A len cap] 40 (0, 0))) w.heap.size e l A len cap := ⟨heap_alloc_new w _⟩
theorem RBox.below {w w' : World} {g B : Nat} {e l : Int} {A : Option Addr} {len cap : Nat} (h : RBox w g e l A len cap) (hb : Below B w w') (hg : g < B) : RBox w' g e l A len cap := ⟨(hb.block g hg).trans h.at_⟩
theorem RBox.q {w : World} {g : Nat} {e l : Int} {A : Option Addr} {len cap : Nat} (h : RBox w g e l A len cap) : w.cell? ⟨g, 0, none⟩ = some (.int .i64 e) ∧ w.cell? ⟨g, 1, none⟩ = some (.int .i64 l) ∧ w.cell? ⟨g, 2, none⟩ = some (.slice A len cap) :=
  ⟨by rw [cell_of_row _ _ _ _ _ _ h.at_]; rfl, by rw [cell_of_row _ _ _ _ _ _ h.at_]; rfl, by rw [cell_of_row _ _ _ _ _ _ h.at_]; rfl⟩
set_option maxRecDepth 100000 in
set_option maxHeartbeats 2000000 in
theorem put_bad {w : World} {A : Option Addr} {len cap : Nat} {T : List Int} (e l : Int) (h : Ints w.heap.size w A len cap T) (hr : Rt.right ⟨e, l, T⟩ = false) :
    Calls Try.prog 19 #[rootV e l A len cap] w fun en w' => en = .returned (.tuple #[.string ⟨#[]⟩, .int .i64 2]) ∧ Below w.heap.size w w' := by
  have hB : Below w.heap.size w (w.alloc (.cells #[.int .i64 e, .int .i64 l, .slice A len cap] 40 (0, 0))) := (Below.refl _ _).alloc (Nat.le_refl _) _
  have HC := Lib.hid (right_any e l (h.to hB))
  have HR := Lib.hid hr
  have HB := Lib.hid hB
  clear h hr hB
  unfold rootV at *
  go_enter Try.func19, Try.ntmps19
  go_wp2_with fail
  refine HC.out.mono ?_
  rintro en w1 ⟨rfl, hb⟩
  rw [HR.out]
  have HB1 := Lib.hid (HB.out.trans (hb.mono HB.out.size))
  clear hb
  go_wp2_with fail
  go_ret2
  exact ⟨rfl, HB1.out⟩
theorem is_at (l : List Int) (j : Nat) : (is l)[j]? = (l[j]?).map fun n => Value.int .i64 n := by simp [is]
theorem Ints.src {lo : Nat} {w : World} {A : Option Addr} {len cap : Nat} {T : List Int} (h : Ints lo w A len cap T) (hp : 0 < (is T).length) : ∃ ad, A = some ad ∧ ∀ j v, (is T)[j]? = some v → w.cell? (ad.add j) = some v := by
  rw [is_length] at hp
  obtain ⟨ad, e, _, _⟩ := h.at_ 0 (by rw [← h.n]; exact hp)
  refine ⟨ad, e, fun j v hv => ?_⟩
  rw [is_at] at hv
  cases hT : T[j]? with
  | none => rw [hT] at hv; cases hv
  | some x =>
    rw [hT] at hv
    have hj : j < len := by rw [← h.n]; exact (List.getElem?_eq_some_iff.1 hT).1
    obtain ⟨ad2, e2, _, hc⟩ := h.at_ j hj
    rw [e] at e2
    cases e2
    rw [hc, List.getD_eq_getElem?_getD, hT]
    exact hv
theorem five_splice (T : List Int) (_h : T.length ≤ 5) : splice (List.replicate 5 (Value.int .i64 0)) 0 (is T) = is (Rt.five T) := by
  unfold splice Rt.five
  rw [List.take_zero, List.nil_append, is_append, is_length, Nat.zero_add, List.drop_replicate]
  congr 1
  simp [is]
theorem is_one (l : List Int) : ∀ v ∈ is l, v.oneCell' = true := by
  intro v hv
  simp only [is, List.mem_map] at hv
  obtain ⟨b, _, rfl⟩ := hv
  rfl
theorem list5 (l : List Int) (h : l.length = 5) : ∃ a b c d e, l = [a, b, c, d, e] := by
  match l, h with
  | [a, b, c, d, e], _ => exact ⟨a, b, c, d, e, rfl⟩
theorem fine_all : ∀ (T l : List Int), Rt.fine l T = true → ∀ p ∈ T, 0 ≤ p ∧ p ≤ 1023
  | [], _, _, p, hp => by cases hp
  | q :: r, l, h, p, hp => by
    unfold Rt.fine at h
    rw [Bool.and_eq_true, Bool.and_eq_true] at h
    rcases List.mem_cons.1 hp with rfl | hp
    · exact of_decide_eq_true h.1.1
    · exact fine_all r _ h.2 p hp
theorem five_nat {T : List Int} (h : Rt.fine [] T = true) {a b c d e : Int} (hx : Rt.five T = [a, b, c, d, e]) : ∃ n0 n1 n2 n3 n4 : Nat, (n0 : Int) = a ∧ (n1 : Int) = b ∧ (n2 : Int) = c ∧ (n3 : Int) = d ∧ (n4 : Int) = e ∧ n0 ≤ 1023 ∧ n1 ≤ 1023 ∧ n2 ≤ 1023 ∧ n3 ≤ 1023 ∧ n4 ≤ 1023 := by
  have hall : ∀ p ∈ Rt.five T, 0 ≤ p ∧ p ≤ 1023 := by
    intro p hp
    unfold Rt.five at hp
    rcases List.mem_append.1 hp with hp | hp
    · exact fine_all T [] h p hp
    · rw [List.eq_of_mem_replicate hp]
      omega
  rw [hx] at hall
  have h0 := hall a (by simp)
  have h1 := hall b (by simp)
  have h2 := hall c (by simp)
  have h3 := hall d (by simp)
  have h4 := hall e (by simp)
  exact ⟨a.toNat, b.toNat, c.toNat, d.toNat, e.toNat, by omega, by omega, by omega, by omega, by omega, by omega, by omega, by omega, by omega, by omega⟩
theorem body_of (e : Int) (l len : Nat) (T : List Int) (n0 n1 n2 n3 n4 : Nat) (hn : T.length = len) (hx : Rt.five T = [(n0 : Int), n1, n2, n3, n4]) :
    Rt.body ⟨e, l, T⟩ = (Pk.beL 2 l ++ (Pk.beL 2 len ++ (([n0, n1, n2, n3, n4] : List Nat)).flatMap (Pk.beL 2))) ++ List.replicate 30 0 := by
  unfold Rt.body
  simp only [hx, hn, Rt.two, Int.toNat_natCast, List.flatMap_cons, List.flatMap_nil, List.append_assoc]
theorem put_text (e : Nat) (s : List UInt8) : (⟨(Pk.encI (e : Int)).toArray⟩ : ByteArray) ++ ⟨s.toArray⟩ ++ ⟨(Pk.encI (e : Int)).toArray⟩ = ⟨(Pk.encI (e : Int) ++ (s ++ Pk.encI (e : Int))).toArray⟩ := by
  generalize Pk.encI (e : Int) = t
  apply ByteArray.ext
  rw [ByteArray.data_append, ByteArray.data_append]
  apply Array.ext'
  simp
/-- how long a slice is -/
def lenV : Value → Nat
  | .slice _ n _ => n
  | _ => 0
/-- an array of five -/
structure Arr5 (w : World) (g : Nat) (a b c d e : Int) : Prop where
  at_ : w.heap[g]? = some (.cells #[.int .i64 a, .int .i64 b, .int .i64 c, .int .i64 d, .int .i64 e] 60 (0, 0))
theorem Arr5.q {w : World} {g : Nat} {a b c d e : Int} (h : Arr5 w g a b c d e) : w.cell? ⟨g, 0, none⟩ = some (.int .i64 a) ∧ w.cell? ⟨g, 1, none⟩ = some (.int .i64 b) ∧ w.cell? ⟨g, 2, none⟩ = some (.int .i64 c) ∧ w.cell? ⟨g, 3, none⟩ = some (.int .i64 d) ∧ w.cell? ⟨g, 4, none⟩ = some (.int .i64 e) :=
  ⟨by rw [cell_of_row _ _ _ _ _ _ h.at_]; rfl, by rw [cell_of_row _ _ _ _ _ _ h.at_]; rfl, by rw [cell_of_row _ _ _ _ _ _ h.at_]; rfl, by rw [cell_of_row _ _ _ _ _ _ h.at_]; rfl, by rw [cell_of_row _ _ _ _ _ _ h.at_]; rfl⟩
set_option maxRecDepth 100000 in
set_option maxHeartbeats 8000000 in
theorem put_ok {w : World} {A : Option Addr} {len cap : Nat} {T : List Int} (e l : Nat) (h : Ints w.heap.size w A len cap T) (hr : Rt.right ⟨e, l, T⟩ = true) :
    Calls Try.prog 19 #[rootV e l A len cap] w fun en w' => en = .returned (.tuple #[.string ⟨(Rt.laid ⟨e, l, T⟩).toArray⟩, .int .i64 0]) ∧ Below w.heap.size w w' := by
  obtain ⟨i0, hi, hz0, hz1', hz2⟩ := info_parts u8_row
  have hB : Below w.heap.size w (w.alloc (.cells #[.int .i64 (e : Int), .int .i64 (l : Int), .slice A len cap] 40 (0, 0))) := (Below.refl _ _).alloc (Nat.le_refl _) _
  have HC := Lib.hid (right_any (e : Int) (l : Int) (h.to hB))
  have HR := Lib.hid hr
  have HB := Lib.hid hB
  have HX := Lib.hid (RBox.new w e l A len cap)
  obtain ⟨he1, he2, _, hl2, hn, hfi⟩ := Rt.right_of hr
  simp only at he1 he2 hl2 hn hfi
  have HFi := Lib.hid hfi
  clear hfi
  have hlen : len ≤ 5 := by rw [← h.n]; exact Rt.parts_le hr
  have HH := Lib.hid h
  clear h hr hB hn
  unfold rootV at *
  go_enter Try.func19, Try.ntmps19
  go_wp2_with fail
  refine HC.out.mono ?_
  rintro en w1 ⟨rfl, hb⟩
  rw [HR.out]
  have HB1 := Lib.hid (HB.out.trans (hb.mono HB.out.size))
  have HX1 := Lib.hid (HX.out.below hb (by simp))
  have hz1 := lt_of_block HX1.out.at_
  clear hb HC HB HX
  obtain ⟨a0, a1, a2⟩ := HX1.out.q
  go_wp2_with fail
  have HX1d : RBox w1.drew w.heap.size e l A len cap := ⟨HX1.out.at_⟩
  obtain ⟨_, b1, b2⟩ := HX1d.q
  have HZ : Hid (Bld w1 (.slice none 0 0) [] w1.drew) := Lib.hid (Bld.zero (below_drewN (Below.refl _ _) 1))
  go_region_held3 (fun w' => w'.cell? ⟨w.heap.size, 1, none⟩ = some (.int .i64 (l : Int)) ∧ w'.cell? ⟨w.heap.size, 2, none⟩ = some (.slice A len cap)) (first | exact ⟨a1, a2⟩ | exact ⟨b1, b2⟩ | exact ⟨k1, k2⟩ | exact ⟨m1, m2⟩)
    (first
    | (go_at_call 32; refine (bld_two hd2 len (by omega) (by rw [List.nil_append, Pk.beL_length]; omega)).mono ?_; rintro en w3 ⟨v3, rfl, hd3⟩; have hx3 := HX1.out.below hd3.b hz1; obtain ⟨_, m1, m2⟩ := hx3.q)
    | (go_at_call 32; refine (bld_two HZ.out l (by omega) (by simp)).mono ?_; rintro en w2 ⟨v2, rfl, hd2⟩; have hx2 := HX1.out.below hd2.b hz1; obtain ⟨_, k1, k2⟩ := hx2.q))
  have HD := Lib.hid hd3
  have HX3 := Lib.hid hx3
  have HH3 := Lib.hid ((HH.out.to HB1.out).to hd3.b)
  have hz3 := lt_of_block hx3.at_
  have HXA : Hid (∀ w', Below w1.heap.size w1 w' → RBox w' w.heap.size e l A len cap) := Lib.hid fun w' hb => HX1.out.below hb hz1
  clear hd2 hx2 k1 k2 hd3 hx3 m1 m2 a0 a1 a2 b1 b2 HX1d HZ hz1 HX1 HH
  obtain ⟨a0, a1, a2⟩ := HX3.out.q
  go_wp2_with fail
  have hin : (Try.prog.info? 3).map (·.size) = some 1 := by kernel_rfl
  have HIN := Lib.hid hin
  clear hin
  have HA : Hid (∀ w', Below w3.heap.size w3 w' → 0 < (is T).length → ∃ ad, A = some ad ∧ ∀ j v, (is T)[j]? = some v → w'.cell? (ad.add j) = some v) := Lib.hid fun w' hb hp => (HH3.out.below hb).src hp
  have HTn := Lib.hid HH3.out.n
  go_region_law (refine step_copy_splice rfl (.tmp 19) (.tmp 21) 36 36 rfl 3 Try.underlying36 HIN.out (some ⟨w3.heap.size, 0, none⟩) A 5 5 len cap rfl rfl w3.heap.size 0 (List.replicate 5 (Value.int .i64 0)) 60 (heap_alloc_new w3 _) (is T) (by rw [is_length, HTn.out]; exact (Nat.min_eq_left hlen).symm) (fun hp => ⟨rfl, HA.out _ (below_drewN ((Below.refl w3.heap.size w3).alloc (Nat.le_refl _) _) 1) hp⟩) (by rw [is_length, HTn.out]; simpa using hlen) (is_one T) w3.heap.size w3 (below_drewN ((Below.refl w3.heap.size w3).alloc (Nat.le_refl _) _) 1) (Nat.le_refl _) ?_; intro w4 hg4 hb4)
  have hg5 := hg4.out
  rw [five_splice T (by rw [HTn.out]; exact hlen)] at hg5
  have HFl := Rt.five_length T (by rw [HTn.out]; exact hlen)
  have HD4 := Lib.hid (HD.out.to hb4)
  have HX4 := Lib.hid (HX3.out.below hb4 hz3)
  clear hg4 HA HH3 HX3 HD a0 a1 a2
  obtain ⟨x0, x1, x2, x3, x4, hx⟩ := list5 _ HFl
  rw [hx] at hg5
  have HArr : Arr5 w4 w3.heap.size x0 x1 x2 x3 x4 := ⟨hg5⟩
  have HXs := Lib.hid hx
  have HB4 := Lib.hid hb4
  clear hg5 hx hb4
  obtain ⟨a0, a1, a2, a3, a4⟩ := HArr.q
  generalize w3.heap.size = g3 at *
  obtain ⟨n0, n1, n2, n3, n4, rfl, rfl, rfl, rfl, rfl, hn0, hn1, hn2, hn3, hn4⟩ := five_nat HFi.out HXs.out
  generalize ((is T).length : Int) = lt at *
  go_wp2_with fail
  have i0 : ∀ w, (Instr.index 60 (.agg #[.int .i64 (n0 : Int), .int .i64 (n1 : Int), .int .i64 (n2 : Int), .int .i64 (n3 : Int), .int .i64 (n4 : Int)]) (.int .i64 0)).run Try.prog w = .ok (.int .i64 (n0 : Int)) w := fun _ => by kernel_rfl
  have i1 : ∀ w, (Instr.index 60 (.agg #[.int .i64 (n0 : Int), .int .i64 (n1 : Int), .int .i64 (n2 : Int), .int .i64 (n3 : Int), .int .i64 (n4 : Int)]) (.int .i64 1)).run Try.prog w = .ok (.int .i64 (n1 : Int)) w := fun _ => by kernel_rfl
  have i2 : ∀ w, (Instr.index 60 (.agg #[.int .i64 (n0 : Int), .int .i64 (n1 : Int), .int .i64 (n2 : Int), .int .i64 (n3 : Int), .int .i64 (n4 : Int)]) (.int .i64 2)).run Try.prog w = .ok (.int .i64 (n2 : Int)) w := fun _ => by kernel_rfl
  have i3 : ∀ w, (Instr.index 60 (.agg #[.int .i64 (n0 : Int), .int .i64 (n1 : Int), .int .i64 (n2 : Int), .int .i64 (n3 : Int), .int .i64 (n4 : Int)]) (.int .i64 3)).run Try.prog w = .ok (.int .i64 (n3 : Int)) w := fun _ => by kernel_rfl
  have i4 : ∀ w, (Instr.index 60 (.agg #[.int .i64 (n0 : Int), .int .i64 (n1 : Int), .int .i64 (n2 : Int), .int .i64 (n3 : Int), .int .i64 (n4 : Int)]) (.int .i64 4)).run Try.prog w = .ok (.int .i64 (n4 : Int)) w := fun _ => by kernel_rfl
  clear a0 a1 a2 a3 a4 HArr
  go_loopw [4, 7, 24] (fun v _ x wr => ∃ j : Nat, j ≤ 5 ∧ x = .int .i64 j ∧ Hid (Bld w1 v (Pk.beL 2 l ++ (Pk.beL 2 len ++ (([n0, n1, n2, n3, n4] : List Nat).take j).flatMap (Pk.beL 2))) wr)) (fun _ _ x _ => 100 - (intOf x).toNat)
  case atStart => exact ⟨0, by omega, rfl, Lib.hid (by have := HD4.out; rw [List.nil_append] at this; simpa using this)⟩
  case round =>
    obtain ⟨j, hj, rfl, hR⟩ := hrel
    match j, hj with
    | 0, _ =>
      have HW := Lib.hid (bld_two hR.out n0 (by omega) (by simp [Pk.beL_length]))
      rw [show ((0 : Nat) : Int) = 0 from rfl]
      clear hR HD4
      go_wp2_with fail
      refine HW.out.mono ?_
      rintro en w5 ⟨v5, rfl, hr5⟩
      have HR5 : Hid (Bld w1 v5 (Pk.beL 2 l ++ (Pk.beL 2 len ++ (([n0, n1, n2, n3, n4] : List Nat).take 1).flatMap (Pk.beL 2))) w5) := Lib.hid (by simpa [List.append_assoc] using hr5)
      clear hr5 HW
      go_wp2_with fail
      go_roundw
      case rel => exact ⟨1, by omega, rfl, HR5⟩
      case measure => simp [intOf]
    | 1, _ =>
      have HW := Lib.hid (bld_two hR.out n1 (by omega) (by simp [Pk.beL_length]))
      rw [show ((1 : Nat) : Int) = 1 from rfl]
      clear hR HD4
      go_wp2_with fail
      refine HW.out.mono ?_
      rintro en w5 ⟨v5, rfl, hr5⟩
      have HR5 : Hid (Bld w1 v5 (Pk.beL 2 l ++ (Pk.beL 2 len ++ (([n0, n1, n2, n3, n4] : List Nat).take 2).flatMap (Pk.beL 2))) w5) := Lib.hid (by simpa [List.append_assoc] using hr5)
      clear hr5 HW
      go_wp2_with fail
      go_roundw
      case rel => exact ⟨2, by omega, rfl, HR5⟩
      case measure => simp [intOf]
    | 2, _ =>
      have HW := Lib.hid (bld_two hR.out n2 (by omega) (by simp [Pk.beL_length]))
      rw [show ((2 : Nat) : Int) = 2 from rfl]
      clear hR HD4
      go_wp2_with fail
      refine HW.out.mono ?_
      rintro en w5 ⟨v5, rfl, hr5⟩
      have HR5 : Hid (Bld w1 v5 (Pk.beL 2 l ++ (Pk.beL 2 len ++ (([n0, n1, n2, n3, n4] : List Nat).take 3).flatMap (Pk.beL 2))) w5) := Lib.hid (by simpa [List.append_assoc] using hr5)
      clear hr5 HW
      go_wp2_with fail
      go_roundw
      case rel => exact ⟨3, by omega, rfl, HR5⟩
      case measure => simp [intOf]
    | 3, _ =>
      have HW := Lib.hid (bld_two hR.out n3 (by omega) (by simp [Pk.beL_length]))
      rw [show ((3 : Nat) : Int) = 3 from rfl]
      clear hR HD4
      go_wp2_with fail
      refine HW.out.mono ?_
      rintro en w5 ⟨v5, rfl, hr5⟩
      have HR5 : Hid (Bld w1 v5 (Pk.beL 2 l ++ (Pk.beL 2 len ++ (([n0, n1, n2, n3, n4] : List Nat).take 4).flatMap (Pk.beL 2))) w5) := Lib.hid (by simpa [List.append_assoc] using hr5)
      clear hr5 HW
      go_wp2_with fail
      go_roundw
      case rel => exact ⟨4, by omega, rfl, HR5⟩
      case measure => simp [intOf]
    | 4, _ =>
      have HW := Lib.hid (bld_two hR.out n4 (by omega) (by simp [Pk.beL_length]))
      rw [show ((4 : Nat) : Int) = 4 from rfl]
      clear hR HD4
      go_wp2_with fail
      refine HW.out.mono ?_
      rintro en w5 ⟨v5, rfl, hr5⟩
      have HR5 : Hid (Bld w1 v5 (Pk.beL 2 l ++ (Pk.beL 2 len ++ (([n0, n1, n2, n3, n4] : List Nat).take 5).flatMap (Pk.beL 2))) w5) := Lib.hid (by simpa [List.append_assoc] using hr5)
      clear hr5 HW
      go_wp2_with fail
      go_roundw
      case rel => exact ⟨5, by omega, rfl, HR5⟩
      case measure => simp [intOf]
    | 5, _ =>
      have HR6 : Hid (Bld w1 u4 (Pk.beL 2 l ++ (Pk.beL 2 len ++ (([n0, n1, n2, n3, n4] : List Nat)).flatMap (Pk.beL 2))) wr) := hR
      have HBo := Lib.hid (body_of (e : Int) l len T n0 n1 n2 n3 n4 HTn.out HXs.out)
      have hb14 : (Pk.beL 2 l ++ (Pk.beL 2 len ++ (([n0, n1, n2, n3, n4] : List Nat)).flatMap (Pk.beL 2))).length = 14 := by simp [Pk.beL_length]
      have HB14 := Lib.hid hb14
      rw [show ((5 : Nat) : Int) = 5 from rfl]
      clear hR HD4 hb14 i0 i1 i2 i3 i4 HXs
      generalize Pk.beL 2 l ++ (Pk.beL 2 len ++ (([n0, n1, n2, n3, n4] : List Nat)).flatMap (Pk.beL 2)) = B14 at *
      go_wp2_with fail
      obtain ⟨ad4, m4, cap4, rfl, hm4⟩ := owns_form HR6.out.own
      rw [HB14.out] at hm4
      subst hm4
      go_loopw [4, 31, 32, 33, 34, 35, 36] (fun v _ _ _ _ _ _ wr => ∃ (ad : Option Addr) (k cap m : Nat), v = .slice ad k cap ∧ m ≤ 30 ∧ k = 14 + m ∧ Hid (Bld w1 (.slice ad k cap) (B14 ++ List.replicate m 0) wr)) (fun v _ _ _ _ _ _ _ => 44 - lenV v)
      case atStart => exact ⟨_, _, _, 0, rfl, by omega, rfl, Lib.hid (by simpa using HR6.out)⟩
      case round =>
        clear HR6
        obtain ⟨ad5, k5, cap5, m, rfl, hm, hk5, hR⟩ := hrel
        by_cases hlt : m < 30
        · subst hk5
          have HO := Lib.hid hR.out.own
          have HBw := Lib.hid hR.out.b
          have HLn := Lib.hid (show (B14 ++ List.replicate m (0 : UInt8)).length = 14 + m by rw [List.length_append, HB14.out, List.length_replicate])
          rw [HLn.out] at HO
          have hltI : ((14 + m : Nat) : Int) < 44 := by omega
          clear hR
          go_wp2_with (at_builtin; refine wpList_append_own _ rfl (.tmp 34) (.tmp 35) 34 rfl w1.heap.size 5 i0 (.int .u8 0) 1 1 Try.underlying34 hi hz0 hz1' hz2 rfl (by decide) _ (14 + m) _ rfl (HO.out.alloc _) ⟨wr.heap.size, 0, none⟩ 1 1 [.int .u8 0] rfl rfl (one_news _ _ _) (one_cell _ _) (by rw [show maxLen = 9223372036854775807 from rfl]; omega) (by omega) (by have := HBw.out.size; simp; omega) ?_; intro v6 w6 hown6 hgrow6 _)
          have HR7 : Hid (Bld w1 v6 (B14 ++ List.replicate (m + 1) 0) w6) := Lib.hid ⟨by
              rw [List.replicate_succ', ← List.append_assoc, List.length_append, HLn.out, bs_append]
              exact hown6, below_row (HBw.out.trans (((Below.refl _ wr).alloc (Nat.le_refl _) _).mono HBw.out.size)) (HO.out.alloc _) hgrow6 (Nat.le_refl _) (by have := HBw.out.size; simp; omega)⟩
          obtain ⟨ad7, k7, cap7, rfl, hk7⟩ := owns_form hown6
          have hk8 : k7 = 14 + (m + 1) := by omega
          clear hown6 hgrow6 HO HBw HLn hk7
          subst hk8
          go_wp2_with fail
          go_roundw
          case rel => exact ⟨_, _, _, m + 1, rfl, by omega, rfl, HR7⟩
          case measure => simp [lenV]; omega
        · obtain rfl : m = 30 := by omega
          obtain rfl : k5 = 44 := by omega
          clear hk5
          rw [← HBo.out] at hR
          have hbl : (Rt.body ⟨e, l, T⟩).length = 44 := Rt.body_length (by rw [HTn.out]; exact hlen)
          have ho := hR.out.own
          rw [hbl] at ho
          have hcv := conv_row ho hbl.symm
          have HLay := Lib.hid (fun w' => lay_any ⟨(Rt.body ⟨e, l, T⟩).toArray⟩ w' (show (Rt.body ⟨e, l, T⟩).length ≤ 140737488351232 by rw [hbl]; decide))
          rw [show (⟨(Rt.body ⟨e, l, T⟩).toArray⟩ : ByteArray).data.toList = Rt.body ⟨e, l, T⟩ from rfl] at HLay
          have HTx := Lib.hid (put_text e (Crc.lay (Rt.body ⟨e, l, T⟩)))
          have HRl : Hid (Rt.laid ⟨e, l, T⟩ = Pk.encI (e : Int) ++ (Crc.lay (Rt.body ⟨e, l, T⟩) ++ Pk.encI (e : Int))) := Lib.hid rfl
          have hsl : (⟨(Crc.lay (Rt.body ⟨e, l, T⟩)).toArray⟩ : ByteArray).size = 48 := by
            show (Crc.lay (Rt.body ⟨e, l, T⟩)).length = 48
            rw [Crc.lay_length, hbl]
          have hse : (⟨(Pk.encI (e : Int)).toArray⟩ : ByteArray).size = 8 := Pk.encI_length _
          have HBw := Lib.hid hR.out.b
          rw [← HRl.out] at HTx
          clear HRl HBo ho hR HB14
          generalize (⟨(Rt.body ⟨e, l, T⟩).toArray⟩ : ByteArray) = S at *
          generalize (⟨(Crc.lay (Rt.body ⟨e, l, T⟩)).toArray⟩ : ByteArray) = S2 at *
          clear hbl
          go_wp2_with fail
          refine (HLay.out _).mono ?_
          rintro en w7 ⟨rfl, hb7⟩
          have HB7 := Lib.hid (HBw.out.trans (hb7.mono HBw.out.size))
          clear hb7 hcv HLay HBw
          go_wp2_with fail
          obtain ⟨c0, _, _⟩ := (HXA.out _ HB7.out).q
          have q0 := fun d os => cell_regrown c0 d os
          have HI := Lib.hid (fun w' => i_any e w' (by omega))
          clear c0
          generalize (⟨(Pk.encI (e : Int)).toArray⟩ : ByteArray) = t1 at *
          refine wp_region_quiet_below (by kernel_rfl) (by kernel_rfl) ?_
          repeat (quiet_step (exact Calls.regrown_of (HI.out _)))
          refine wpQuiet_nil ?_
          intro _ hw'
          obtain ⟨⟨dq, osq⟩, hw''⟩ := hw'
          subst hw''
          have HB8 := Lib.hid ((HB1.out.trans (HB7.out.mono HB1.out.size)).trans ((below_regrown w7 dq osq).mono (HB1.out.trans (HB7.out.mono HB1.out.size)).size))
          go_wp2_with fail
          go_ret2
          exact ⟨by rw [← HTx.out]; rfl, HB8.out⟩
theorem put_any {w : World} {A : Option Addr} {len cap : Nat} {T : List Int} (e l : Int) (h : Ints w.heap.size w A len cap T) :
    Calls Try.prog 19 #[rootV e l A len cap] w fun en w' => en = .returned (.tuple #[.string ⟨(Rt.put ⟨e, l, T⟩).1.toArray⟩, .int .i64 (Rt.put ⟨e, l, T⟩).2]) ∧ Below w.heap.size w w' := by
  unfold Rt.put
  cases hr : Rt.right ⟨e, l, T⟩
  · rw [if_neg (by simp)]
    exact put_bad e l h hr
  · rw [if_pos rfl]
    obtain ⟨h1, _, h3, _, _, _⟩ := Rt.right_of hr
    simp only at h1 h3
    obtain ⟨en, rfl⟩ := Int.eq_ofNat_of_zero_le (show 0 ≤ e by omega)
    obtain ⟨ln, rfl⟩ := Int.eq_ofNat_of_zero_le h3
    exact put_ok en ln h hr
end Go.Proofs.Ytbjkefodlnkaeaa
