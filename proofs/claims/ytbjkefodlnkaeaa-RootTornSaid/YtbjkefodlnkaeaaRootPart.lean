/- A table's parts laid. Conditions: the table lies in memory and has at most 700 entries. -/
import Derived.Test.YtbjkefodlnkaeaaRootSmall
namespace Go.Proofs.Ytbjkefodlnkaeaa
open Go.RowKit

/-- ints in memory, in blocks below lo -/
structure Ints (lo : Nat) (w : World) (A : Option Addr) (len cap : Nat) (T : List Int) : Prop where
  big : cap ≤ 9223372036854775807
  le : len ≤ cap
  n : T.length = len
  at_ : ∀ k, k < len → ∃ ad, A = some ad ∧ ad.block < lo ∧ w.cell? (ad.add k) = some (.int .i64 (T.getD k 0))
theorem addr_block (a : Addr) (i : Nat) : (a.add i).block = a.block := by unfold Addr.add; split <;> rfl
theorem Ints.below {lo : Nat} {w w' : World} {A : Option Addr} {len cap : Nat} {T : List Int} (h : Ints lo w A len cap T) (hb : Below lo w w') : Ints lo w' A len cap T :=
  ⟨h.big, h.le, h.n, fun k hk => by
    obtain ⟨ad, e, hl, hc⟩ := h.at_ k hk
    exact ⟨ad, e, hl, by rw [World.cell?_of_block (hb.block (ad.add k).block (by rw [addr_block]; exact hl))]; exact hc⟩⟩
namespace Rt
def seg (T : List Int) (i : Nat) : List Int := (T.drop (116 * i)).take 116
def enc (p : Int) : List UInt8 := two (max p (-1) + 1)
def putPart (T : List Int) (i : Nat) : List UInt8 × Int := if (seg T i).all fun p => decide (p ≤ 1023) then ((seg T i).flatMap enc, 0) else ([], 2)
end Rt
theorem seg_cell {lo : Nat} {w : World} {ad : Addr} {len cap : Nat} {T : List Int} (h : Ints lo w (some ad) len cap T) (i j : Nat) (hj : j < 116) (hl : i * 116 + j < len) : w.cell? ((ad.add (i * 116)).add j) = some (.int .i64 ((Rt.seg T i).getD j 0)) := by
  obtain ⟨a, e, _, hc⟩ := h.at_ (i * 116 + j) hl
  cases e
  have e1 : (ad.add (i * 116)).add j = ad.add (i * 116 + j) := by rw [Addr.add_add]
  rw [e1, hc]
  congr 2
  unfold Rt.seg
  rw [List.getD_eq_getElem?_getD, List.getD_eq_getElem?_getD, List.getElem?_take, if_pos hj, List.getElem?_drop, Nat.mul_comm 116 i]
theorem take_next (l : List Int) (j : Nat) (h : j < l.length) : l.take (j + 1) = l.take j ++ [l.getD j 0] := by
  rw [List.take_succ_eq_append_getElem h, List.getD_eq_getElem?_getD, List.getElem?_eq_getElem h]
  rfl
/-- what has been laid so far -/
structure PartR (w : World) (l : List Int) (v : Value) (wr : World) : Prop where
  own : wr.ownsRow w.heap.size 5 1 v (l.flatMap Rt.enc).length (bs (l.flatMap Rt.enc))
  all : ∀ p ∈ l, p ≤ 1023
  b : Below w.heap.size w wr
theorem PartR.zero (w : World) : PartR w [] (.slice none 0 0) w := ⟨World.ownsRow_nil _ _ _ _, fun _ h => absurd h (by simp), Below.refl _ _⟩
theorem enc_length (l : List Int) : (l.flatMap Rt.enc).length = 2 * l.length := by
  induction l with
  | nil => rfl
  | cons a r ih =>
    have : (Rt.enc a).length = 2 := Rt.two_length _
    rw [List.flatMap_cons, List.length_append, this, ih, List.length_cons]
    omega
theorem PartR.short {w wr : World} {l : List Int} {v : Value} (_h : PartR w l v wr) (hl : l.length ≤ 116) : (l.flatMap Rt.enc).length ≤ 4000 := by
  rw [enc_length]
  omega
theorem PartR.next {w wr w2 : World} {l : List Int} {v v2 : Value} (h : PartR w l v wr) (p : Int) (hp : p ≤ 1023) (ho : w2.ownsRow w.heap.size 5 1 v2 ((l.flatMap Rt.enc).length + 2) (bs (l.flatMap Rt.enc ++ Rt.enc p))) (hg : wr.grownBy w2 v.ownBlock) :
    PartR w (l ++ [p]) v2 w2 := by
  have e : (l ++ [p]).flatMap Rt.enc = l.flatMap Rt.enc ++ Rt.enc p := by
    rw [List.flatMap_append, List.flatMap_cons, List.flatMap_nil, List.append_nil]
  refine ⟨?_, ?_, below_row h.b h.own hg (Nat.le_refl _) h.b.size⟩
  · rw [e, List.length_append, show (Rt.enc p).length = 2 from Rt.two_length _]
    exact ho
  · intro q hq
    rcases List.mem_append.1 hq with hq | hq
    · exact h.all q hq
    · rw [List.mem_singleton.1 hq]
      exact hp
theorem part_two {w wr : World} {l : List Int} {v : Value} (h : PartR w l v wr) (p : Int) (n : Nat) (hn : n ≤ 65535) (hp : p ≤ 1023) (he : Rt.enc p = Pk.beL 2 n) (hl : l.length ≤ 116) :
    Calls Try.prog 32 #[v, .int .i64 (n : Int)] wr fun e w2 => ∃ v2, e = .returned v2 ∧ PartR w (l ++ [p]) v2 w2 := by
  refine (two_any n hn h.own h.b.size (h.short hl)).mono ?_
  rintro e w2 ⟨ad, cap, rfl, ho, hg⟩
  exact ⟨_, rfl, h.next p hp (by rw [he]; exact ho) hg⟩
theorem ret_si {a b : ByteArray} {c d : Int} (h1 : a = b) (h2 : c = d) : Ending.returned (.tuple #[.string a, .int .i64 c]) = .returned (.tuple #[.string b, .int .i64 d]) := by rw [h1, h2]
set_option maxRecDepth 100000 in
set_option maxHeartbeats 4000000 in
theorem putpart_any {w : World} {A : Option Addr} {len cap : Nat} {T : List Int} (i : Nat) (h : Ints w.heap.size w A len cap T) (hl : len ≤ 700) (hi : i < Rt.need (len : Int)) :
    Calls Try.prog 25 #[.slice A len cap, .int .i64 (i : Int)] w fun e w' => e = .returned (.tuple #[.string ⟨(Rt.putPart T i).1.toArray⟩, .int .i64 (Rt.putPart T i).2]) ∧ Below w.heap.size w w' := by
  have HN := Lib.hid (need_any (len : Int) w (by omega))
  have hi2 : 116 * i < len := by unfold Rt.need at hi; split at hi <;> omega
  have hiI : (i : Int) < (Rt.need (len : Int) : Nat) := by omega
  have hlc := h.le
  have hcb := h.big
  obtain ⟨ad, rfl, _, _⟩ := h.at_ 0 (by omega)
  have HH := Lib.hid h
  clear h
  go_enter Try.func25, Try.ntmps25
  go_wp2_with fail
  refine HN.out.mono ?_
  rintro e w' ⟨rfl, rfl⟩
  clear HN
  by_cases hm : len < (i + 1) * 116
  · have hcnt : len - i * 116 ≤ 116 := by omega
    go_wp2_with fail
    try rw [show decide ((i : Int) < 0) = false by rw [decide_eq_false_iff_not]; omega]
    try rw [show decide (Rt.need (len : Int) ≤ i) = false by rw [decide_eq_false_iff_not]; omega]
    try rw [Bool.false_or]
    generalize hcap : cap - i * 116 = cp at *
    generalize hcn : len - i * 116 = cnt at *
    have HL := Lib.hid (show (Rt.seg T i).length = cnt by unfold Rt.seg; rw [List.length_take, List.length_drop, HH.out.n]; omega)
    have HC : Hid (∀ wr, Below w.heap.size w wr → ∀ j, j < cnt → wr.cell? ((ad.add (i * 116)).add j) = some (.int .i64 ((Rt.seg T i).getD j 0))) := fun wr hb j hj => seg_cell (HH.out.below hb) i j (by omega) (by omega)
    have hc116 : cnt ≤ 116 := by omega
    clear hm hcnt hi hiI hi2 hlc hcb hl HH hcap hcn
    go_loopw [6, 29] (fun v x wr => ∃ j : Nat, j ≤ cnt ∧ x = .int .i64 j ∧ Hid (PartR w ((Rt.seg T i).take j) v wr)) (fun _ x _ => 1000 - (intOf x).toNat)
    case atStart => exact ⟨0, Nat.zero_le _, rfl, PartR.zero w⟩
    case round =>
      obtain ⟨j, hj, rfl, hR⟩ := hrel
      by_cases hlt : j < cnt
      · have hltI : (j : Int) < (cnt : Int) := by omega
        have q0 := HC.out wr hR.out.b j hlt
        have HT := Lib.hid (take_next (Rt.seg T i) j (by rw [HL.out]; exact hlt))
        have HIn := Lib.hid (show (Rt.seg T i).getD j 0 ∈ Rt.seg T i by
          have hj2 : j < (Rt.seg T i).length := by rw [HL.out]; exact hlt
          rw [List.getD_eq_getElem?_getD, List.getElem?_eq_getElem hj2]
          exact List.getElem_mem hj2)
        generalize (Rt.seg T i).getD j 0 = p at *
        by_cases hp : p ≤ 1023
        · by_cases hp0 : p < -1
          · have hp1 : ¬ -1 ≤ p := by omega
            have HE := Lib.hid (show Rt.enc p = Pk.beL 2 0 by unfold Rt.enc Rt.two; congr 1; omega)
            have HW := Lib.hid (part_two hR.out p 0 (by omega) hp HE.out (by rw [List.length_take]; omega))
            rw [show ((0 : Nat) : Int) = 0 by omega, ← HT.out] at HW
            clear HE HT HIn
            go_wp2_with fail
            refine HW.out.mono ?_
            rintro e w2 ⟨v2, rfl, hr2⟩
            have HR2 := Lib.hid hr2
            clear hr2 HW
            go_wp2_with fail
            go_roundw
            case rel => exact ⟨j + 1, by omega, by go_num, HR2⟩
            case measure => simp [intOf]; omega
          · obtain ⟨n, hn⟩ := Int.eq_ofNat_of_zero_le (show 0 ≤ p + 1 by omega)
            have HE := Lib.hid (show Rt.enc p = Pk.beL 2 n by unfold Rt.enc Rt.two; congr 1; omega)
            have HW := Lib.hid (part_two hR.out p n (by omega) hp HE.out (by rw [List.length_take]; omega))
            rw [show ((n : Nat) : Int) = p + 1 by omega, ← HT.out] at HW
            clear HE HT HIn hn
            go_wp2_with fail
            refine HW.out.mono ?_
            rintro e w2 ⟨v2, rfl, hr2⟩
            have HR2 := Lib.hid hr2
            clear hr2 HW
            go_wp2_with fail
            go_roundw
            case rel => exact ⟨j + 1, by omega, by go_num, HR2⟩
            case measure => simp [intOf]; omega
        · have HPP : Hid (Rt.putPart T i = ([], 2)) := Lib.hid (by
            unfold Rt.putPart
            rw [if_neg]
            intro hall
            have := List.all_eq_true.1 hall p HIn.out
            exact hp (of_decide_eq_true this))
          go_wp2_with fail
          go_ret2
          exact ⟨by rw [HPP.out]; rfl, hR.out.b⟩
      · obtain rfl : j = cnt := by omega
        have HR : Hid (PartR w (Rt.seg T i) u6 wr) := by
          have := hR
          rw [List.take_of_length_le (by rw [HL.out]; exact Nat.le_refl _)] at this
          exact this
        have HPP : Hid (Rt.putPart T i = ((Rt.seg T i).flatMap Rt.enc, 0)) := Lib.hid (by
          unfold Rt.putPart
          rw [if_pos]
          exact List.all_eq_true.2 fun q hq => decide_eq_true (HR.out.all q hq))
        obtain ⟨ad3, m3, cap3, rfl, hm3⟩ := owns_form HR.out.own
        have ho := HR.out.own
        rw [← hm3] at ho
        have hcv := conv_row ho hm3
        have HM3 := Lib.hid hm3
        clear hm3 ho
        have HSB := Lib.hid (show (⟨((Rt.seg T i).flatMap Rt.enc).toArray⟩ : ByteArray) = ⟨(Rt.putPart T i).1.toArray⟩ by rw [HPP.out])
        have HSC := Lib.hid (show (0 : Int) = (Rt.putPart T i).2 by rw [HPP.out])
        clear HPP
        generalize (⟨((Rt.seg T i).flatMap Rt.enc).toArray⟩ : ByteArray) = SB at *
        go_wp2_with fail
        go_ret2
        exact ⟨ret_si HSB.out HSC.out, HR.out.b⟩
  · have hcnt : (i + 1) * 116 - i * 116 = 116 := by omega
    go_wp2_with fail
    try rw [show decide ((i : Int) < 0) = false by rw [decide_eq_false_iff_not]; omega]
    try rw [show decide (Rt.need (len : Int) ≤ i) = false by rw [decide_eq_false_iff_not]; omega]
    try rw [Bool.false_or]
    generalize hcap : cap - i * 116 = cp at *
    generalize hcn : (i + 1) * 116 - i * 116 = cnt at *
    have HL := Lib.hid (show (Rt.seg T i).length = cnt by unfold Rt.seg; rw [List.length_take, List.length_drop, HH.out.n]; omega)
    have HC : Hid (∀ wr, Below w.heap.size w wr → ∀ j, j < cnt → wr.cell? ((ad.add (i * 116)).add j) = some (.int .i64 ((Rt.seg T i).getD j 0))) := fun wr hb j hj => seg_cell (HH.out.below hb) i j (by omega) (by omega)
    have hc116 : cnt ≤ 116 := by omega
    have hc117 : 116 ≤ cnt := by omega
    clear hm hcnt hi hiI hi2 hlc hcb hl HH hcap hcn
    go_loopw [6, 29] (fun v x wr => ∃ j : Nat, j ≤ cnt ∧ x = .int .i64 j ∧ Hid (PartR w ((Rt.seg T i).take j) v wr)) (fun _ x _ => 1000 - (intOf x).toNat)
    case atStart => exact ⟨0, Nat.zero_le _, rfl, PartR.zero w⟩
    case round =>
      obtain ⟨j, hj, rfl, hR⟩ := hrel
      by_cases hlt : j < cnt
      · have hltI : (j : Int) < (cnt : Int) := by omega
        have q0 := HC.out wr hR.out.b j hlt
        have HT := Lib.hid (take_next (Rt.seg T i) j (by rw [HL.out]; exact hlt))
        have HIn := Lib.hid (show (Rt.seg T i).getD j 0 ∈ Rt.seg T i by
          have hj2 : j < (Rt.seg T i).length := by rw [HL.out]; exact hlt
          rw [List.getD_eq_getElem?_getD, List.getElem?_eq_getElem hj2]
          exact List.getElem_mem hj2)
        generalize (Rt.seg T i).getD j 0 = p at *
        by_cases hp : p ≤ 1023
        · by_cases hp0 : p < -1
          · have hp1 : ¬ -1 ≤ p := by omega
            have HE := Lib.hid (show Rt.enc p = Pk.beL 2 0 by unfold Rt.enc Rt.two; congr 1; omega)
            have HW := Lib.hid (part_two hR.out p 0 (by omega) hp HE.out (by rw [List.length_take]; omega))
            rw [show ((0 : Nat) : Int) = 0 by omega, ← HT.out] at HW
            clear HE HT HIn
            go_wp2_with fail
            refine HW.out.mono ?_
            rintro e w2 ⟨v2, rfl, hr2⟩
            have HR2 := Lib.hid hr2
            clear hr2 HW
            go_wp2_with fail
            go_roundw
            case rel => exact ⟨j + 1, by omega, by go_num, HR2⟩
            case measure => simp [intOf]; omega
          · obtain ⟨n, hn⟩ := Int.eq_ofNat_of_zero_le (show 0 ≤ p + 1 by omega)
            have HE := Lib.hid (show Rt.enc p = Pk.beL 2 n by unfold Rt.enc Rt.two; congr 1; omega)
            have HW := Lib.hid (part_two hR.out p n (by omega) hp HE.out (by rw [List.length_take]; omega))
            rw [show ((n : Nat) : Int) = p + 1 by omega, ← HT.out] at HW
            clear HE HT HIn hn
            go_wp2_with fail
            refine HW.out.mono ?_
            rintro e w2 ⟨v2, rfl, hr2⟩
            have HR2 := Lib.hid hr2
            clear hr2 HW
            go_wp2_with fail
            go_roundw
            case rel => exact ⟨j + 1, by omega, by go_num, HR2⟩
            case measure => simp [intOf]; omega
        · have HPP : Hid (Rt.putPart T i = ([], 2)) := Lib.hid (by
            unfold Rt.putPart
            rw [if_neg]
            intro hall
            have := List.all_eq_true.1 hall p HIn.out
            exact hp (of_decide_eq_true this))
          go_wp2_with fail
          go_ret2
          exact ⟨by rw [HPP.out]; rfl, hR.out.b⟩
      · obtain rfl : j = cnt := by omega
        have HR : Hid (PartR w (Rt.seg T i) u6 wr) := by
          have := hR
          rw [List.take_of_length_le (by rw [HL.out]; exact Nat.le_refl _)] at this
          exact this
        have HPP : Hid (Rt.putPart T i = ((Rt.seg T i).flatMap Rt.enc, 0)) := Lib.hid (by
          unfold Rt.putPart
          rw [if_pos]
          exact List.all_eq_true.2 fun q hq => decide_eq_true (HR.out.all q hq))
        obtain ⟨ad3, m3, cap3, rfl, hm3⟩ := owns_form HR.out.own
        have ho := HR.out.own
        rw [← hm3] at ho
        have hcv := conv_row ho hm3
        have HM3 := Lib.hid hm3
        clear hm3 ho
        have HSB := Lib.hid (show (⟨((Rt.seg T i).flatMap Rt.enc).toArray⟩ : ByteArray) = ⟨(Rt.putPart T i).1.toArray⟩ by rw [HPP.out])
        have HSC := Lib.hid (show (0 : Int) = (Rt.putPart T i).2 by rw [HPP.out])
        clear HPP
        generalize (⟨((Rt.seg T i).flatMap Rt.enc).toArray⟩ : ByteArray) = SB at *
        go_wp2_with fail
        go_ret2
        exact ⟨ret_si HSB.out HSC.out, HR.out.b⟩
end Go.Proofs.Ytbjkefodlnkaeaa
