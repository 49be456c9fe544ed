/- CrcPieces' walk: in whatever pieces bytes come, the check is that of all. No condition. -/
import Derived.Test.YtbjkefodlnkaeaaCrcCut
import Derived.Test.YtbjkefodlnkaeaaData
import Derived.SliceStrings
namespace Go.Proofs.Ytbjkefodlnkaeaa
open Go.ChangeShapes Go.WideShapes Go.ChangeAt Go.RowKit Go.ChangeMaps

theorem block_add (a : Addr) (i : Nat) : (a.add i).block = a.block := by unfold Addr.add; split <;> rfl
/-- texts that came in -/
def StrsAt (w : World) (A : Option Addr) (len : Nat) (ss : List ByteArray) : Prop :=
  len ≤ maxLen ∧ ∀ k, k < len → ∃ ad, A = some ad ∧ ad.block < w.heap.size ∧ w.cell? (ad.add k) = some (.string (ss.getD k ByteArray.empty)) ∧ (ss.getD k ByteArray.empty).size ≤ maxLen
theorem StrsAt.cell {w wr : World} {A : Option Addr} {len k : Nat} {ss : List ByteArray} (h : StrsAt w A len ss) (hb : Below w.heap.size w wr) (hk : k < len) :
    ∃ ad, A = some ad ∧ wr.cell? (ad.add k) = some (.string (ss.getD k ByteArray.empty)) ∧ (ss.getD k ByteArray.empty).size ≤ maxLen := by
  obtain ⟨ad, h1, h2, h3, h4⟩ := h.2 k hk
  exact ⟨ad, h1, (hb.cell (p := ad.add k) (by rw [block_add]; exact h2)).trans h3, h4⟩

section
variable {H : Type} {enc : TypeId × Value → H} {W : World}
theorem strs_part {fuel : Nat} {c : Value} {y : DataW H × List MemPlace} (h : DataW.trod enc Try.prog W 0 (fun _ => true) true fuel 27 [c] = some y) : ∃ A len cap ss, c = .slice A len cap ∧ StrsAt W A len ss := by
  rcases open_strings Try.underlying27 Try.underlying9 (by kernel_rfl) h with ⟨hcs, _⟩ | ⟨a, len, cap, ss, hcs, _, hl, hm, hz, _, hcell, hws⟩
  · have hc : c = .slice none 0 0 := by simpa using hcs
    exact ⟨none, 0, 0, [], hc, by simp, fun k hk => by omega⟩
  · have hc : c = .slice (some a) len cap := by simpa using hcs
    have hz_ : ss.length = cap := by simpa using hz
    refine ⟨some a, len, cap, ss, hc, by omega, fun k hk => ⟨a, rfl, ?_, hcell k (by omega), ?_⟩⟩
    · have := block_lt_of_cell (hcell k (by omega))
      rwa [block_add] at this
    · exact hws _ (by
        have : k < ss.length := by omega
        rw [List.getD_eq_getElem?_getD, List.getElem?_eq_getElem this]
        exact List.getElem_mem this)
end

theorem join_data (a b : ByteArray) : (a ++ b).data.toList = a.data.toList ++ b.data.toList := by rw [ByteArray.data_append, Array.toList_append]

set_option maxRecDepth 100000 in
set_option maxHeartbeats 2000000 in
theorem pieces_walk (A : Option Addr) (len cap : Nat) (ss : List ByteArray) (w : World) (hl : len ≤ 9223372036854775807) (hi : Hid (StrsAt w A len ss)) :
    Calls Try.prog 4 #[.slice A len cap] w fun e w' => e = .returned (.bool true) ∧ Below w.heap.size w w' := by
  go_enter Try.func4, Try.ntmps4
  go_wp2_with fail
  refine (sum_any ⟨#[]⟩ w (by decide)).mono ?_
  rintro e w1 ⟨rfl, hb⟩
  have hb1 := Lib.hid hb
  clear hb
  go_wp2_with fail
  go_loopw [3, 4, 5] (fun v a i wr => ∃ (k : Nat) (al : ByteArray), k ≤ len ∧ k ≤ 15 ∧ al.size ≤ 4000 ∧ i = .int .i64 k ∧ a = .string al ∧ v = .int .u32 ((Crc.sum al.data.toList : Nat) : Int) ∧ Hid (Below w.heap.size w wr)) (fun _ _ i _ => 15 - (intOf i).toNat)
  case atStart => exact ⟨0, ⟨#[]⟩, Nat.zero_le _, Nat.zero_le _, by decide, rfl, rfl, rfl, hb1⟩
  case round =>
    obtain ⟨k, al, hk, hk2, hal, rfl, rfl, rfl, hb⟩ := hrel
    by_cases hlt : k < len ∧ k < 15 ∧ al.size < 2000
    · obtain ⟨h1, h2, h3⟩ := hlt
      obtain ⟨ad, hA, hcell, hx⟩ := hi.out.cell hb.out h1
      subst hA
      generalize ss.getD k ByteArray.empty = x at *
      obtain ⟨t, ht, htl, hfew⟩ := few_take x
      have HF := Lib.hid (fun w => hfew w hx)
      clear hfew htl hx
      have HM := Lib.hid (Crc.more_more 0 al.data.toList t.data.toList)
      have HJ := Lib.hid (join_data al t)
      have HZ := Lib.hid (show (al ++ t).size ≤ 4000 by rw [ByteArray.size_append]; omega)
      go_wp2_with fail
      refine (HF.out _).mono ?_
      rintro e w' ⟨rfl, rfl⟩
      go_wp2_with fail
      refine (more_any _ t _ (Crc.sum_lt _) (by omega)).mono ?_
      rintro e w2 ⟨rfl, hb'⟩
      have hb2 := Lib.hid (hb.out.trans (hb'.mono hb.out.size))
      clear hb' hb
      go_wp2_with fail
      go_roundw
      case rel => exact ⟨k + 1, al ++ t, by omega, by omega, HZ.out, by go_num, rfl, by rw [HJ.out]; exact congrArg (fun n : Nat => Value.int .u32 (n : Int)) HM.out, hb2⟩
      case measure => simp [intOf]; omega
    · by_cases h1 : k < len
      · by_cases h2 : k < 15
        · have h3 : 2000 ≤ al.size := by omega
          clear hlt
          go_wp2_with fail
          refine (awake_any _).mono ?_
          rintro e w2 ⟨rfl, hb'⟩
          have hb2 := Lib.hid (hb.out.trans (hb'.mono hb.out.size))
          clear hb' hb
          go_wp2_with fail
          refine (rsum_any al _ (by omega)).mono ?_
          rintro e w' ⟨rfl, rfl⟩
          go_wp2_with fail
          go_ret
          exact ⟨rfl, hb2.out⟩
        · obtain rfl : k = 15 := by omega
          clear hlt
          go_wp2_with fail
          refine (awake_any _).mono ?_
          rintro e w2 ⟨rfl, hb'⟩
          have hb2 := Lib.hid (hb.out.trans (hb'.mono hb.out.size))
          clear hb' hb
          go_wp2_with fail
          refine (rsum_any al _ (by omega)).mono ?_
          rintro e w' ⟨rfl, rfl⟩
          go_wp2_with fail
          go_ret
          exact ⟨rfl, hb2.out⟩
      · obtain rfl : k = len := by omega
        clear hlt
        go_wp2_with fail
        refine (awake_any _).mono ?_
        rintro e w2 ⟨rfl, hb'⟩
        have hb2 := Lib.hid (hb.out.trans (hb'.mono hb.out.size))
        clear hb' hb
        go_wp2_with fail
        refine (rsum_any al _ (by omega)).mono ?_
        rintro e w' ⟨rfl, rfl⟩
        go_wp2_with fail
        go_ret
        exact ⟨rfl, hb2.out⟩
end Go.Proofs.Ytbjkefodlnkaeaa
