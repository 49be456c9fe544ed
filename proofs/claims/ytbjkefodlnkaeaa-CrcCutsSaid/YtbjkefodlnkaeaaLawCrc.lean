/- CrcSums, CrcCuts and CrcBack: the check of any bytes is the document's, what any bytes are, and what was laid is cut as it was: for every text. No condition. -/
import Derived.Test.YtbjkefodlnkaeaaCrcCut
import Derived.Test.YtbjkefodlnkaeaaData
namespace Go.Proofs.Ytbjkefodlnkaeaa
open Go.ChangeShapes Go.WideShapes Go.ChangeAt Go.RowKit Go.ChangeMaps

set_option maxHeartbeats 1000000 in
theorem sums_walk (s : ByteArray) (w : World) (hs : s.size ≤ 9223372036854775807) :
    Calls Try.prog 3 #[.string s] w fun e w' => e = .returned (.bool true) ∧ Below w.heap.size w w' := by
  obtain ⟨t, ht, htl, hfew⟩ := few_take s
  have HF := Lib.hid hfew
  clear hfew htl
  go_enter Try.func3, Try.ntmps3
  go_wp2_with fail
  refine (HF.out _ hs).mono ?_
  rintro e w' ⟨rfl, rfl⟩
  go_wp2_with fail
  refine (awake_any _).mono ?_
  rintro e w1 ⟨rfl, hb⟩
  have hb1 := Lib.hid hb
  clear hb
  go_wp2_with fail
  refine (sum_any t _ (by omega)).mono ?_
  rintro e w2 ⟨rfl, hb⟩
  have hb2 := Lib.hid (hb1.out.trans (hb.mono hb1.out.size))
  clear hb hb1
  go_wp2_with fail
  refine (rsum_any t _ (by omega)).mono ?_
  rintro e w' ⟨rfl, rfl⟩
  go_wp2_with fail
  refine (lay_any t _ (by omega)).mono ?_
  rintro e w3 ⟨rfl, hb⟩
  have hb3 := Lib.hid (hb2.out.trans (hb.mono hb2.out.size))
  clear hb hb2
  go_wp2_with fail
  refine (rlay_any t _ (by omega)).mono ?_
  rintro e w4 ⟨rfl, hb⟩
  have hb4 := Lib.hid (hb3.out.trans (hb.mono hb3.out.size))
  clear hb hb3
  go_wp2_with fail
  go_ret
  exact ⟨rfl, hb4.out⟩

theorem lay_test (t : ByteArray) : (Crc.lay (List.drop 4 t.data.toList) == t.toList) = Crc.good t.data.toList := by
  rw [Bool.eq_iff_iff, beq_iff_eq, Crc.good_iff, ByteArray.toList_eq]
theorem eq_self (t : ByteArray) : (t.toList == t.toList) = true := by simp

set_option maxHeartbeats 2000000 in
theorem cuts_walk (s : ByteArray) (w : World) (hs : s.size ≤ 9223372036854775807) :
    Calls Try.prog 5 #[.string s] w fun e w' => e = .returned (.bool true) ∧ Below w.heap.size w w' := by
  obtain ⟨t, ht, htl, hfew⟩ := few_take s
  have HF := Lib.hid hfew
  clear hfew htl
  by_cases h4 : t.size < 4
  · go_enter Try.func5, Try.ntmps5
    go_wp2_with fail
    refine (HF.out _ hs).mono ?_
    rintro e w' ⟨rfl, rfl⟩
    go_wp2_with fail
    refine (cut_short t _ h4).mono ?_
    rintro e w' ⟨rfl, rfl⟩
    go_wp2_with fail
    refine (awake_any _).mono ?_
    rintro e w1 ⟨rfl, hb⟩
    have hb1 := Lib.hid hb
    clear hb
    go_wp2_with fail
    go_ret
    exact ⟨rfl, hb1.out⟩
  · have h5 : 4 ≤ t.size := by omega
    clear h4
    have hT : List.take (t.size - 4) (List.drop 4 t.data.toList) = List.drop 4 t.data.toList := List.take_of_length_le (by simp)
    have HL := Lib.hid (lay_test t)
    cases hg : Crc.good t.data.toList
    · have HG := Lib.hid hg
      have HQ := Lib.hid (HL.out.trans hg)
      clear hg
      go_enter Try.func5, Try.ntmps5
      go_wp2_with fail
      refine (HF.out _ hs).mono ?_
      rintro e w' ⟨rfl, rfl⟩
      go_wp2_with fail
      refine (cut_bad t _ h5 (by omega) HG.out).mono ?_
      rintro e w1 ⟨rfl, hb⟩
      have hb1 := Lib.hid hb
      clear hb
      go_wp2_with fail
      refine (rlay_any _ _ (by simp; omega)).mono ?_
      rintro e w2 ⟨rfl, hb⟩
      have hb2 := Lib.hid (hb1.out.trans (hb.mono hb1.out.size))
      clear hb hb1
      have hq := HQ.out
      go_wp2_with fail
      refine (awake_any _).mono ?_
      rintro e w3 ⟨rfl, hb⟩
      have hb3 := Lib.hid (hb2.out.trans (hb.mono hb2.out.size))
      clear hb hb2
      go_wp2_with fail
      go_ret
      exact ⟨rfl, hb3.out⟩
    · have HG := Lib.hid hg
      have HQ := Lib.hid (HL.out.trans hg)
      clear hg
      go_enter Try.func5, Try.ntmps5
      go_wp2_with fail
      refine (HF.out _ hs).mono ?_
      rintro e w' ⟨rfl, rfl⟩
      go_wp2_with fail
      refine (cut_good t _ h5 (by omega) HG.out).mono ?_
      rintro e w1 ⟨rfl, hb⟩
      have hb1 := Lib.hid hb
      clear hb
      go_wp2_with fail
      refine (rlay_any _ _ (by simp; omega)).mono ?_
      rintro e w2 ⟨rfl, hb⟩
      have hb2 := Lib.hid (hb1.out.trans (hb.mono hb1.out.size))
      clear hb hb1
      have hq := HQ.out
      go_wp2_with fail
      refine (awake_any _).mono ?_
      rintro e w3 ⟨rfl, hb⟩
      have hb3 := Lib.hid (hb2.out.trans (hb.mono hb2.out.size))
      clear hb hb2
      go_wp2_with fail
      go_ret
      exact ⟨rfl, hb3.out⟩

set_option maxHeartbeats 1000000 in
theorem back_walk (s : ByteArray) (w : World) (hs : s.size ≤ 9223372036854775807) :
    Calls Try.prog 6 #[.string s] w fun e w' => e = .returned (.bool true) ∧ Below w.heap.size w w' := by
  obtain ⟨t, ht, htl, hfew⟩ := few_take s
  have HF := Lib.hid hfew
  clear hfew htl
  have hz := size_list t
  have hlen : 4 + t.data.toList.length ≤ 140737488351232 := by omega
  have HZ := Lib.hid hlen
  clear hlen hz
  go_enter Try.func6, Try.ntmps6
  go_wp2_with fail
  refine (HF.out _ hs).mono ?_
  rintro e w' ⟨rfl, rfl⟩
  go_wp2_with fail
  refine (lay_any t _ (by omega)).mono ?_
  rintro e w1 ⟨rfl, hb⟩
  have hb1 := Lib.hid hb
  clear hb
  go_wp2_with fail
  refine (cut_laid t.data.toList _ HZ.out).mono ?_
  rintro e w2 ⟨rfl, hb⟩
  have hb2 := Lib.hid (hb1.out.trans (hb.mono hb1.out.size))
  clear hb hb1
  go_wp2_with fail
  refine (awake_any _).mono ?_
  rintro e w3 ⟨rfl, hb⟩
  have hb3 := Lib.hid (hb2.out.trans (hb.mono hb2.out.size))
  clear hb hb2
  go_wp2_with fail
  go_ret
  exact ⟨rfl, hb3.out⟩
end Go.Proofs.Ytbjkefodlnkaeaa
