/- The document's Lay, the program's Cut, and what the statements of layer 3 share. Conditions: texts within the reach of the form. -/
import Derived.Test.YtbjkefodlnkaeaaCrcWalks
import Derived.Lib.Strings
namespace Go.Proofs.Ytbjkefodlnkaeaa
open Go.RowKit

/-- four new bytes read as a text -/
theorem conv_four (w : World) (t : TypeId) (n : Nat) (c0 c1 c2 c3 : UInt8) :
    (convert 34 9 (.slice (some ⟨w.heap.size, 0, none⟩) 4 4)).run Try.prog ((w.alloc (.cells #[.int .u8 (c0.toNat : Int), .int .u8 (c1.toNat : Int), .int .u8 (c2.toNat : Int), .int .u8 (c3.toNat : Int)] t)).drewN n) =
      .ok (.string ⟨#[c0, c1, c2, c3]⟩) ((w.alloc (.cells #[.int .u8 (c0.toNat : Int), .int .u8 (c1.toNat : Int), .int .u8 (c2.toNat : Int), .int .u8 (c3.toNat : Int)] t)).drewN n) := by
  refine run_convert_bytes_back (P := Try.prog) _ 34 9 5 ⟨w.heap.size, 0, none⟩ 4 [c0, c1, c2, c3] Try.underlying34 Try.underlying5 Try.underlying9 (fun j hj => ?_)
  have e := cell_of_new_row w #[.int .u8 (c0.toNat : Int), .int .u8 (c1.toNat : Int), .int .u8 (c2.toNat : Int), .int .u8 (c3.toNat : Int)] t j
  have e2 : ((w.alloc (.cells #[.int .u8 (c0.toNat : Int), .int .u8 (c1.toNat : Int), .int .u8 (c2.toNat : Int), .int .u8 (c3.toNat : Int)] t)).drewN n).cell? ((⟨w.heap.size, 0, none⟩ : Addr).add j) = (w.alloc (.cells #[.int .u8 (c0.toNat : Int), .int .u8 (c1.toNat : Int), .int .u8 (c2.toNat : Int), .int .u8 (c3.toNat : Int)] t)).cell? ((⟨w.heap.size, 0, none⟩ : Addr).add j) := rfl
  rw [e2, e]
  have := bs_get [c0, c1, c2, c3] j hj
  simpa [bs] using this

theorem append_four (c0 c1 c2 c3 : UInt8) (s : ByteArray) : (⟨#[c0, c1, c2, c3]⟩ : ByteArray) ++ s = ⟨(c0 :: c1 :: c2 :: c3 :: s.data.toList).toArray⟩ := by
  apply ByteArray.ext
  rw [ByteArray.data_append]
  apply Array.ext'
  simp

set_option maxRecDepth 100000 in
set_option maxHeartbeats 1000000 in
theorem rlay_any (s : ByteArray) (w : World) (hs : s.size ≤ 140737488351232) :
    Calls Try.prog 15 #[.string s] w fun e w' => e = .returned (.string ⟨(Crc.lay s.data.toList).toArray⟩) ∧ Below w.heap.size w w' := by
  have hlt := Crc.sum_lt s.data.toList
  have e0 := Crc.byte0_is (Crc.sum s.data.toList)
  have e1 := Crc.byte1_is (Crc.sum s.data.toList)
  have e2 := Crc.byte2_is (Crc.sum s.data.toList)
  have e3 := Crc.byte3_is (Crc.sum s.data.toList) hlt
  have HF := Lib.hid (lay_is s.data.toList)
  generalize Crc.byte0 (Crc.sum s.data.toList) = c0 at *
  generalize Crc.byte1 (Crc.sum s.data.toList) = c1 at *
  generalize Crc.byte2 (Crc.sum s.data.toList) = c2 at *
  generalize Crc.byte3 (Crc.sum s.data.toList) = c3 at *
  have hcv := conv_four w 5 0 c0 c1 c2 c3
  rw [World.drewN_zero] at hcv
  go_enter Try.func15, Try.ntmps15
  go_wp2_with fail
  refine (rsum_any s w (by omega)).mono ?_
  rintro e w' ⟨rfl, rfl⟩
  generalize Crc.sum s.data.toList = n at *
  have HA := Lib.hid (append_four c0 c1 c2 c3 s)
  go_wp2_with fail
  go_ret
  exact ⟨by rw [HF.out, ← HA.out]; rfl, (Below.refl _ _).alloc (Nat.le_refl _) _⟩

set_option maxRecDepth 100000 in
set_option maxHeartbeats 1000000 in
theorem cut_short (s : ByteArray) (w : World) (hs : s.size < 4) :
    Calls Try.prog 17 #[.string s] w fun e w' => e = .returned (.tuple #[.string ⟨#[]⟩, .int .i64 5]) ∧ w = w' := by
  go_enter Try.func17, Try.ntmps17
  go_wp2_with fail
  go_ret2
  exact ⟨rfl, rfl⟩

theorem good_test (s : ByteArray) : ([Crc.byte0 (Crc.sum (List.drop 4 s.data.toList)), Crc.byte1 (Crc.sum (List.drop 4 s.data.toList)), Crc.byte2 (Crc.sum (List.drop 4 s.data.toList)), Crc.byte3 (Crc.sum (List.drop 4 s.data.toList))] == (s.extract 0 4).toList) = Crc.good s.data.toList := by
  rw [Lib.extract_toList, List.drop_zero, Bool.eq_iff_iff, beq_iff_eq]
  unfold Crc.good
  rw [decide_eq_true_eq]
  exact ⟨fun h => h.symm, fun h => h.symm⟩

set_option maxRecDepth 100000 in
set_option maxHeartbeats 1000000 in
theorem cut_good (s : ByteArray) (w : World) (hs : 4 ≤ s.size) (hs2 : s.size ≤ 140737488351232) (hg : Crc.good s.data.toList = true) :
    Calls Try.prog 17 #[.string s] w fun e w' => e = .returned (.tuple #[.string (s.extract 4 s.size), .int .i64 0]) ∧ Below w.heap.size w w' := by
  have hT : List.take (s.size - 4) (List.drop 4 s.data.toList) = List.drop 4 s.data.toList := List.take_of_length_le (by simp)
  have HQ := Lib.hid ((good_test s).trans hg)
  clear hg
  go_enter Try.func17, Try.ntmps17
  go_wp2_with fail
  refine (sum_any _ w (by simp; omega)).mono ?_
  rintro e w1 ⟨rfl, hb⟩
  have hb1 := Lib.hid hb
  clear hb
  go_wp2_with fail
  refine (four_any _ w1 (Crc.sum_lt _)).mono ?_
  rintro e w2 ⟨rfl, hb⟩
  have hb2 := Lib.hid (hb1.out.trans (hb.mono hb1.out.size))
  clear hb hb1
  have hq := HQ.out
  clear HQ
  generalize Crc.byte0 (Crc.sum (List.drop 4 s.data.toList)) = c0 at *
  generalize Crc.byte1 (Crc.sum (List.drop 4 s.data.toList)) = c1 at *
  generalize Crc.byte2 (Crc.sum (List.drop 4 s.data.toList)) = c2 at *
  generalize Crc.byte3 (Crc.sum (List.drop 4 s.data.toList)) = c3 at *
  have hcv := fun n => conv_four w2 53 n c0 c1 c2 c3
  go_wp2_with fail
  go_quiet (fail)
  clear hcv
  go_wp2_with fail
  go_ret2
  exact ⟨rfl, below_drewN (hb2.out.alloc hb2.out.size _) nq⟩

set_option maxRecDepth 100000 in
set_option maxHeartbeats 1000000 in
theorem cut_bad (s : ByteArray) (w : World) (hs : 4 ≤ s.size) (hs2 : s.size ≤ 140737488351232) (hg : Crc.good s.data.toList = false) :
    Calls Try.prog 17 #[.string s] w fun e w' => e = .returned (.tuple #[.string ⟨#[]⟩, .int .i64 14]) ∧ Below w.heap.size w w' := by
  have hT : List.take (s.size - 4) (List.drop 4 s.data.toList) = List.drop 4 s.data.toList := List.take_of_length_le (by simp)
  have HQ := Lib.hid ((good_test s).trans hg)
  clear hg
  go_enter Try.func17, Try.ntmps17
  go_wp2_with fail
  refine (sum_any _ w (by simp; omega)).mono ?_
  rintro e w1 ⟨rfl, hb⟩
  have hb1 := Lib.hid hb
  clear hb
  go_wp2_with fail
  refine (four_any _ w1 (Crc.sum_lt _)).mono ?_
  rintro e w2 ⟨rfl, hb⟩
  have hb2 := Lib.hid (hb1.out.trans (hb.mono hb1.out.size))
  clear hb hb1
  have hq := HQ.out
  clear HQ
  generalize Crc.byte0 (Crc.sum (List.drop 4 s.data.toList)) = c0 at *
  generalize Crc.byte1 (Crc.sum (List.drop 4 s.data.toList)) = c1 at *
  generalize Crc.byte2 (Crc.sum (List.drop 4 s.data.toList)) = c2 at *
  generalize Crc.byte3 (Crc.sum (List.drop 4 s.data.toList)) = c3 at *
  have hcv := fun n => conv_four w2 53 n c0 c1 c2 c3
  go_wp2_with fail
  go_quiet (fail)
  clear hcv
  go_wp2_with fail
  go_ret2
  exact ⟨rfl, below_drewN (hb2.out.alloc hb2.out.size _) nq⟩

theorem extract_laid (l : List UInt8) : (⟨(Crc.lay l).toArray⟩ : ByteArray).extract 4 (⟨(Crc.lay l).toArray⟩ : ByteArray).size = ⟨l.toArray⟩ := by
  apply ByteArray.ext
  apply Array.ext'
  rw [Lib.extract_data]
  show List.take _ (List.drop 4 (Crc.lay l)) = l
  rw [Crc.lay_drop]
  apply List.take_of_length_le
  show l.length ≤ (Crc.lay l).length - 4
  rw [Crc.lay_length]
  omega
theorem cut_laid (l : List UInt8) (w : World) (h : 4 + l.length ≤ 140737488351232) :
    Calls Try.prog 17 #[.string ⟨(Crc.lay l).toArray⟩] w fun e w' => e = .returned (.tuple #[.string ⟨l.toArray⟩, .int .i64 0]) ∧ Below w.heap.size w w' := by
  have hz : (⟨(Crc.lay l).toArray⟩ : ByteArray).size = 4 + l.length := Crc.lay_length l
  refine (cut_good ⟨(Crc.lay l).toArray⟩ w (by rw [hz]; omega) (by rw [hz]; exact h) (Crc.good_lay l)).mono fun e w' hh => ?_
  rw [extract_laid] at hh
  exact hh

end Go.Proofs.Ytbjkefodlnkaeaa
