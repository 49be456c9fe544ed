/- What each call of the check over bytes does, in the seat's program and in the document's. Conditions: registers lie in 32 bits, texts have at most as many bytes as an int tells. -/
import Derived.Test.YtbjkefodlnkaeaaRows
import Derived.Test.YtbjkefodlnkaeaaCrcPlain
import Derived.Test.YtbjkefodlnkaeaaBase
import Derived.WalkKit
import Derived.WalkSpells
import Derived.WalkLawsBesides
import Derived.Lib.Hide
import Derived.Deep.QuietTactic
import Derived.BigQuiet
import Derived.Laws.CopyOwn
namespace Go.Proofs.Ytbjkefodlnkaeaa
open Go.RowKit

theorem and15 (r : Nat) (h : r < 4294967296) : bits .and .u32 (r : Int) 15 = ((r % 16 : Nat) : Int) := by
  have := u32_and_nat r 15 h (by omega)
  rw [nat_mask4] at this
  exact this
theorem wrap_u32_in (n : Nat) (h : n < 4294967296) : IntKind.u32.wrap (n : Int) = (n : Int) := by
  rw [IntKind.wrap_u32']
  omega

/-- the table in its block -/
theorem tab_laid (w : World) : ∃ W : World, W = w.alloc (.cells #[.int .u32 0, .int .u32 274646895, .int .u32 549293790, .int .u32 820201905, .int .u32 1098587580, .int .u32 1361435347, .int .u32 1640403810, .int .u32 1905808397, .int .u32 2197175160, .int .u32 2460548119, .int .u32 2722870694, .int .u32 2987750089, .int .u32 3280807620, .int .u32 3553878443, .int .u32 3811616794, .int .u32 4084100981] 66) ∧ (∀ i, i < 16 → W.cell? ⟨w.heap.size, i, none⟩ = some (.int .u32 ((Crc.tab i : Nat) : Int))) ∧ Below w.heap.size w W := by
  refine ⟨_, rfl, fun i hi => ?_, (Below.refl _ _).alloc (Nat.le_refl _) _⟩
  rw [cell_of_row _ w.heap.size i _ 66 (0, 0) (heap_alloc_new w _)]
  match i, hi with
  | 0, _ | 1, _ | 2, _ | 3, _ | 4, _ | 5, _ | 6, _ | 7, _ | 8, _ | 9, _ | 10, _ | 11, _ | 12, _ | 13, _ | 14, _ | 15, _ => rfl
  | n + 16, h => omega

/-- four bits a round -/
def nibble (x : Nat) (k : Nat) : Nat := Nat.repeat Crc.fall4 k x
theorem nibble_lt (x : Nat) (h : x < 4294967296) : ∀ k, nibble x k < 4294967296
  | 0 => h
  | k + 1 => Crc.fall4_lt _ (nibble_lt x h k)
theorem nibble_two (r c : Nat) : nibble (r ^^^ c) 2 = Crc.byteStep r c := rfl
theorem nibble_next (x k : Nat) (h : x < 4294967296) : bits .xor .u32 ((nibble x k : Nat) / 16 : Int) ((Crc.tab (nibble x k % 16) : Nat) : Int) = ((nibble x (k + 1) : Nat) : Int) := by
  have hl := nibble_lt x h k
  have ht : Crc.tab (nibble x k % 16) < 4294967296 := by
    have := Crc.fall4_lt (nibble x k % 16) (by omega)
    rwa [Crc.tab_all ⟨nibble x k % 16, Nat.mod_lt _ (by omega)⟩] at this
  have e : ((nibble x k : Nat) / 16 : Int) = ((nibble x k / 16 : Nat) : Int) := by omega
  rw [e, u32_xor_nat _ _ (by omega) ht]
  congr 1
  exact (Crc.fall4_tab _).symm

set_option maxRecDepth 100000 in
set_option maxHeartbeats 1000000 in
theorem take_any (r c : Nat) (w : World) (hr : r < 4294967296) (hc : c < 256) :
    Calls Try.prog 29 #[.int .u32 (r : Int), .int .u8 (c : Int)] w fun e w' => e = .returned (.int .u32 ((Crc.byteStep r c : Nat) : Int)) ∧ Below w.heap.size w w' := by
  obtain ⟨W, hW, ht, hb⟩ := tab_laid w
  have HW := Lib.hid hW
  have HT := Lib.hid ht
  have HB := Lib.hid hb
  clear hW ht hb
  have hx : r ^^^ c < 4294967296 := Nat.xor_lt_two_pow (n := 32) hr (by omega)
  have e0 := u32_xor_nat r c hr (by omega)
  have HX := Lib.hid hx
  clear hx
  go_enter Try.func29, Try.ntmps29
  go_wp2_with fail
  rw [← HW.out]
  go_loop [0, 11] (fun v i => ∃ k : Nat, k ≤ 2 ∧ i = .int .i64 k ∧ v = .int .u32 ((nibble (r ^^^ c) k : Nat) : Int)) (fun _ i => 2 - (intOf i).toNat)
  case atStart => exact ⟨0, by omega, rfl, rfl⟩
  case round =>
    obtain ⟨k, hk, rfl, rfl⟩ := hrel
    have hl := nibble_lt (r ^^^ c) HX.out k
    have e1 := and15 (nibble (r ^^^ c) k) hl
    have H2 := Lib.hid (nibble_next (r ^^^ c) k HX.out)
    have hm : nibble (r ^^^ c) k % 16 < 16 := Nat.mod_lt _ (by omega)
    have hcell := HT.out (nibble (r ^^^ c) k % 16) hm
    by_cases hlt : k < 2
    · go_wp2_with fail
      go_round
      case rel => exact ⟨k + 1, by omega, by go_num, by rw [H2.out]⟩
      case measure => simp [intOf]; omega
    · obtain rfl : k = 2 := by omega
      go_wp2_with fail
      go_ret
      exact ⟨ret_int (by rw [nibble_two]), HB.out⟩


theorem not_u32 (n : Nat) (h : n < 4294967296) : bits .xor .u32 IntKind.u32.max (n : Int) = ((Crc.flip n : Nat) : Int) := by
  have e : IntKind.u32.max = ((4294967295 : Nat) : Int) := by decide
  rw [e, u32_xor_nat _ _ (by omega) h]
  congr 1
  have h1 : (BitVec.allOnes 32 ^^^ BitVec.ofNat 32 n).toNat = 4294967295 ^^^ n := by
    rw [BitVec.toNat_xor, BitVec.toNat_ofNat, BitVec.toNat_allOnes, Nat.mod_eq_of_lt h]
  rw [← h1, BitVec.allOnes_xor, BitVec.toNat_not, BitVec.toNat_ofNat, Nat.mod_eq_of_lt h]
  rfl

set_option maxRecDepth 100000 in
set_option maxHeartbeats 1000000 in
theorem more_any (n : Nat) (s : ByteArray) (w : World) (hn : n < 4294967296) (hs : s.size ≤ 9223372036854775807) :
    Calls Try.prog 16 #[.int .u32 (n : Int), .string s] w fun e w' => e = .returned (.int .u32 ((Crc.more n s.data.toList : Nat) : Int)) ∧ Below w.heap.size w w' := by
  have e0 := not_u32 n hn
  have e1 : IntKind.u32.signed = false := rfl
  have HR := Lib.hid (fun k => Crc.regs_lt (s.data.toList.take k) (Crc.flip n) (Crc.flip_lt n))
  go_enter Try.func16, Try.ntmps16
  go_wp2_with fail
  go_loopw [5, 11] (fun v i wr => ∃ k : Nat, k ≤ s.size ∧ i = .int .i64 k ∧ v = .int .u32 ((Crc.regs (Crc.flip n) (s.data.toList.take k) : Nat) : Int) ∧ Below w.heap.size w wr) (fun _ i _ => s.size - (intOf i).toNat)
  case atStart => exact ⟨0, Nat.zero_le _, rfl, rfl, Below.refl _ _⟩
  case round =>
    obtain ⟨k, hk, rfl, rfl, hb⟩ := hrel
    have HB := Lib.hid hb
    clear hb
    by_cases hlt : k < s.size
    · have HT := Lib.hid (take_byte s k hlt)
      go_wp2_with fail
      refine (take_any _ _ _ (HR.out k) s[k].toNat_lt).mono ?_
      rintro e w1 ⟨rfl, hb⟩
      have HB1 := Lib.hid (HB.out.trans (hb.mono HB.out.size))
      clear hb
      go_wp2_with fail
      go_roundw
      case rel => exact ⟨k + 1, by omega, by go_num, by rw [HT.out, Crc.regs_snoc], HB1.out⟩
      case measure => simp [intOf]; omega
    · obtain rfl : k = s.size := by omega
      have e2 := Lib.hid (not_u32 _ (HR.out s.size))
      have HT := Lib.hid (show s.data.toList.take s.size = s.data.toList by rw [← size_list, List.take_length])
      clear e0
      go_wp2_with fail
      go_ret
      exact ⟨ret_int (by rw [e2.out, HT.out]; rfl), HB.out⟩

set_option maxRecDepth 100000 in
set_option maxHeartbeats 400000 in
theorem sum_any (s : ByteArray) (w : World) (hs : s.size ≤ 9223372036854775807) :
    Calls Try.prog 12 #[.string s] w fun e w' => e = .returned (.int .u32 ((Crc.sum s.data.toList : Nat) : Int)) ∧ Below w.heap.size w w' := by
  go_enter Try.func12, Try.ntmps12
  go_wp2_with fail
  refine (more_any 0 s w (by omega) hs).mono ?_
  rintro e w1 ⟨rfl, hb⟩
  have HB := Lib.hid hb
  clear hb
  go_wp2_with fail
  go_ret
  exact ⟨rfl, HB.out⟩

theorem bit_is (s : ByteArray) (i : Nat) (h : i / 8 < s.size) : ((s[i / 8].toNat : Int) / (2 : Int) ^ (i % 8) % 4294967296 % 2) = ((Crc.bitOf s.data.toList i : Nat) : Int) := by
  unfold Crc.bitOf
  rw [byte_getD s (i / 8) h]
  have h1 : ((s[i / 8].toNat : Int) / (2 : Int) ^ (i % 8)) = ((s[i / 8].toNat / 2 ^ (i % 8) : Nat) : Int) := by norm_cast
  have h2 : s[i / 8].toNat / 2 ^ (i % 8) < 256 := Nat.lt_of_le_of_lt (Nat.div_le_self _ _) s[i / 8].toNat_lt
  rw [h1]
  omega
set_option maxRecDepth 100000 in
set_option maxHeartbeats 1000000 in
theorem bit_any (i : Nat) (s : ByteArray) (w : World) (hi : i / 8 < s.size) (hs : i ≤ 9223372036854775807) :
    Calls Try.prog 27 #[.string s, .int .i64 (i : Int)] w fun e w' => e = .returned (.int .u32 ((Crc.bitOf s.data.toList i : Nat) : Int)) ∧ w = w' := by
  have HB := Lib.hid (bit_is s i hi)
  go_enter Try.func27, Try.ntmps27
  go_wp2_with fail
  go_ret
  exact ⟨ret_int HB.out, rfl⟩

set_option maxRecDepth 100000 in
set_option maxHeartbeats 1000000 in
theorem rsum_any (s : ByteArray) (w : World) (hs : 8 * s.size ≤ 9223372036854775807) :
    Calls Try.prog 13 #[.string s] w fun e w' => e = .returned (.int .u32 ((Crc.sum s.data.toList : Nat) : Int)) ∧ w = w' := by
  have HR := Lib.hid (Crc.refAt_lt s.data.toList)
  have HF := Lib.hid (Crc.refAt_sum s.data.toList)
  go_enter Try.func13, Try.ntmps13
  go_wp2_with fail
  go_loop [3, 4] (fun v i => ∃ k : Nat, k ≤ 8 * s.size ∧ i = .int .i64 k ∧ v = .int .u32 ((Crc.refAt s.data.toList k : Nat) : Int)) (fun _ i => 8 * s.size - (intOf i).toNat)
  case atStart => exact ⟨0, Nat.zero_le _, rfl, rfl⟩
  case round =>
    obtain ⟨k, hk, rfl, rfl⟩ := hrel
    by_cases hlt : k < 8 * s.size
    · have hr := HR.out k
      have hbo : Crc.bitOf s.data.toList k < 2 := Nat.mod_lt _ (by omega)
      have h8 : k / 8 < s.size := by omega
      have hk2 : k ≤ 9223372036854775807 := by omega
      have hnext : Crc.refAt s.data.toList (k + 1) = Crc.step1 (Crc.refAt s.data.toList k) (Crc.bitOf s.data.toList k) := rfl
      by_cases hx : Crc.refAt s.data.toList k % 2 = Crc.bitOf s.data.toList k
      · have hx2 : (((Crc.refAt s.data.toList k : Nat) : Int) % 2 != ((Crc.bitOf s.data.toList k : Nat) : Int)) = false := by
          rw [bne_eq_false_iff_eq]; omega
        have hy := Lib.hid (show ((Crc.refAt s.data.toList k : Nat) : Int) / 2 = ((Crc.refAt s.data.toList (k + 1) : Nat) : Int) by
          rw [hnext, Crc.step1, if_pos hx]; omega)
        clear hx hnext
        go_wp2_with fail
        refine (bit_any k s w h8 hk2).mono ?_
        rintro e w' ⟨rfl, rfl⟩
        go_wp2_with fail
        go_round
        case rel => exact ⟨k + 1, by omega, by go_num, by rw [hy.out]⟩
        case measure => simp [intOf]; omega
      · have hx2 : (((Crc.refAt s.data.toList k : Nat) : Int) % 2 != ((Crc.bitOf s.data.toList k : Nat) : Int)) = true := by
          rw [bne_iff_ne]; omega
        have hy := Lib.hid (show bits .xor .u32 (((Crc.refAt s.data.toList k : Nat) : Int) / 2) 2197175160 = ((Crc.refAt s.data.toList (k + 1) : Nat) : Int) by
          rw [hnext, Crc.step1, if_neg hx]
          have := u32_xor_nat (Crc.refAt s.data.toList k / 2) 2197175160 (by omega) (by omega)
          rw [← this]
          congr 1)
        clear hx hnext
        go_wp2_with fail
        refine (bit_any k s w h8 hk2).mono ?_
        rintro e w' ⟨rfl, rfl⟩
        go_wp2_with fail
        go_round
        case rel => exact ⟨k + 1, by omega, by go_num, by rw [hy.out]⟩
        case measure => simp [intOf]; omega
    · obtain rfl : k = 8 * s.size := by omega
      have hr := HR.out (8 * s.size)
      have hf : ((4294967295 : Int) - ((Crc.refAt s.data.toList (8 * s.size) : Nat) : Int)) = ((Crc.sum s.data.toList : Nat) : Int) := by
        rw [← HF.out, size_list]
        unfold Crc.flip
        omega
      have hF := Lib.hid hf
      clear hf
      go_wp2_with fail
      go_ret
      exact ⟨ret_int hF.out, rfl⟩

theorem fourV_is (n : Nat) (h : n < 4294967296) : #[Value.int .u8 ((n : Int) % 256), .int .u8 ((n : Int) / 256 % 256), .int .u8 ((n : Int) / 65536 % 256), .int .u8 ((n : Int) / 16777216)] =
    #[.int .u8 ((Crc.byte0 n).toNat : Int), .int .u8 ((Crc.byte1 n).toNat : Int), .int .u8 ((Crc.byte2 n).toNat : Int), .int .u8 ((Crc.byte3 n).toNat : Int)] := by
  rw [Crc.byte0_is, Crc.byte1_is, Crc.byte2_is, Crc.byte3_is n h]
set_option maxRecDepth 100000 in
set_option maxHeartbeats 1000000 in
theorem four_any (n : Nat) (w : World) (hn : n < 4294967296) :
    Calls Try.prog 28 #[.int .u32 (n : Int)] w fun e w' =>
      e = .returned (.agg #[.int .u8 ((Crc.byte0 n).toNat : Int), .int .u8 ((Crc.byte1 n).toNat : Int), .int .u8 ((Crc.byte2 n).toNat : Int), .int .u8 ((Crc.byte3 n).toNat : Int)]) ∧ Below w.heap.size w w' := by
  have H := Lib.hid (fourV_is n hn)
  go_enter Try.func28, Try.ntmps28
  go_wp2_with fail
  refine wp_loop_rounds 5 ?_
  iterate 5 (rw [rounds_succ]; go_wp2_with fail)
  refine bodyPost_ret (v := .agg #[Value.int .u8 ((n : Int) % 256), .int .u8 ((n : Int) / 256 % 256), .int .u8 ((n : Int) / 65536 % 256), .int .u8 ((n : Int) / 16777216)]) (by simp [results, Try.results28, go_sem]) rfl ⟨by rw [H.out], ?_⟩
  exact ((Below.refl _ _).alloc (Nat.le_refl _) _).alloc (by simp) _

theorem byte_info : (Try.prog.info? 5).map (fun i => (i.zero, i.size, i.bytes)) = some (some (.int .u8 0), 1, 1) := by kernel_rfl
theorem zero_row (n : Nat) : madeCells #[Value.int .u8 0] n = (bs (List.replicate n 0)).toArray := by
  apply Array.ext'
  simp only [madeCells, bs, List.map_replicate]
  apply List.ext_getElem
  · simp
  · intro i h1 h2
    simp [Nat.mod_one]

theorem cell_of_new_row (w : World) (cs : Array Value) (t : TypeId) (j : Nat) : (w.alloc (.cells cs t)).cell? ((⟨w.heap.size, 0, none⟩ : Addr).add j) = cs[j]? := by
  have e : (⟨w.heap.size, 0, none⟩ : Addr).add j = ⟨w.heap.size, j, none⟩ := by unfold Addr.add; split <;> simp_all
  rw [e, cell_of_row _ _ _ _ _ _ (heap_alloc_new w _)]
theorem splice_head (n : Nat) (c0 c1 c2 c3 : UInt8) : splice (bs (List.replicate (4 + n) 0)) 0 (bs [c0, c1, c2, c3]) = bs (c0 :: c1 :: c2 :: c3 :: List.replicate n 0) := by
  unfold splice
  rw [List.take_zero, bs_drop, bs_length, ← bs_append, List.nil_append]
  simp [show 4 + n - 4 = n by omega]
theorem splice_tail (l : List UInt8) (n : Nat) (hn : n = l.length) (c0 c1 c2 c3 : UInt8) : splice (bs (c0 :: c1 :: c2 :: c3 :: List.replicate n 0)) 4 (bs (l.take n)) = bs (c0 :: c1 :: c2 :: c3 :: l) := by
  subst hn
  have e : c0 :: c1 :: c2 :: c3 :: List.replicate l.length 0 = [c0, c1, c2, c3] ++ List.replicate l.length 0 := rfl
  unfold splice
  rw [List.take_length, bs_take, bs_drop, bs_length, ← bs_append, ← bs_append, e]
  show bs ([c0, c1, c2, c3] ++ (l ++ _)) = _
  rw [List.drop_eq_nil_of_le (by simp; omega), List.append_nil]
  rfl

theorem lay_is (l : List UInt8) : Crc.lay l = Crc.byte0 (Crc.sum l) :: Crc.byte1 (Crc.sum l) :: Crc.byte2 (Crc.sum l) :: Crc.byte3 (Crc.sum l) :: l := rfl
set_option maxRecDepth 100000 in
set_option maxHeartbeats 2000000 in
theorem lay_any (s : ByteArray) (w : World) (hs : s.size ≤ 140737488351232) :
    Calls Try.prog 14 #[.string s] w fun e w' => e = .returned (.string ⟨(Crc.lay s.data.toList).toArray⟩) ∧ Below w.heap.size w w' := by
  obtain ⟨i0, hi0, hz0, hz1, hz2⟩ := info_parts byte_info
  have hmk := run_make (P := Try.prog) w 34 5 i0 (.int .u8 0) Try.underlying34 hi0 hz0 .i64 .i64 (4 + s.size) (4 + s.size) (by omega) (by omega) (by rw [hz2]; omega) (by omega)
  rw [hz1, show ((4 : Int) + s.size).toNat = 4 + s.size by omega, Nat.mul_one] at hmk
  clear hz1 hz2 hz0 hi0
  have hr0 := Lib.hid (show Row (w.alloc (.cells (madeCells #[.int .u8 0] (4 + s.size)) 5)) w.heap.size 5 (List.replicate (4 + s.size) 0) by
    unfold Row
    rw [heap_alloc_new, zero_row])
  have hb0 := Lib.hid ((Below.refl w.heap.size w).alloc (Nat.le_refl _) (.cells (madeCells #[.int .u8 0] (4 + s.size)) 5))
  by_cases h0 : s = ByteArray.empty
  · subst h0
    have e0 : ((4 : Int) + ((ByteArray.empty.size : Nat) : Int)) = 4 := rfl
    have e1 : 4 + ByteArray.empty.size = 4 := rfl
    rw [e0, e1] at hmk
    rw [e1] at hr0 hb0
    clear e0 e1
    go_enter Try.func14, Try.ntmps14
    go_wp2_with fail
    refine (sum_any ByteArray.empty _ (by decide)).mono ?_
    rintro e w1 ⟨rfl, hb⟩
    have hr1 := Lib.hid (hr0.out.below hb (by simp))
    have hb1 := Lib.hid (hb0.out.trans (hb.mono (by simp)))
    clear hb hr0 hb0 hmk
    go_wp2_with fail
    refine (four_any _ w1 (Crc.sum_lt _)).mono ?_
    rintro e w2 ⟨rfl, hb⟩
    have hr2 := Lib.hid (hr1.out.below hb hr1.out.lt)
    have hb2 := Lib.hid (hb1.out.trans (hb.mono (Nat.le_of_lt hr1.out.lt)))
    clear hb hr1 hb1
    have HF := Lib.hid (lay_is [])
    generalize Crc.byte0 (Crc.sum []) = c0 at *
    generalize Crc.byte1 (Crc.sum []) = c1 at *
    generalize Crc.byte2 (Crc.sum []) = c2 at *
    generalize Crc.byte3 (Crc.sum []) = c3 at *
    have hr3 := Lib.hid (show Row (w2.alloc (.cells #[.int .u8 (c0.toNat : Int), .int .u8 (c1.toNat : Int), .int .u8 (c2.toNat : Int), .int .u8 (c3.toNat : Int)] 53)) w.heap.size 5 (List.replicate (4 + ByteArray.empty.size) 0) from
      (Below.heap_alloc _ _ _ hr2.out.lt).trans hr2.out)
    go_wp2_with (refine wpList_copy_splice (o := ⟨some 14, _, _, _, _, _⟩) rfl (.tmp 12) (.tmp 13) 34 34 rfl 5 Try.underlying34 (by kernel_rfl) (some ⟨w.heap.size, 0, none⟩) (some ⟨w2.heap.size, 0, none⟩) 4 4 4 4 rfl rfl w.heap.size 0 (bs (List.replicate (4 + ByteArray.empty.size) 0)) 5 hr3.out (bs [c0, c1, c2, c3]) ?_ ?_ ?_ ?_ w.heap.size w ?_ (Nat.le_refl _) ?_)
    · simp [bs]
    · intro _ j v hj
      simpa [bs] using hj
    · simp [bs]
    · exact bs_one _
    · exact hb2.out.alloc (Nat.le_of_lt hr2.out.lt) _
    intro w3 hg3 hb3
    have hr4 := Lib.hid (show Row w3 w.heap.size 5 (c0 :: c1 :: c2 :: c3 :: List.replicate ByteArray.empty.size 0) by
      have := hg3.out
      exact this)
    have hb4 := Lib.hid hb3
    clear hg3 hb3 hr3 hr2 hb2
    go_wp2_with (refine wpList_copy_text (o := ⟨some 18, _, _, _, _, _⟩) rfl (.tmp 16) (.tmp 17) 34 9 rfl 5 Try.underlying34 (by kernel_rfl) w.heap.size 0 0 0 ByteArray.empty rfl rfl (bs (c0 :: c1 :: c2 :: c3 :: List.replicate ByteArray.empty.size 0)) 5 hr4.out ?_ w.heap.size w hb4.out (Nat.le_refl _) ?_)
    · simp [bs_length]
    intro w4 hg4 hb4' _
    have hr5 := Lib.hid (show Row w4 w.heap.size 5 (c0 :: c1 :: c2 :: c3 :: []) by
      have := hg4.out
      exact this)
    clear hg4 hr4 hb4
    have hcv := run_convert_bytes_back (P := Try.prog) w4 34 9 5 ⟨w.heap.size, 0, none⟩ 4 (c0 :: c1 :: c2 :: c3 :: []) Try.underlying34 Try.underlying5 Try.underlying9 (fun j hj => by
      have e : (⟨w.heap.size, 0, none⟩ : Addr).add j = ⟨w.heap.size, j, none⟩ := by unfold Addr.add; split <;> simp_all
      rw [e]; exact hr5.out.cell j hj)
    rw [show (c0 :: c1 :: c2 :: c3 :: []).length = 4 by rfl] at hcv
    go_wp2_with fail
    go_ret
    exact ⟨by rw [show ByteArray.empty.data.toList = [] from rfl, HF.out]; rfl, hb4'.out⟩
  · have hne : ByteArray.empty ≠ s := fun h => h0 h.symm
    have HL := Lib.hid (size_list s)
    go_enter Try.func14, Try.ntmps14
    go_wp2_with fail
    refine (sum_any s _ (by omega)).mono ?_
    rintro e w1 ⟨rfl, hb⟩
    have hr1 := Lib.hid (hr0.out.below hb (by simp))
    have hb1 := Lib.hid (hb0.out.trans (hb.mono (by simp)))
    clear hb hr0 hb0 hmk
    go_wp2_with fail
    refine (four_any _ w1 (Crc.sum_lt _)).mono ?_
    rintro e w2 ⟨rfl, hb⟩
    have hr2 := Lib.hid (hr1.out.below hb hr1.out.lt)
    have hb2 := Lib.hid (hb1.out.trans (hb.mono (Nat.le_of_lt hr1.out.lt)))
    clear hb hr1 hb1
    have HF := Lib.hid (lay_is s.data.toList)
    generalize Crc.byte0 (Crc.sum s.data.toList) = c0 at *
    generalize Crc.byte1 (Crc.sum s.data.toList) = c1 at *
    generalize Crc.byte2 (Crc.sum s.data.toList) = c2 at *
    generalize Crc.byte3 (Crc.sum s.data.toList) = c3 at *
    have hr3 := Lib.hid (show Row (w2.alloc (.cells #[.int .u8 (c0.toNat : Int), .int .u8 (c1.toNat : Int), .int .u8 (c2.toNat : Int), .int .u8 (c3.toNat : Int)] 53)) w.heap.size 5 (List.replicate (4 + s.size) 0) from
      (Below.heap_alloc _ _ _ hr2.out.lt).trans hr2.out)
    go_wp2_with (refine wpList_copy_splice (o := ⟨some 14, _, _, _, _, _⟩) rfl (.tmp 12) (.tmp 13) 34 34 rfl 5 Try.underlying34 (by kernel_rfl) (some ⟨w.heap.size, 0, none⟩) (some ⟨w2.heap.size, 0, none⟩) (4 + s.size) (4 + s.size) 4 4 rfl rfl w.heap.size 0 (bs (List.replicate (4 + s.size) 0)) 5 hr3.out (bs [c0, c1, c2, c3]) ?_ ?_ ?_ ?_ w.heap.size w ?_ (Nat.le_refl _) ?_)
    · simp [bs]
    · intro _ j v hj
      simpa [bs] using hj
    · simp [bs]
    · exact bs_one _
    · exact hb2.out.alloc (Nat.le_of_lt hr2.out.lt) _
    intro w3 hg3 hb3
    have hr4 := Lib.hid (show Row w3 w.heap.size 5 (c0 :: c1 :: c2 :: c3 :: List.replicate s.size 0) by
      have := hg3.out
      rwa [splice_head] at this)
    have hb4 := Lib.hid hb3
    clear hg3 hb3 hr3 hr2 hb2
    go_wp2_with (refine wpList_copy_text (o := ⟨some 18, _, _, _, _, _⟩) rfl (.tmp 16) (.tmp 17) 34 9 rfl 5 Try.underlying34 (by kernel_rfl) w.heap.size 4 s.size s.size s rfl rfl (bs (c0 :: c1 :: c2 :: c3 :: List.replicate s.size 0)) 5 hr4.out ?_ w.heap.size w hb4.out (Nat.le_refl _) ?_)
    · simp [bs_length]; omega
    intro w4 hg4 hb4' _
    have hr5 := Lib.hid (show Row w4 w.heap.size 5 (c0 :: c1 :: c2 :: c3 :: s.data.toList) by
      have := hg4.out
      rwa [splice_tail _ _ HL.out.symm] at this)
    clear hg4 hr4 hb4
    have hcv := run_convert_bytes_back (P := Try.prog) w4 34 9 5 ⟨w.heap.size, 0, none⟩ (4 + s.size) (c0 :: c1 :: c2 :: c3 :: s.data.toList) Try.underlying34 Try.underlying5 Try.underlying9 (fun j hj => by
      have e : (⟨w.heap.size, 0, none⟩ : Addr).add j = ⟨w.heap.size, j, none⟩ := by unfold Addr.add; split <;> simp_all
      rw [e]; exact hr5.out.cell j hj)
    rw [show (c0 :: c1 :: c2 :: c3 :: s.data.toList).length = (4 + s.size) by simp only [List.length_cons, HL.out]; omega] at hcv
    go_wp2_with fail
    go_ret
    exact ⟨by rw [HF.out]; rfl, hb4'.out⟩
end Go.Proofs.Ytbjkefodlnkaeaa
