/- A table's part read. Conditions: the text is a part as it is laid, of at most 116 entries. -/
import Derived.Test.YtbjkefodlnkaeaaRootPart
import Derived.Laws.BitsAllLaws
import Derived.BigQuiet
import Derived.Deep.QuietTactic
import Derived.Outline
namespace Go.Proofs.Ytbjkefodlnkaeaa
open Go.RowKit

theorem ofInt_i64 (a : Nat) (ha : a < 65536) : (BitVec.ofInt 64 (a : Int)).toNat = a := by
  rw [BitVec.ofInt_natCast, BitVec.toNat_ofNat]; exact Nat.mod_eq_of_lt (by omega)
theorem i64_or_nat (a b : Nat) (ha : a < 65536) (hb : b < 65536) : bits .or .i64 (a : Int) (b : Int) = ((a ||| b : Nat) : Int) := by
  have hx : a ||| b < 2 ^ 16 := Nat.or_lt_two_pow (by omega) (by omega)
  show IntKind.i64.wrap ((BitVec.ofInt 64 (a : Int) ||| BitVec.ofInt 64 (b : Int)).toNat : Int) = _
  rw [BitVec.toNat_or, ofInt_i64 a ha, ofInt_i64 b hb]
  exact IntWalk.i64_in _ (by omega)
theorem or_two (a b : Nat) (ha : a < 256) (hb : b < 256) : bits .or .i64 ((a : Int) * 256) (b : Int) = ((a * 256 + b : Nat) : Int) := by
  have e : (a : Int) * 256 = ((a * 256 : Nat) : Int) := by omega
  rw [e, i64_or_nat (a * 256) b (by omega) (by omega)]
  congr 1
  rw [Nat.mul_comm a 256]
  exact (Nat.two_pow_add_eq_or_of_lt (i := 8) hb a).symm
theorem int_row : (Try.prog.info? 3).map (fun i => (i.zero, i.size, i.bytes)) = some (some (.int .i64 0), 1, 8) := by kernel_rfl
/-- ints as cells -/
def is (l : List Int) : List Value := l.map fun n => Value.int .i64 n
theorem is_length (l : List Int) : (is l).length = l.length := by simp [is]
theorem is_append (l m : List Int) : is (l ++ m) = is l ++ is m := by simp [is]
namespace Rt
def down (p : Int) : Int := max p (-1)
theorem enc_bytes (p : Int) (h : p ≤ 1023) : ∃ b0 b1 : UInt8, enc p = [b0, b1] ∧ (b0.toNat * 256 + b1.toNat : Nat) = (down p + 1).toNat ∧ -1 ≤ down p ∧ down p ≤ 1023 := by
  refine ⟨UInt8.ofNat ((down p + 1).toNat / 256 % 256), UInt8.ofNat ((down p + 1).toNat % 256), ?_, ?_, by unfold down; omega, by unfold down; omega⟩
  · unfold enc two down
    show Pk.beL (1 + 1) _ = _
    rw [Pk.beL_front]
    show _ :: Pk.beL (0 + 1) _ = _
    rw [Pk.beL_front]
    simp only [Nat.pow_one, Nat.pow_zero, Nat.div_one]
    rfl
  · rw [Pk.ofNat_toNat, Pk.ofNat_toNat]
    unfold down
    omega
theorem flat_at : ∀ (L : List Int) (j : Nat) (h : j < L.length), ((L.flatMap enc).drop (2 * j)).take 2 = enc (L[j]'h)
  | a :: r, 0, _ => by
    rw [List.flatMap_cons]
    show List.take 2 (enc a ++ _) = enc a
    rw [List.take_append_of_le_length (by rw [show (enc a).length = 2 from two_length _]; exact Nat.le_refl _), List.take_of_length_le (by rw [show (enc a).length = 2 from two_length _]; exact Nat.le_refl _)]
  | a :: r, j + 1, h => by
    have hl : (enc a).length = 2 := two_length _
    rw [List.flatMap_cons, List.drop_append, hl, List.drop_eq_nil_of_le (by rw [hl]; omega), List.nil_append, show 2 * (j + 1) - 2 = 2 * j by omega]
    exact flat_at r j (by simpa using h)
end Rt
theorem two_at (s : ByteArray) (j : Nat) (h : 2 * j + 1 < s.size) : (s.data.toList.drop (2 * j)).take 2 = [s[2 * j], s[2 * j + 1]] := by
  have hz := size_list s
  rw [List.drop_eq_getElem_cons (by omega), List.drop_eq_getElem_cons (by omega)]
  rfl
/-- what GetPart hands back -/
def GotP (w : World) (L : List Int) (e : Ending) (w' : World) : Prop :=
  ∃ (ad : Option Addr) (cap : Nat), e = .returned (.tuple #[.slice ad L.length cap, .int .i64 0]) ∧ w'.ownsRow w.heap.size 3 1 (.slice ad L.length cap) L.length (is (L.map Rt.down)) ∧ Below w.heap.size w w'
set_option maxRecDepth 100000 in
set_option maxHeartbeats 4000000 in
theorem getpart_any {w : World} (s : ByteArray) (L : List Int) (hL : L.length ≤ 116) (hs : s.data.toList = L.flatMap Rt.enc) (hall : ∀ p ∈ L, p ≤ 1023) :
    Calls Try.prog 26 #[.string s, .int .i64 (L.length : Int)] w (GotP w L) := by
  obtain ⟨i0, hi, hz0, hz1, hz2⟩ := info_parts int_row
  have hz : s.size = 2 * L.length := by rw [← size_list, hs, enc_length]
  have HZ := Lib.hid hz
  have hz' : 2 * L.length ≤ s.size := by omega
  have HV : Hid (∀ j (hj : j < L.length) (h0 : 2 * j < s.size) (h1 : 2 * j + 1 < s.size), ∃ p, L[j]? = some p ∧ s[2 * j].toNat * 256 + s[2 * j + 1].toNat = (Rt.down p + 1).toNat ∧ -1 ≤ Rt.down p ∧ Rt.down p ≤ 1023) := Lib.hid (by
    intro j hj h0 h1
    obtain ⟨b0, b1, e1, e2, e3, e4⟩ := Rt.enc_bytes L[j] (hall _ (List.getElem_mem hj))
    have e5 := Rt.flat_at L j hj
    rw [← hs, two_at s j h1, e1] at e5
    injection e5 with e6 e7
    injection e7 with e7 _
    exact ⟨L[j], List.getElem?_eq_getElem hj, by rw [e6, e7, e2], e3, e4⟩)
  clear hs hall hz
  have hnn : ¬ (L.length : Int) < 0 := by omega
  have hnb : ¬ (116 : Int) < (L.length : Int) := by omega
  have hnc : ¬ (s.size : Int) < 2 * (L.length : Int) := by omega
  generalize hn : L.length = n at *
  have HN := Lib.hid hn
  clear hn
  go_enter Try.func26, Try.ntmps26
  go_wp2_with fail
  go_loopw [6, 23] (fun v x wr => ∃ j : Nat, j ≤ n ∧ x = .int .i64 j ∧ Hid (wr.ownsRow w.heap.size 3 1 v j (is ((L.take j).map Rt.down))) ∧ Hid (Below w.heap.size w wr)) (fun _ x _ => 1000 - (intOf x).toNat)
  case atStart => exact ⟨0, Nat.zero_le _, rfl, World.ownsRow_nil _ _ _ _, Below.refl _ _⟩
  case round =>
    obtain ⟨j, hj, rfl, hR, hB⟩ := hrel
    by_cases hlt : j < n
    · have hltI : (j : Int) < (n : Int) := by omega
      have h0 : 2 * j < s.size := by omega
      have h1 : 2 * j + 1 < s.size := by omega
      obtain ⟨p, hp, hv, hp1, hp2⟩ := HV.out j hlt h0 h1
      have HT := Lib.hid (show (L.take (j + 1)).map Rt.down = (L.take j).map Rt.down ++ [Rt.down p] by
        have hj2 : j < L.length := by rw [HN.out]; exact hlt
        rw [List.take_succ_eq_append_getElem hj2, List.map_append]
        rw [List.getElem?_eq_getElem hj2] at hp
        rw [Option.some.inj hp]
        rfl)
      have b0 := s[2 * j].toNat_lt
      have b1 := s[2 * j + 1].toNat_lt
      have HO := Lib.hid (show bits .or .i64 ((s[2 * j].toNat : Int) * 256) (s[2 * j + 1].toNat : Int) = Rt.down p + 1 by rw [or_two _ _ b0 b1, hv]; omega)
      have hw1 : IntKind.i64.wrap (2 * (j : Int)) = 2 * (j : Int) := IntWalk.i64_in _ (by omega)
      have hw2 : IntKind.i64.wrap (2 * (j : Int) + 1) = 2 * (j : Int) + 1 := IntWalk.i64_in _ (by omega)
      have g0 : 0 ≤ 2 * (j : Int) := by omega
      have g1 : 2 * (j : Int) < (s.size : Int) := by omega
      have g2 : (2 * (j : Int)).toNat = 2 * j := by omega
      have k0 : 0 ≤ 2 * (j : Int) + 1 := by omega
      have k1 : 2 * (j : Int) + 1 < (s.size : Int) := by omega
      have k2 : (2 * (j : Int) + 1).toNat = 2 * j + 1 := by omega
      clear hp hv
      go_wp2_with fail
      go_quiet (fail)
      rw [HO.out]
      have HB := Lib.hid (below_drewN hB.out nq)
      have HR : Hid ((wr.drewN nq).ownsRow w.heap.size 3 1 u6 j (is ((L.take j).map Rt.down))) := Lib.hid hR.out
      clear HO hR hB
      generalize (s[2 * j].toNat : Int) = x0 at *
      generalize (s[2 * j + 1].toNat : Int) = x1 at *
      clear g0 g1 g2 k0 k1 k2 hw1 hw2
      generalize wr.drewN nq = wq at *
      generalize Rt.down p = q at *
      go_wp2_with (at_builtin; refine wpList_append_own _ rfl (.tmp 41) (.tmp 44) 36 rfl w.heap.size 3 i0 (.int .i64 0) 1 8 Try.underlying36 hi hz0 hz1 hz2 rfl (by decide) _ j _ rfl (HR.out.alloc _) ⟨wq.heap.size, 0, none⟩ 1 1 [.int .i64 q] rfl rfl (one_news _ _ _) (one_cell _ _) (by rw [show maxLen = 9223372036854775807 from rfl]; omega) (by omega) (by have := HB.out.size; simp; omega) ?_; intro v2 w2 hown2 hgrow2 _)
      have HB2 := Lib.hid (below_row (HB.out.trans (((Below.refl _ wq).alloc (Nat.le_refl _) _).mono HB.out.size)) (HR.out.alloc _) hgrow2 (Nat.le_refl _) (by have := HB.out.size; simp; omega))
      have HR2 := Lib.hid (show w2.ownsRow w.heap.size 3 1 v2 (j + 1) (is ((L.take (j + 1)).map Rt.down)) by rw [HT.out, is_append]; exact hown2)
      clear hown2 hgrow2 HT HR HB
      go_wp2_with fail
      go_roundw
      case rel => exact ⟨j + 1, by omega, by go_num, HR2, HB2⟩
      case measure => simp [intOf]; omega
    · obtain rfl : j = n := by omega
      have HL2 := Lib.hid (show L.take j = L by rw [← HN.out, List.take_length])
      rw [HL2.out] at hR
      clear HL2
      obtain ⟨ad3, m3, cap3, rfl, rfl⟩ := owns_form hR.out
      go_wp2_with fail
      go_ret2
      refine ⟨ad3, cap3, ?_, ?_, hB.out⟩
      · rw [HN.out]; rfl
      · rw [HN.out]; exact hR.out
end Go.Proofs.Ytbjkefodlnkaeaa
