/- The calls that lay numbers as bytes and read them back, in the program and in the document's answer. Conditions: signed numbers are not below 0 where they are laid; places lie within the text where they are read. -/
import Derived.Test.YtbjkefodlnkaeaaPackPlain
import Derived.Test.YtbjkefodlnkaeaaBase
import Derived.Laws.AppendOwn
import Derived.Laws.AppendOwnNone
import Derived.Lib.AppendStr
import Derived.Lib.Strings
namespace Go.Proofs.Ytbjkefodlnkaeaa
open Go.RowKit

theorem u8_row : (Try.prog.info? 5).map (fun i => (i.zero, i.size, i.bytes)) = some (some (.int .u8 0), 1, 1) := by kernel_rfl
theorem cell_at_new (w : World) (t : TypeId) (cs : Array Value) (j : Nat) (v : Value) (h : cs[j]? = some v) : (w.alloc (.cells cs t)).cell? ((⟨w.heap.size, 0, none⟩ : Addr).add j) = some v := by
  rw [Addr.add_lit, Nat.zero_add, cell_of_row _ _ _ _ _ _ (heap_alloc_new w _)]
  exact h
theorem one_news (w : World) (t : TypeId) (v : Value) : ∀ j u, [v][j]? = some u → (w.alloc (.cells #[v] t)).cell? ((⟨w.heap.size, 0, none⟩ : Addr).add j) = some u := by
  intro j u hu
  cases j with
  | zero => exact cell_at_new w t #[v] 0 u (by simpa using hu)
  | succ j => simp at hu
theorem one_cell (k : IntKind) (n : Int) : ∀ u ∈ [Value.int k n], u.oneCell' = true := fun u hu => by rw [List.mem_singleton.1 hu]; rfl
theorem below_row {B base : Nat} {w0 w w' : World} {e : TypeId} {v : Value} {n : Nat} {xs : List Value} (h : Below B w0 w) (hown : w.ownsRow base e 1 v n xs) (hg : w.grownBy w' v.ownBlock) (hb : B ≤ base) (hz : B ≤ w.heap.size) : Below B w0 w' :=
  h.trans ⟨hg.os, hg.tape, hg.output, hg.size, fun i hi => hg.block i (by omega) (fun e => by have := (hown.lt i e.symm).1; omega)⟩
/-- a row of bytes read as a text -/
theorem conv_row {w : World} {base n cap : Nat} {ad : Option Addr} {l : List UInt8} (h : w.ownsRow base 5 1 (.slice ad n cap) n (bs l)) (hn : n = l.length) :
    (convert 34 9 (.slice ad n cap)).run Try.prog w = .ok (.string ⟨l.toArray⟩) w := by
  subst hn
  rcases h.2 with ⟨h1, h0⟩ | ⟨g, cap', cur, hv, _, hg, hnc, _, hc, ht⟩
  · have hl : l = [] := List.eq_nil_of_length_eq_zero h0
    subst hl
    cases h1
    exact (run_convert_bytes_string (P := Try.prog) w 34 9 5 none 0 0 Try.underlying34 Try.underlying5 Try.underlying9).trans rfl
  · cases hv
    refine run_convert_bytes_back (P := Try.prog) w 34 9 5 ⟨g, 0, none⟩ cap l Try.underlying34 Try.underlying5 Try.underlying9 (fun j hj => ?_)
    rw [Addr.add_lit, Nat.zero_add, cell_of_row w g j _ _ (0, 0) hg]
    rw [Nat.mul_one] at ht
    have := congrArg (fun x : List Value => x[j]?) ht
    simp only [List.getElem?_take, if_pos hj] at this
    rw [bs_get l j hj] at this
    simpa using this

theorem shr_byte (n m : Nat) : ((n : Int) / (2 : Int) ^ (8 * m) % 256) = ((UInt8.ofNat (n / 256 ^ m % 256)).toNat : Int) := by
  rw [Pk.ofNat_toNat, show (256 : Nat) ^ m = 2 ^ (8 * m) by rw [Nat.pow_mul], Int.natCast_emod, Int.natCast_ediv, Int.natCast_pow]
  rfl
theorem owns_form {w : World} {base n : Nat} {e : TypeId} {v : Value} {xs : List Value} (h : w.ownsRow base e 1 v n xs) : ∃ (ad : Option Addr) (m cap : Nat), v = .slice ad m cap ∧ m = n := by
  rcases h.2 with ⟨h1, h0⟩ | ⟨g, cap, cur, hv, _⟩
  · exact ⟨none, 0, 0, h1, h0.symm⟩
  · exact ⟨_, _, _, hv, rfl⟩
/-- what put hands back -/
def PutN (w : World) (k n : Nat) (e : Ending) (w' : World) : Prop := ∃ (ad : Option Addr) (cap : Nat), e = .returned (.slice ad k cap) ∧ w'.ownsRow w.heap.size 5 1 (.slice ad k cap) k (bs (Pk.beL k n)) ∧ Below w.heap.size w w'
set_option maxRecDepth 100000 in
set_option maxHeartbeats 2000000 in
theorem put8_any (n : Nat) (w : World) (_hn : n < 18446744073709551616) :
    Calls Try.prog 38 #[.slice none 0 0, .int .u64 (n : Int), .int .i64 8] w (PutN w 8 n) := by
  obtain ⟨i0, hi, hz0, hz1, hz2⟩ := info_parts u8_row
  go_enter Try.func38, Try.ntmps38
  go_wp2_with fail
  go_loopw [0, 7] (fun v i wr => ∃ m : Nat, m ≤ 8 ∧ i = .int .i64 ((m : Int) - 1) ∧ Hid (wr.ownsRow w.heap.size 5 1 v (8 - m) (bs (Pk.beL (8 - m) (n / 256 ^ m)))) ∧ Hid (Below w.heap.size w wr)) (fun _ i _ => (intOf i + 1).toNat)
  case atStart => exact ⟨8, by omega, by go_num, World.ownsRow_nil _ _ _ _, Below.refl _ _⟩
  case round =>
    obtain ⟨m, hm, rfl, hR, hB⟩ := hrel
    cases m with
    | zero =>
      obtain ⟨ad, n8, cap, rfl, rfl⟩ := owns_form hR.out
      have HR := Lib.hid hR.out
      rw [Nat.pow_zero, Nat.div_one] at HR
      clear hR
      go_wp2_with fail
      go_ret
      exact ⟨ad, cap, rfl, HR.out, hB.out⟩
    | succ m =>
      have hm8 : m < 8 := by omega
      have e1 : ((m + 1 : Nat) : Int) - 1 = (m : Int) := by omega
      rw [e1]
      clear e1
      have e2 := Lib.hid (shr_byte n m)
      go_wp2_with (at_builtin; refine wpList_append_own _ rfl (.tmp 14) (.tmp 20) 34 rfl w.heap.size 5 i0 (.int .u8 0) 1 1 Try.underlying34 hi hz0 hz1 hz2 rfl (by decide) _ (8 - (m + 1)) _ rfl (hR.out.alloc _) ⟨wr.heap.size, 0, none⟩ 1 1 [.int .u8 ((n : Int) / (2 : Int) ^ (8 * m) % 256)] rfl rfl (one_news _ _ _) (one_cell _ _) (by rw [show maxLen = 9223372036854775807 from rfl]; omega) (by omega) (by have := hB.out.size; simp; omega) ?_; intro v2 w2 hown2 hgrow2 _)
      have HB2 := Lib.hid (below_row (hB.out.trans (((Below.refl _ wr).alloc (Nat.le_refl _) _).mono hB.out.size)) (hR.out.alloc _) hgrow2 (Nat.le_refl _) (by have := hB.out.size; simp; omega))
      have HR2 := Lib.hid (show w2.ownsRow w.heap.size 5 1 v2 (8 - m) (bs (Pk.beL (8 - m) (n / 256 ^ m))) from by
        rw [e2.out] at hown2
        rw [show 8 - (m + 1) + 1 = 8 - m by omega] at hown2
        rw [show 8 - m = 8 - (m + 1) + 1 by omega, Pk.beL, bs_append, Nat.div_div_eq_div_mul, ← Nat.pow_succ, show 8 - (m + 1) + 1 = 8 - m by omega]
        exact hown2)
      clear hown2 hgrow2 hR hB e2
      go_wp2_with fail
      go_roundw
      case rel => exact ⟨m, by omega, by go_num, HR2, HB2⟩
      case measure => simp [intOf]
theorem enc_nat (n : Nat) : Pk.encI (n : Int) = Pk.beL 8 (n + 9223372036854775808) := by
  unfold Pk.encI
  congr 1
set_option maxRecDepth 100000 in
set_option maxHeartbeats 1000000 in
theorem i_any (n : Nat) (w : World) (hn : n ≤ 9223372036854775807) :
    Calls Try.prog 33 #[.int .i64 (n : Int)] w fun e w' => e = .returned (.string ⟨(Pk.encI (n : Int)).toArray⟩) ∧ Below w.heap.size w w' := by
  have he : (n : Int) + 9223372036854775808 = ((n + 9223372036854775808 : Nat) : Int) := by omega
  have HE := Lib.hid he
  have HN := Lib.hid (enc_nat n)
  clear he
  go_enter Try.func33, Try.ntmps33
  go_wp2_with fail
  rw [HE.out]
  refine (put8_any (n + 9223372036854775808) _ (by omega)).mono ?_
  rintro e w1 ⟨ad, cap, rfl, ho, hb⟩
  have hcv := conv_row ho (Pk.beL_length 8 (n + 9223372036854775808)).symm
  have HB := Lib.hid hb
  clear ho hb
  go_wp2_with fail
  go_ret
  exact ⟨by rw [HN.out]; rfl, HB.out⟩
set_option maxRecDepth 100000 in
theorem or_byte (a b : Nat) (hb : b < 256) (ha : a * 256 + b < 18446744073709551616) : bits .or .u64 ((a : Int) * 256) (b : Int) = ((a * 256 + b : Nat) : Int) := by
  have e : (a : Int) * 256 = ((a * 256 : Nat) : Int) := by omega
  rw [e, u64_or_nat (a * 256) b (by omega) (by omega)]
  congr 1
  rw [Nat.mul_comm a 256]
  exact (Nat.two_pow_add_eq_or_of_lt (i := 8) hb a).symm
theorem pow_le (k : Nat) (h : k ≤ 8) : 256 ^ k ≤ 18446744073709551616 := Nat.le_trans (Nat.pow_le_pow_right (n := 256) (by decide) h) (Nat.le_of_eq (show (256 : Nat) ^ 8 = 18446744073709551616 from rfl))
set_option maxRecDepth 100000 in
set_option maxHeartbeats 2000000 in
theorem get_any (s : ByteArray) (w : World) (hs : s.size ≤ 8) :
    Calls Try.prog 42 #[.string s] w fun e w' => e = .returned (.int .u64 (Pk.deL s.data.toList : Int)) ∧ w = w' := by
  go_enter Try.func42, Try.ntmps42
  go_wp2_with fail
  go_loop [3, 7] (fun v i => ∃ k : Nat, k ≤ s.size ∧ i = .int .i64 k ∧ v = .int .u64 (Pk.deL (s.data.toList.take k) : Int)) (fun _ i => s.size - (intOf i).toNat)
  case atStart => exact ⟨0, Nat.zero_le _, rfl, rfl⟩
  case round =>
    obtain ⟨k, hk, rfl, rfl⟩ := hrel
    by_cases hlt : k < s.size
    · have h1 := Pk.deL_take_lt s.data.toList k (by rw [size_list]; omega)
      have h2 := pow_le (k + 1) (by omega)
      rw [Nat.pow_succ] at h2
      have hb := s[k].toNat_lt
      have hsm : Pk.deL (s.data.toList.take k) * 256 + s[k].toNat < 18446744073709551616 := by omega
      have HS := Lib.hid (show Pk.deL (s.data.toList.take (k + 1)) = Pk.deL (s.data.toList.take k) * 256 + s[k].toNat from by
        rw [take_byte s k hlt, Pk.deL_snoc])
      have HO := Lib.hid (or_byte _ _ hb hsm)
      clear h1 h2
      generalize Pk.deL (s.data.toList.take k) = a at *
      have ha : (a : Int) * 256 < 18446744073709551616 := by omega
      go_wp2_with fail
      go_round
      case rel => exact ⟨k + 1, by omega, by go_num, by rw [HS.out, ← HO.out]⟩
      case measure => simp [intOf]; omega
    · obtain rfl : k = s.size := by omega
      have HT := Lib.hid (show s.data.toList.take s.size = s.data.toList by rw [← size_list, List.take_length])
      go_wp2_with fail
      go_ret
      exact ⟨ret_int (by rw [HT.out]), rfl⟩
set_option maxRecDepth 100000 in
set_option maxHeartbeats 1000000 in
theorem left_in (s : ByteArray) (a n : Nat) (w : World) (hs : s.size ≤ 9223372036854775807) (h : a + n ≤ s.size) :
    Calls Try.prog 41 #[.string s, .int .i64 (a : Int), .int .i64 (n : Int)] w fun e w' => e = .returned (.int .i64 0) ∧ w = w' := by
  have h1 : ¬ (a : Int) < 0 := by omega
  have h2 : ¬ (s.size : Int) < (a : Int) := by omega
  have h3 : ¬ ((s.size : Int) - (a : Int)) < (n : Int) := by omega
  go_enter Try.func41, Try.ntmps41
  go_wp2_with fail
  go_ret
  exact ⟨rfl, rfl⟩
theorem ret_three {a b c d : Int} (h : a = b) (h2 : c = d) : Ending.returned (.tuple #[.int .i64 a, .int .i64 c, .int .i64 0]) = .returned (.tuple #[.int .i64 b, .int .i64 d, .int .i64 0]) := by rw [h, h2]
theorem ret_threeU {a c d : Int} (h2 : c = d) : Ending.returned (.tuple #[.int .u64 a, .int .i64 c, .int .i64 0]) = .returned (.tuple #[.int .u64 a, .int .i64 d, .int .i64 0]) := by rw [h2]
theorem dec_lo (n : Nat) (h : n < 9223372036854775808) : wrap64 ((n : Int) + 9223372036854775808) = (n : Int) - 9223372036854775808 := by
  unfold wrap64
  omega
theorem dec_hi (n : Nat) (h : ¬ n < 9223372036854775808) (h2 : n < 18446744073709551616) : wrap64 (IntKind.u64.wrap ((n : Int) + 9223372036854775808)) = (n : Int) - 9223372036854775808 := by
  have e : ∀ m : Int, IntKind.u64.wrap m = m % 18446744073709551616 := fun m => by simp [IntKind.wrap, IntKind.bits, IntKind.signed]
  rw [e]
  unfold wrap64
  omega
/-- eight bytes of a text -/
def at8 (s : ByteArray) (a : Nat) : List UInt8 := (s.data.toList.drop a).take 8
theorem at8_length (s : ByteArray) (a : Nat) (h : a + 8 ≤ s.size) : (at8 s a).length = 8 := by
  unfold at8
  rw [List.length_take, List.length_drop, size_list]
  omega
theorem ext_at8 (s : ByteArray) (a : Nat) : (s.extract a (a + 8)).data.toList = at8 s a := by
  rw [Lib.extract_data, show a + 8 - a = 8 by omega]
  rfl
def readU (s : ByteArray) (a : Nat) : Value := .tuple #[.int .u64 (Pk.deL (at8 s a) : Int), .int .i64 ((a + 8 : Nat) : Int), .int .i64 0]
def readI (s : ByteArray) (a : Nat) : Value := .tuple #[.int .i64 (Pk.decI (at8 s a)), .int .i64 ((a + 8 : Nat) : Int), .int .i64 0]
set_option maxRecDepth 100000 in
set_option maxHeartbeats 1000000 in
theorem readU_in (s : ByteArray) (a : Nat) (w : World) (hs : s.size ≤ 9223372036854775807) (h : a + 8 ≤ s.size) :
    Calls Try.prog 39 #[.string s, .int .i64 (a : Int)] w fun e w' => e = .returned (readU s a) ∧ w = w' := by
  have HL := Lib.hid (left_in s a 8 w hs h)
  have h1 : (a : Int) + 8 ≤ (s.size : Int) := by omega
  have HE := Lib.hid (ext_at8 s a)
  have HG := Lib.hid (get_any (s.extract a (a + 8)) w (by simp; omega))
  go_enter Try.func39, Try.ntmps39
  go_wp2_with fail
  refine HL.out.mono ?_
  rintro e w' ⟨rfl, rfl⟩
  go_wp2_with fail
  refine HG.out.mono ?_
  rintro e w' ⟨rfl, rfl⟩
  rw [HE.out]
  go_wp2_with fail
  go_ret3
  exact ⟨rfl, rfl⟩
set_option maxRecDepth 100000 in
set_option maxHeartbeats 1000000 in
theorem readI_in (s : ByteArray) (a : Nat) (w : World) (hs : s.size ≤ 9223372036854775807) (h : a + 8 ≤ s.size) :
    Calls Try.prog 34 #[.string s, .int .i64 (a : Int)] w fun e w' => e = .returned (readI s a) ∧ w = w' := by
  have HL := Lib.hid (readU_in s a w hs h)
  have hlt := Pk.deL_lt 8 (at8 s a) (at8_length s a h)
  have e8 : (256 : Nat) ^ 8 = 18446744073709551616 := rfl
  rw [e8] at hlt
  clear e8
  have HD : Hid (Pk.decI (at8 s a) = (Pk.deL (at8 s a) : Int) - 9223372036854775808) := rfl
  unfold readU at HL
  unfold readI
  generalize Pk.deL (at8 s a) = n at *
  by_cases hb : n < 9223372036854775808
  · have HW := Lib.hid (dec_lo n hb)
    go_enter Try.func34, Try.ntmps34
    go_wp2_with fail
    refine HL.out.mono ?_
    rintro e w' ⟨rfl, rfl⟩
    go_wp2_with fail
    go_ret3
    exact ⟨by rw [HD.out]; exact ret_three HW.out (by omega), rfl⟩
  · have HW := Lib.hid (dec_hi n hb hlt)
    go_enter Try.func34, Try.ntmps34
    go_wp2_with fail
    refine HL.out.mono ?_
    rintro e w' ⟨rfl, rfl⟩
    go_wp2_with fail
    go_ret3
    exact ⟨by rw [HD.out]; exact ret_three HW.out (by omega), rfl⟩

/-! the document's answer -/
/-- the lower bytes, one more -/
theorem low_byte (n j : Nat) : ((n / 256 ^ j : Nat) : Int) % 256 = ((UInt8.ofNat (n / 256 ^ j % 256)).toNat : Int) := by
  rw [Pk.ofNat_toNat, Int.natCast_emod]
  rfl
theorem owns_one {w : World} {base : Nat} {e : TypeId} (hb : base ≤ w.heap.size) (v : Value) : (w.alloc (.cells #[v] e)).ownsRow base e 1 (.slice (some ⟨w.heap.size, 0, none⟩) 1 1) 1 [v] :=
  ⟨rfl, .inr ⟨_, 1, #[v], rfl, hb, heap_alloc_new w _, Nat.le_refl _, by decide, rfl, rfl⟩⟩
theorem owns_cells {w : World} {base n : Nat} {e : TypeId} {v : Value} {xs : List Value} (h : w.ownsRow base e 1 v n xs) (hn : 0 < n) : ∃ g cap, v = .slice (some ⟨g, 0, none⟩) n cap ∧ ∀ i u, xs[i]? = some u → ((⟨g, 0, none⟩ : Addr).add i).block < w.heap.size ∧ w.cell? ((⟨g, 0, none⟩ : Addr).add i) = some u := by
  rcases h.2 with ⟨_, h0⟩ | ⟨g, cap, cur, hv, hg, hh, _, _, _, ht⟩
  · omega
  · refine ⟨g, cap, hv, fun i u hu => ?_⟩
    rw [Addr.add_lit, Nat.zero_add]
    refine ⟨lt_of_block hh, ?_⟩
    rw [cell_of_row w g i _ _ (0, 0) hh, ← Array.getElem?_toList]
    rw [← ht, List.getElem?_take] at hu
    split at hu
    · exact hu
    · cases hu
theorem low_one (n : Nat) : bs (Pk.beL 1 n) = [.int .u8 ((UInt8.ofNat (n / 256 ^ 0 % 256)).toNat : Int)] := by
  rw [show (1 : Nat) = 0 + 1 from rfl, Pk.beL_front]
  rfl
end Go.Proofs.Ytbjkefodlnkaeaa
