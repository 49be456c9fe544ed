/- Plain arithmetic of the dice: how a word is stirred, that unlike words are stirred to unlike ones, and what a chance is. No program in sight. Conditions: each word lies in 64 bits. -/
import Derived.Laws.BitsAllLaws
import Derived.RowKit
namespace Go.Proofs.Ytbeejcajjgghaaa
open Go.RowKit

theorem eq_of_xor (a b : Nat) (h : a ^^^ b = 0) : a = b := by
  have : a ^^^ b ^^^ b = b := by rw [h, Nat.zero_xor]
  rwa [Nat.xor_assoc, Nat.xor_self, Nat.xor_zero] at this
theorem xs_zero (c s : Nat) (hs : 0 < s) (h : c ^^^ (c >>> s) = 0) : c = 0 := by
  have h1 : c = c >>> s := eq_of_xor _ _ h
  rw [Nat.shiftRight_eq_div_pow] at h1
  rcases Nat.eq_zero_or_pos c with h0 | h0
  · exact h0
  · have h2 : c / 2 ^ s < c := Nat.div_lt_self h0 (Nat.one_lt_two_pow (by omega))
    omega
theorem xs_inj (a b s : Nat) (hs : 0 < s) (h : a ^^^ (a / 2 ^ s) = b ^^^ (b / 2 ^ s)) : a = b := by
  rw [← Nat.shiftRight_eq_div_pow, ← Nat.shiftRight_eq_div_pow] at h
  have h2 : (a ^^^ b) ^^^ ((a ^^^ b) >>> s) = 0 := by
    rw [Nat.shiftRight_xor_distrib]
    have : (a ^^^ b) ^^^ (a >>> s ^^^ b >>> s) = (a ^^^ a >>> s) ^^^ (b ^^^ b >>> s) := by
      rw [Nat.xor_assoc, Nat.xor_assoc]; congr 1
      rw [← Nat.xor_assoc, ← Nat.xor_assoc, Nat.xor_comm b]
    rw [this, h, Nat.xor_self]
  exact eq_of_xor _ _ (xs_zero _ s hs h2)
theorem mul_inj (N K K' a b : Int) (hK : K * K' % N = 1) (ha : 0 ≤ a ∧ a < N) (hb : 0 ≤ b ∧ b < N) (h : a * K % N = b * K % N) : a = b := by
  have e : ∀ x, 0 ≤ x ∧ x < N → (x * K % N) * K' % N = x := by
    intro x hx
    rw [Int.mul_emod, Int.emod_emod, ← Int.mul_emod, Int.mul_assoc, Int.mul_emod, hK, Int.mul_one, Int.emod_emod, Int.emod_eq_of_lt hx.1 hx.2]
  rw [← e a ha, ← e b hb, h]

/-- a number of 64 bits -/
def U64 (z : Int) : Prop := 0 ≤ z ∧ z < 18446744073709551616

theorem wrap_u64_eq (n : Int) : IntKind.u64.wrap n = n % 18446744073709551616 := by simp [IntKind.wrap, IntKind.bits, IntKind.signed]
theorem wrap_bd (n : Int) : U64 (IntKind.u64.wrap n) := by rw [wrap_u64_eq]; unfold U64; omega
theorem wrap_in (n : Int) (h : U64 n) : IntKind.u64.wrap n = n := by rw [wrap_u64_eq]; unfold U64 at h; omega

/-- one shift (a division by k) and one exclusive or -/
def xs (k z : Int) : Int := bits .xor .u64 z (z / k)
theorem xs_nat (s : Nat) (k z : Int) (hk : k = ((2 ^ s : Nat) : Int)) (h : U64 z) : xs k z = ((z.toNat ^^^ (z.toNat / 2 ^ s) : Nat) : Int) := by
  obtain ⟨h0, h1⟩ := h
  obtain ⟨n, rfl⟩ := Int.eq_ofNat_of_zero_le h0
  have e : ((n : Int) / k) = ((n / 2 ^ s : Nat) : Int) := by rw [hk, Int.natCast_ediv]
  unfold xs
  rw [e, Int.toNat_natCast]
  exact u64_xor_nat _ _ (by omega) (Nat.lt_of_le_of_lt (Nat.div_le_self _ _) (by omega))
theorem xs_bd (s : Nat) (k z : Int) (hk : k = ((2 ^ s : Nat) : Int)) (h : U64 z) : U64 (xs k z) := by
  rw [xs_nat s k z hk h]
  unfold U64 at h ⊢
  have h1 : z.toNat < 2 ^ 64 := by omega
  have h2 : z.toNat / 2 ^ s < 2 ^ 64 := Nat.lt_of_le_of_lt (Nat.div_le_self _ _) h1
  have := Nat.xor_lt_two_pow h1 h2
  omega
theorem xs_eq (s : Nat) (k : Int) (hs : 0 < s) (hk : k = ((2 ^ s : Nat) : Int)) (a b : Int) (ha : U64 a) (hb : U64 b) (h : xs k a = xs k b) : a = b := by
  rw [xs_nat s k a hk ha, xs_nat s k b hk hb] at h
  have := xs_inj _ _ s hs (Int.ofNat_inj.1 h)
  unfold U64 at ha hb
  omega

theorem k30 : (1073741824 : Int) = ((2 ^ 30 : Nat) : Int) := by decide +kernel
theorem k27 : (134217728 : Int) = ((2 ^ 27 : Nat) : Int) := by decide +kernel
theorem k31 : (2147483648 : Int) = ((2 ^ 31 : Nat) : Int) := by decide +kernel

/-- how 64 bits are stirred, as the walk shows it -/
def stirI (z : Int) : Int :=
  bits .xor .u64 (IntKind.u64.wrap (bits .xor .u64 (IntKind.u64.wrap (bits .xor .u64 z (z / 1073741824) * 13787848793156543929)) (IntKind.u64.wrap (bits .xor .u64 z (z / 1073741824) * 13787848793156543929) / 134217728) * 10723151780598845931))
    (IntKind.u64.wrap (bits .xor .u64 (IntKind.u64.wrap (bits .xor .u64 z (z / 1073741824) * 13787848793156543929)) (IntKind.u64.wrap (bits .xor .u64 z (z / 1073741824) * 13787848793156543929) / 134217728) * 10723151780598845931) / 2147483648)
def mulA (z : Int) : Int := IntKind.u64.wrap (z * 13787848793156543929)
def mulB (z : Int) : Int := IntKind.u64.wrap (z * 10723151780598845931)
theorem stir_by (z : Int) : stirI z = xs 2147483648 (mulB (xs 134217728 (mulA (xs 1073741824 z)))) := by
  unfold stirI xs mulB mulA; exact rfl
theorem stir_bd (z : Int) : U64 (stirI z) := by rw [stir_by]; exact xs_bd 31 _ _ k31 (wrap_bd _)
theorem invA : (13787848793156543929 : Int) * 10871156337175269513 % 18446744073709551616 = 1 := by decide +kernel
theorem invB : (10723151780598845931 : Int) * 3573116690164977347 % 18446744073709551616 = 1 := by decide +kernel
theorem invG : (11400714819323198485 : Int) * 17428512612931826493 % 18446744073709551616 = 1 := by decide +kernel
theorem mulA_bd (z : Int) : U64 (mulA z) := wrap_bd _
theorem mulB_bd (z : Int) : U64 (mulB z) := wrap_bd _
theorem mulA_inj (a b : Int) (ha : U64 a) (hb : U64 b) (h : mulA a = mulA b) : a = b := by
  unfold mulA at h
  rw [wrap_u64_eq (a * _), wrap_u64_eq (b * _)] at h
  exact mul_inj 18446744073709551616 13787848793156543929 10871156337175269513 a b invA ha hb h
theorem mulB_inj (a b : Int) (ha : U64 a) (hb : U64 b) (h : mulB a = mulB b) : a = b := by
  unfold mulB at h
  rw [wrap_u64_eq (a * _), wrap_u64_eq (b * _)] at h
  exact mul_inj 18446744073709551616 10723151780598845931 3573116690164977347 a b invB ha hb h
theorem stir_inj (a b : Int) (ha : U64 a) (hb : U64 b) (h : stirI a = stirI b) : a = b := by
  rw [stir_by, stir_by] at h
  have a1 := xs_bd 30 _ a k30 ha
  have b1 := xs_bd 30 _ b k30 hb
  have e1 := xs_eq 30 _ (by omega) k30 a b ha hb
  generalize xs 1073741824 a = p at *
  generalize xs 1073741824 b = q at *
  have a2 := xs_bd 27 _ _ k27 (mulA_bd p)
  have b2 := xs_bd 27 _ _ k27 (mulA_bd q)
  have h1 := xs_eq 31 _ (by omega) k31 _ _ (mulB_bd _) (mulB_bd _) h
  have h2 := mulB_inj _ _ a2 b2 h1
  have h3 := xs_eq 27 _ (by omega) k27 _ _ (mulA_bd p) (mulA_bd q) h2
  exact e1 (mulA_inj _ _ a1 b1 h3)

theorem wrap_tdiv (x k : Int) (h : U64 x) (hk : 0 < k) : IntKind.u64.wrap (x.tdiv k) = x / k := by
  obtain ⟨h0, h1⟩ := h
  rw [Int.tdiv_eq_ediv_of_nonneg h0]
  exact wrap_in _ ⟨Int.ediv_nonneg h0 (by omega), Int.lt_of_le_of_lt (Int.ediv_le_self _ h0) h1⟩

/-- a step from word to word -/
def stepI (z n : Int) : Int := stirI (IntKind.u64.wrap (z + IntKind.u64.wrap (IntKind.u64.wrap (IntKind.u64.wrap n + 1) * 11400714819323198485)))
theorem step_bd (z n : Int) : U64 (stepI z n) := stir_bd _
theorem add_can (z x y : Int) (hx : U64 x) (hy : U64 y) (h : IntKind.u64.wrap (z + x) = IntKind.u64.wrap (z + y)) : x = y := by
  rw [wrap_u64_eq, wrap_u64_eq] at h
  unfold U64 at hx hy
  omega
def mulG (z : Int) : Int := IntKind.u64.wrap (z * 11400714819323198485)
theorem mulG_inj (a b : Int) (ha : U64 a) (hb : U64 b) (h : mulG a = mulG b) : a = b := by
  unfold mulG at h
  rw [wrap_u64_eq (a * _), wrap_u64_eq (b * _)] at h
  exact mul_inj 18446744073709551616 11400714819323198485 17428512612931826493 a b invG ha hb h
theorem one_inj (a b : Int) (ha : -9223372036854775808 ≤ a ∧ a ≤ 9223372036854775807) (hb : -9223372036854775808 ≤ b ∧ b ≤ 9223372036854775807)
    (h : IntKind.u64.wrap (IntKind.u64.wrap a + 1) = IntKind.u64.wrap (IntKind.u64.wrap b + 1)) : a = b := by
  rw [wrap_u64_eq a, wrap_u64_eq b, wrap_u64_eq, wrap_u64_eq] at h
  omega
theorem step_inj (z a b : Int) (ha : -9223372036854775808 ≤ a ∧ a ≤ 9223372036854775807) (hb : -9223372036854775808 ≤ b ∧ b ≤ 9223372036854775807) (h : stepI z a = stepI z b) : a = b := by
  have h1 : IntKind.u64.wrap (z + mulG (IntKind.u64.wrap (IntKind.u64.wrap a + 1))) = IntKind.u64.wrap (z + mulG (IntKind.u64.wrap (IntKind.u64.wrap b + 1))) := stir_inj _ _ (wrap_bd _) (wrap_bd _) h
  exact one_inj a b ha hb (mulG_inj _ _ (wrap_bd _) (wrap_bd _) (add_can z _ _ (wrap_bd _) (wrap_bd _) h1))

/-- a roll -/
def rollI (seed process count : Int) : Int := stepI (stepI (IntKind.u64.wrap seed) process) count
theorem roll_bd (s p c : Int) : U64 (rollI s p c) := step_bd _ _

/-- a chance -/
def belowI (z n : Int) : Int := if n < 1 then 0 else z % n
theorem below_bd (z n : Int) : (n < 1 ∧ belowI z n = 0) ∨ (1 ≤ n ∧ 0 ≤ belowI z n ∧ belowI z n < n) := by
  unfold belowI
  by_cases h : n < 1
  · exact .inl ⟨h, if_pos h⟩
  · rw [if_neg h]
    exact .inr ⟨by omega, Int.emod_nonneg _ (by omega), Int.emod_lt_of_pos _ (by omega)⟩
theorem below_less (z n : Int) (h : n < 1) : belowI z n = 0 := if_pos h
theorem below_more (z n : Int) (h : 1 ≤ n) : belowI z n = z % n := if_neg (by omega)
end Go.Proofs.Ytbeejcajjgghaaa
