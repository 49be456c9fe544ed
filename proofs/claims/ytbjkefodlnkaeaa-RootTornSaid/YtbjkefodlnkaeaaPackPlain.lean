/- Numbers as bytes, the highest first, and back. No program in sight. -/
import Derived.Below
namespace Go.Proofs.Ytbjkefodlnkaeaa.Pk

def beL : Nat → Nat → List UInt8
  | 0, _ => []
  | k + 1, n => beL k (n / 256) ++ [UInt8.ofNat (n % 256)]
def deL (l : List UInt8) : Nat := l.foldl (fun a b => a * 256 + b.toNat) 0
theorem beL_length : ∀ k n, (beL k n).length = k
  | 0, _ => rfl
  | k + 1, n => by simp [beL, beL_length k]
theorem deL_snoc (l : List UInt8) (b : UInt8) : deL (l ++ [b]) = deL l * 256 + b.toNat := by simp [deL]
theorem ofNat_toNat (n : Nat) : (UInt8.ofNat (n % 256)).toNat = n % 256 := by
  simp
theorem deL_beL : ∀ k n, deL (beL k n) = n % 256 ^ k
  | 0, n => by simp [beL, deL, Nat.mod_one]
  | k + 1, n => by
    rw [beL, deL_snoc, deL_beL k, ofNat_toNat, Nat.pow_succ, Nat.mul_comm (256 ^ k) 256, Nat.mod_mul]
    omega
theorem snoc_of (l : List UInt8) (n : Nat) (h : l.length = n + 1) : ∃ a b, l = a ++ [b] ∧ a.length = n := by
  have hne : l ≠ [] := by rintro rfl; simp at h
  refine ⟨l.dropLast, l.getLast hne, (List.dropLast_concat_getLast hne).symm, ?_⟩
  rw [List.length_dropLast, h]
  rfl
theorem deL_lt : ∀ (n : Nat) (l : List UInt8), l.length = n → deL l < 256 ^ n
  | 0, l, h => by
    rw [List.length_eq_zero_iff.1 h]
    simp [deL]
  | n + 1, l, h => by
    obtain ⟨a, b, rfl, ha⟩ := snoc_of l n h
    have h1 := deL_lt n a ha
    have h2 := b.toNat_lt
    rw [deL_snoc, Nat.pow_succ]
    omega
theorem beL_deL : ∀ (n : Nat) (l : List UInt8), l.length = n → beL n (deL l) = l
  | 0, l, h => by
    rw [List.length_eq_zero_iff.1 h]
    rfl
  | n + 1, l, h => by
    obtain ⟨a, b, rfl, ha⟩ := snoc_of l n h
    have h2 := b.toNat_lt
    rw [deL_snoc, beL, show (deL a * 256 + b.toNat) / 256 = deL a by omega, show (deL a * 256 + b.toNat) % 256 = b.toNat by omega, beL_deL n a ha]
    simp
/-- from below: one byte more in front -/
theorem beL_front : ∀ k n, beL (k + 1) n = UInt8.ofNat (n / 256 ^ k % 256) :: beL k n
  | 0, n => by simp [beL]
  | k + 1, n => by
    rw [beL, beL_front k (n / 256), beL, Nat.div_div_eq_div_mul, Nat.pow_succ, Nat.mul_comm (256 ^ k) 256]
    rfl
theorem beL_mod : ∀ k n, beL k (n % 256 ^ k) = beL k n
  | k, n => by
    have h := deL_beL k n
    rw [← h, beL_deL k _ (beL_length k n)]
theorem beL_inj (k a b : Nat) (ha : a < 256 ^ k) (hb : b < 256 ^ k) (h : beL k a = beL k b) : a = b := by
  have := congrArg deL h
  rwa [deL_beL, deL_beL, Nat.mod_eq_of_lt ha, Nat.mod_eq_of_lt hb] at this
/-- a signed number's bytes -/
def encI (n : Int) : List UInt8 := beL 8 (n + 9223372036854775808).toNat
def decI (l : List UInt8) : Int := (deL l : Int) - 9223372036854775808
theorem encI_length (n : Int) : (encI n).length = 8 := beL_length _ _
theorem decI_encI (n : Int) (h1 : -9223372036854775808 ≤ n) (h2 : n ≤ 9223372036854775807) : decI (encI n) = n := by
  unfold decI encI
  rw [deL_beL, Nat.mod_eq_of_lt (by have : (256 : Nat) ^ 8 = 18446744073709551616 := rfl; omega)]
  omega
theorem encI_decI (l : List UInt8) (h : l.length = 8) : encI (decI l) = l := by
  unfold decI encI
  rw [show ((deL l : Int) - 9223372036854775808 + 9223372036854775808).toNat = deL l by omega]
  exact beL_deL 8 l h
theorem decI_bounds (l : List UInt8) (h : l.length = 8) : -9223372036854775808 ≤ decI l ∧ decI l ≤ 9223372036854775807 := by
  have := deL_lt 8 l h
  have e : (256 : Nat) ^ 8 = 18446744073709551616 := rfl
  unfold decI
  omega
theorem deL_take_succ (l : List UInt8) (k : Nat) (h : k < l.length) : deL (l.take (k + 1)) = deL (l.take k) * 256 + l[k].toNat := by
  rw [List.take_succ_eq_append_getElem h, deL_snoc]
theorem deL_take_lt (l : List UInt8) (k : Nat) (h : k ≤ l.length) : deL (l.take k) < 256 ^ k := deL_lt k _ (by rw [List.length_take]; omega)
/-- zeros in front say nothing -/
theorem deL_zeros (k : Nat) (l : List UInt8) : deL (List.replicate k 0 ++ l) = deL l := by
  have h : ∀ k, (List.replicate k (0 : UInt8)).foldl (fun a b => a * 256 + b.toNat) 0 = 0 := by
    intro k
    induction k with
    | zero => rfl
    | succ k ih => rw [List.replicate_succ, List.foldl_cons]; exact ih
  unfold deL
  rw [List.foldl_append, h]
theorem beL_zeros : ∀ j k n, n < 256 ^ k → beL (j + k) n = List.replicate j 0 ++ beL k n
  | 0, k, n, _ => by simp
  | j + 1, k, n, h => by
    rw [show j + 1 + k = (j + k) + 1 by omega, beL_front, beL_zeros j k n h, List.replicate_succ, List.cons_append]
    have : n / 256 ^ (j + k) = 0 := Nat.div_eq_of_lt (Nat.lt_of_lt_of_le h (Nat.pow_le_pow_right (by decide) (by omega)))
    rw [this]
    rfl
end Go.Proofs.Ytbjkefodlnkaeaa.Pk
