/- What a root's text is read as. No program in sight. -/
import Derived.Test.YtbjkefodlnkaeaaRootPlain
namespace Go.Proofs.Ytbjkefodlnkaeaa.Rt
open Pk

theorem deL_two (n : Nat) (h : n < 65536) : deL (beL 2 n) = n := by
  rw [deL_beL, Nat.mod_eq_of_lt (by have : (256 : Nat) ^ 2 = 65536 := rfl; omega)]
theorem num_at (a : List UInt8) (n : Nat) (c : List UInt8) (h : n < 65536) : num (a ++ (beL 2 n ++ c)) a.length = n := by
  unfold num
  rw [List.drop_left, List.take_append_of_le_length (by rw [beL_length]; exact Nat.le_refl _), List.take_of_length_le (by rw [beL_length]; exact Nat.le_refl _), deL_two n h]
/-- the root that bytes say -/
def ofB (e : Int) (b : List UInt8) : Root := ⟨e, num b 0, ((List.range (num b 2)).map fun i => (num b (4 + 2 * i) : Int))⟩
theorem fine_all (T : List Int) : ∀ l : List Int, fine l T = true → ∀ p ∈ T, 0 ≤ p ∧ p ≤ 1023 := by
  induction T with
  | nil => intro _ _ p hp; cases hp
  | cons q r ih =>
    intro l h p hp
    unfold fine at h
    rw [Bool.and_eq_true, Bool.and_eq_true] at h
    rcases List.mem_cons.1 hp with rfl | hp
    · exact of_decide_eq_true h.1.1
    · exact ih _ h.2 p hp
theorem flat_at2 (L M : List Int) (hL : ∀ p ∈ L, 0 ≤ p ∧ p ≤ 1023) (c : List UInt8) : ∀ (a : List UInt8) (i : Nat) (hi : i < L.length), num (a ++ ((L ++ M).flatMap two ++ c)) (a.length + 2 * i) = (L[i]'hi).toNat := by
  induction L with
  | nil => intro a i hi; cases hi
  | cons q r ih =>
    intro a i hi
    have hq := hL q (by simp)
    cases i with
    | zero =>
      have h := num_at a q.toNat ((r ++ M).flatMap two ++ c) (by omega)
      rw [List.cons_append, List.flatMap_cons, List.append_assoc]
      simpa [two] using h
    | succ i =>
      have h := ih (fun p hp => hL p (by simp [hp])) (a ++ two q) i (by simpa using hi)
      rw [List.length_append, two_length] at h
      rw [List.cons_append, List.flatMap_cons, List.append_assoc, ← List.append_assoc a (two q)]
      rw [show a.length + 2 * (i + 1) = a.length + 2 + 2 * i by omega]
      simpa using h
theorem body_log {r : Root} (h : right r = true) : (num (body r) 0 : Int) = r.logical := by
  obtain ⟨_, _, h3, h4, _, _⟩ := right_of h
  have := num_at [] r.logical.toNat (two r.parts.length ++ ((five r.parts).flatMap two ++ List.replicate 30 0)) (by omega)
  unfold body two
  rw [List.nil_append, List.length_nil] at this
  unfold two at this
  rw [this]
  omega
theorem body_count {r : Root} (h : right r = true) : num (body r) 2 = r.parts.length := by
  have hl := parts_le h
  have := num_at (two r.logical) r.parts.length ((five r.parts).flatMap two ++ List.replicate 30 0) (by omega)
  rw [two_length] at this
  unfold body
  rw [show two ((r.parts.length : Nat) : Int) = beL 2 r.parts.length by unfold two; rw [Int.toNat_natCast]]
  exact this
theorem body_part {r : Root} (h : right r = true) (i : Nat) (hi : i < r.parts.length) : (num (body r) (4 + 2 * i) : Int) = r.parts[i] := by
  obtain ⟨_, _, _, _, _, h6⟩ := right_of h
  have ha := fine_all r.parts [] h6
  have h1 := flat_at2 r.parts (List.replicate (5 - r.parts.length) 0) ha (List.replicate 30 0) (two r.logical ++ two r.parts.length) i hi
  rw [List.length_append, two_length, two_length] at h1
  have h2 := ha _ (List.getElem_mem hi)
  unfold body five
  rw [← List.append_assoc (two r.logical)]
  rw [h1]
  omega
theorem of_body {r : Root} (h : right r = true) : ofB r.epoch (body r) = r := by
  obtain ⟨e, l, T⟩ := r
  have h1 := body_log h
  have h2 := body_count h
  have h3 := body_part h
  unfold ofB
  rw [h1, h2]
  simp only at *
  congr 1
  apply List.ext_getElem
  · simp
  · intro i h4 h5
    simp only [List.getElem_map, List.getElem_range]
    exact h3 i h5
theorem laid_first (r : Root) : (laid r).take 8 = encI r.epoch := by
  unfold laid
  rw [List.take_append_of_le_length (by rw [encI_length]; exact Nat.le_refl _), List.take_of_length_le (by rw [encI_length]; exact Nat.le_refl _)]
theorem laid_mid {r : Root} (h : r.parts.length ≤ 5) : ((laid r).drop 8).take 48 = Crc.lay (body r) := by
  unfold laid
  have h8 : (encI r.epoch).length = 8 := encI_length _
  have h48 : (Crc.lay (body r)).length = 48 := by rw [Crc.lay_length, body_length h]
  rw [List.drop_append, h8, List.drop_eq_nil_of_le (by rw [h8]; exact Nat.le_refl _), List.nil_append, List.drop_zero, List.take_append_of_le_length (by omega), List.take_of_length_le (by omega)]
theorem laid_last {r : Root} (h : r.parts.length ≤ 5) : (laid r).drop 56 = encI r.epoch := by
  unfold laid
  have h8 : (encI r.epoch).length = 8 := encI_length _
  have h48 : (Crc.lay (body r)).length = 48 := by rw [Crc.lay_length, body_length h]
  rw [List.drop_append, h8, List.drop_eq_nil_of_le (by rw [h8]; omega), List.nil_append, List.drop_append, h48, List.drop_eq_nil_of_le (by rw [h48]; omega), List.nil_append, show 56 - 8 - 48 = 0 from rfl, List.drop_zero]
theorem dec_epoch {r : Root} (h : right r = true) : decI (encI r.epoch) = r.epoch := by
  obtain ⟨h1, h2, _⟩ := right_of h
  exact decI_encI _ (by omega) (by omega)
theorem num_two (b : List UInt8) (k : Nat) (h : k + 1 < b.length) : num b k = (b[k]'(by omega)).toNat * 256 + (b[k + 1]).toNat := by
  unfold num
  rw [List.drop_eq_getElem_cons (by omega), List.drop_eq_getElem_cons h, List.take_succ_cons, List.take_succ_cons, List.take_zero]
  simp [deL]
end Go.Proofs.Ytbjkefodlnkaeaa.Rt
