/- A root written over another one in part: the text says the old one or the new one, or it is no root's. No program in sight. -/
import Derived.Test.YtbjkefodlnkaeaaRootGetP
namespace Go.Proofs.Ytbjkefodlnkaeaa.Rt
open Pk

theorem laid_inj {r q : Root} (hr : right r = true) (hq : right q = true) (h : laid r = laid q) : r = q := by
  have h1 : r.epoch = q.epoch := by
    rw [← dec_epoch hr, ← dec_epoch hq, ← laid_first, ← laid_first, h]
  have h2 : body r = body q := by
    have h3 : Crc.lay (body r) = Crc.lay (body q) := by rw [← laid_mid (parts_le hr), ← laid_mid (parts_le hq), h]
    have := congrArg (List.drop 4) h3
    rwa [Crc.lay_drop, Crc.lay_drop] at this
  rw [← of_body hr, ← of_body hq, h1, h2]
/-- a beginning of the one, the rest of the other one -/
def mix (t s : List UInt8) (k : Nat) : List UInt8 := t.take k ++ s.drop k
theorem mix_low (t s : List UInt8) (k j : Nat) (hk : j ≤ k) (ht : t.length = 64) (hk2 : k ≤ 64) : (mix t s k).take j = t.take j := by
  unfold mix
  rw [List.take_append_of_le_length (by rw [List.length_take]; omega), List.take_take, Nat.min_eq_left hk]
theorem mix_high (t s : List UInt8) (k j : Nat) (hk : k ≤ j) (ht : t.length = 64) (hk2 : k ≤ 64) : (mix t s k).drop j = s.drop j := by
  unfold mix
  have hl : (t.take k).length = k := by rw [List.length_take]; omega
  rw [List.drop_append, hl, List.drop_eq_nil_of_le (by rw [hl]; exact hk), List.nil_append, List.drop_drop]
  congr 1
  omega
theorem torn {a b r : Root} (ha : right a = true) (hb : right b = true) (hr : right r = true) (hne : a.epoch ≠ b.epoch) (k : Nat) (hk : k ≤ 64) (h : laid r = mix (laid b) (laid a) k) : r = a ∨ r = b := by
  have lb := laid_length (parts_le hb)
  have e1 : (laid r).take 8 = encI r.epoch := laid_first r
  have e2 : (laid r).drop 56 = encI r.epoch := laid_last (parts_le hr)
  have i : ∀ q, right q = true → encI r.epoch = encI q.epoch → r.epoch = q.epoch := fun q hq he => by rw [← dec_epoch hr, ← dec_epoch hq, he]
  by_cases h56 : k ≤ 56
  · have e3 : (laid r).drop 56 = encI a.epoch := by rw [h, mix_high _ _ _ _ h56 lb hk, laid_last (parts_le ha)]
    have e4 := i a ha (by rw [← e2, e3])
    by_cases h8 : 8 ≤ k
    · have e5 : (laid r).take 8 = encI b.epoch := by rw [h, mix_low _ _ _ _ h8 lb hk, laid_first]
      have e6 := i b hb (by rw [← e1, e5])
      exact absurd (e4.symm.trans e6) hne
    · left
      apply laid_inj hr ha
      rw [← List.take_append_drop 8 (laid r), ← List.take_append_drop 8 (laid a), e1, laid_first, e4]
      congr 1
      rw [h, mix_high _ _ _ _ (by omega) lb hk]
  · right
    have e5 : (laid r).take 8 = encI b.epoch := by rw [h, mix_low _ _ _ _ (by omega) lb hk, laid_first]
    have e6 := i b hb (by rw [← e1, e5])
    apply laid_inj hr hb
    rw [← List.take_append_drop 56 (laid r), ← List.take_append_drop 56 (laid b), e2, laid_last (parts_le hb), e6]
    congr 1
    rw [h, mix_low _ _ _ _ (by omega) lb hk]
end Go.Proofs.Ytbjkefodlnkaeaa.Rt
