/- Roots and parts of tables as plain lists. No program in sight. -/
import Derived.Test.YtbjkefodlnkaeaaPackPlain
import Derived.Test.YtbjkefodlnkaeaaCrcPlain
namespace Go.Proofs.Ytbjkefodlnkaeaa.Rt
open Pk

structure Root where
  epoch : Int
  logical : Int
  parts : List Int
def need (l : Int) : Nat := if l < 1 then 0 else ((l - 1) / 116 + 1).toNat
def two (n : Int) : List UInt8 := beL 2 n.toNat
def okPart (p : Int) : Bool := decide (0 ≤ p ∧ p ≤ 1023)
/-- every part within, none twice -/
def fine : List Int → List Int → Bool
  | _, [] => true
  | l, p :: r => okPart p && !(l.contains p) && fine (l ++ [p]) r
def right (r : Root) : Bool := decide (1 ≤ r.epoch ∧ r.epoch ≤ 1099511627776 ∧ 0 ≤ r.logical ∧ r.logical ≤ 512 ∧ r.parts.length = need r.logical) && fine [] r.parts
def five (l : List Int) : List Int := l ++ List.replicate (5 - l.length) 0
def body (r : Root) : List UInt8 := two r.logical ++ (two r.parts.length ++ ((five r.parts).flatMap two ++ List.replicate 30 0))
def laid (r : Root) : List UInt8 := encI r.epoch ++ (Crc.lay (body r) ++ encI r.epoch)
def put (r : Root) : List UInt8 × Int := if right r then (laid r, 0) else ([], 2)
def num (b : List UInt8) (at_ : Nat) : Nat := deL ((b.drop at_).take 2)
def of (s : List UInt8) : Root := ⟨decI (s.take 8), num (s.drop 12) 0, ((List.range (num (s.drop 12) 2)).map fun i => (num (s.drop 12) (4 + 2 * i) : Int))⟩

theorem two_length (n : Int) : (two n).length = 2 := beL_length 2 _
theorem flat_length (l : List Int) : (l.flatMap two).length = 2 * l.length := by
  induction l with
  | nil => rfl
  | cons a r ih => rw [List.flatMap_cons, List.length_append, two_length, ih, List.length_cons]; omega
theorem need_le (l : Int) (h : l ≤ 512) : need l ≤ 5 := by
  unfold need
  split
  · omega
  · omega
theorem five_length (l : List Int) (h : l.length ≤ 5) : (five l).length = 5 := by
  simp only [five, List.length_append, List.length_replicate]
  omega
theorem right_of {r : Root} (h : right r = true) : 1 ≤ r.epoch ∧ r.epoch ≤ 1099511627776 ∧ 0 ≤ r.logical ∧ r.logical ≤ 512 ∧ r.parts.length = need r.logical ∧ fine [] r.parts = true := by
  unfold right at h
  rw [Bool.and_eq_true, decide_eq_true_eq] at h
  exact ⟨h.1.1, h.1.2.1, h.1.2.2.1, h.1.2.2.2.1, h.1.2.2.2.2, h.2⟩
theorem parts_le {r : Root} (h : right r = true) : r.parts.length ≤ 5 := by
  obtain ⟨_, _, _, h4, h5, _⟩ := right_of h
  rw [h5]
  exact need_le _ h4
theorem body_length {r : Root} (h : r.parts.length ≤ 5) : (body r).length = 44 := by
  simp only [body, List.length_append, two_length, flat_length, five_length _ h, List.length_replicate]
theorem laid_length {r : Root} (h : r.parts.length ≤ 5) : (laid r).length = 64 := by
  simp only [laid, List.length_append, encI_length, Crc.lay_length, body_length h]
end Go.Proofs.Ytbjkefodlnkaeaa.Rt
