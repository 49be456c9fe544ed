/- Pages in plain lists: what a page's bytes are, what bytes are as a page, pages on a disk. No program in sight. -/
import Derived.Test.YtpjpncfoenadhaaPackPlain
import Derived.Test.YtpjpncfoenadhaaCrcPlain
import Derived.Test.YtpjpncfoenadhaaDiskPlain
namespace Go.Proofs.Ytpjpncfoenadhaa.Pg
open Pk

structure Page where
  id : Int
  epoch : Int
  kind : Int
  pay : List UInt8
def zero : Page := ⟨0, 0, 0, []⟩
def right (p : Page) : Bool := decide (0 ≤ p.id ∧ 0 ≤ p.epoch ∧ p.epoch ≤ 1099511627776 ∧ 0 ≤ p.kind ∧ p.kind ≤ 2147483647)
def full (s : List UInt8) : List UInt8 := s ++ List.replicate (232 - s.length) 0
def head (p : Page) : List UInt8 := encI p.id ++ (encI p.epoch ++ beL 4 p.kind.toNat)
def body (p : Page) : List UInt8 := head p ++ full p.pay
def put (p : Page) : List UInt8 × Int := if right p = false then ([], 2) else if 232 < p.pay.length then ([], 4) else (Crc.lay (body p), 0)
def of (s : List UInt8) : Page := ⟨decI ((s.drop 4).take 8), decI ((s.drop 12).take 8), (deL ((s.drop 20).take 4) : Int), s.drop 24⟩
def get (s : List UInt8) : Page × Int := if s.length ≠ 256 then (zero, 6) else if Crc.good s = false then (zero, 14) else if right (of s) = false then (zero, 14) else (of s, 0)

theorem right_of {p : Page} (h : right p = true) : 0 ≤ p.id ∧ 0 ≤ p.epoch ∧ p.epoch ≤ 1099511627776 ∧ 0 ≤ p.kind ∧ p.kind ≤ 2147483647 := of_decide_eq_true h
theorem head_length (p : Page) : (head p).length = 20 := by simp [head, encI_length, beL_length]
theorem full_length (s : List UInt8) (h : s.length ≤ 232) : (full s).length = 232 := by
  simp only [full, List.length_append, List.length_replicate]
  omega
theorem body_length (p : Page) (h : p.pay.length ≤ 232) : (body p).length = 252 := by rw [body, List.length_append, head_length, full_length _ h]
theorem full_full (s : List UInt8) (h : s.length ≤ 232) : full (full s) = full s := by
  have := full_length s h
  show full s ++ List.replicate (232 - (full s).length) 0 = full s
  rw [this]
  simp
theorem full_of (s : List UInt8) (h : s.length = 232) : full s = s := by simp [full, h]
/-- what was laid is got -/
theorem of_lay (p : Page) (hr : right p = true) (h2 : p.id ≤ 9223372036854775807) : of (Crc.lay (body p)) = ⟨p.id, p.epoch, p.kind, full p.pay⟩ := by
  obtain ⟨h0, h1, h3, h4, h5⟩ := right_of hr
  have e : Crc.lay (body p) = Crc.four (Crc.sum (body p)) ++ body p := rfl
  have d4 : (Crc.lay (body p)).drop 4 = body p := Crc.lay_drop _
  have l1 := encI_length p.id
  have l2 := encI_length p.epoch
  have l3 := beL_length 4 p.kind.toNat
  have d12 : (Crc.lay (body p)).drop 12 = encI p.epoch ++ (beL 4 p.kind.toNat ++ full p.pay) := by
    rw [show 12 = 4 + 8 from rfl, ← List.drop_drop, d4]
    simp only [body, head, List.append_assoc]
    rw [List.drop_append_of_le_length (by omega), List.drop_of_length_le (by omega), List.nil_append]
  have d20 : (Crc.lay (body p)).drop 20 = beL 4 p.kind.toNat ++ full p.pay := by
    rw [show 20 = 12 + 8 from rfl, ← List.drop_drop, d12, List.drop_append_of_le_length (by omega), List.drop_of_length_le (by omega), List.nil_append]
  have d24 : (Crc.lay (body p)).drop 24 = full p.pay := by
    rw [show 24 = 20 + 4 from rfl, ← List.drop_drop, d20, List.drop_append_of_le_length (by omega), List.drop_of_length_le (by omega), List.nil_append]
  unfold of
  rw [d4, d12, d20, d24]
  have t1 : (body p).take 8 = encI p.id := by
    simp only [body, head, List.append_assoc]
    rw [List.take_append_of_le_length (by omega), List.take_of_length_le (by omega)]
  rw [t1, List.take_append_of_le_length (by omega), List.take_of_length_le (by omega), List.take_append_of_le_length (by omega), List.take_of_length_le (by omega),
    decI_encI _ (by omega) (by omega), decI_encI _ (by omega) (by omega), deL_beL, Nat.mod_eq_of_lt (by have : (256 : Nat) ^ 4 = 4294967296 := rfl; omega)]
  congr 1
  omega
theorem get_put (p : Page) (hr : right p = true) (h : p.pay.length ≤ 232) (h2 : p.id ≤ 9223372036854775807) : get (Crc.lay (body p)) = (⟨p.id, p.epoch, p.kind, full p.pay⟩, 0) := by
  have hof := of_lay p hr h2
  unfold get
  rw [if_neg (by rw [Crc.lay_length, body_length p h]; simp), if_neg (by rw [Crc.good_lay]; simp), hof]
  have : right ⟨p.id, p.epoch, p.kind, full p.pay⟩ = true := hr
  rw [if_neg (by rw [this]; simp)]
theorem get_cases (s : List UInt8) : (get s).2 ≠ 0 ∧ (get s).1 = zero ∨ get s = (of s, 0) ∧ s.length = 256 ∧ Crc.good s = true ∧ right (of s) = true := by
  unfold get
  split
  · exact .inl ⟨by decide, rfl⟩
  · rename_i h1
    split
    · exact .inl ⟨by decide, rfl⟩
    · rename_i h2
      split
      · exact .inl ⟨by decide, rfl⟩
      · rename_i h3
        exact .inr ⟨rfl, by omega, by simpa using h2, by simpa using h3⟩
/-- what was got is put as it was -/
theorem put_get (s : List UInt8) (h : (get s).2 = 0) : put (get s).1 = (s, 0) := by
  rcases get_cases s with ⟨h1, _⟩ | ⟨h1, h2, h3, h4⟩
  · exact absurd h h1
  · rw [h1]
    have hp : (of s).pay.length = 232 := by
      show (s.drop 24).length = 232
      rw [List.length_drop]
      omega
    unfold put
    rw [if_neg (by rw [h4]; simp), if_neg (by rw [hp]; omega)]
    have hb : body (of s) = s.drop 4 := by
      have r := right_of h4
      unfold body head
      rw [full_of _ hp]
      have k1 : ((s.drop 4).take 8).length = 8 := by rw [List.length_take, List.length_drop]; omega
      have k2 : ((s.drop 12).take 8).length = 8 := by rw [List.length_take, List.length_drop]; omega
      have k3 : ((s.drop 20).take 4).length = 4 := by rw [List.length_take, List.length_drop]; omega
      have e1 : encI (of s).id = (s.drop 4).take 8 := encI_decI _ k1
      have e2 : encI (of s).epoch = (s.drop 12).take 8 := encI_decI _ k2
      have e3 : beL 4 (of s).kind.toNat = (s.drop 20).take 4 := by
        show beL 4 ((deL ((s.drop 20).take 4) : Int)).toNat = _
        rw [Int.toNat_natCast]
        exact beL_deL 4 _ k3
      have e4 : (of s).pay = s.drop 24 := rfl
      rw [e1, e2, e3, e4, List.append_assoc, List.append_assoc]
      have j1 := List.take_append_drop 4 (s.drop 20)
      have j2 := List.take_append_drop 8 (s.drop 12)
      have j3 := List.take_append_drop 8 (s.drop 4)
      rw [List.drop_drop] at j1 j2 j3
      rw [j1, j2, j3]
    rw [hb, (Crc.good_iff s).1 h3]
theorem zero_id : zero.id = 0 := rfl

/-! pages on a disk -/
def many (n : Nat) : Nat := (n - 2) / 4
/-- one sector after the other, until one fails -/
def writes (A : Dk.St) (at_ : Int) : List (List UInt8) → Int × Dk.St
  | [] => (0, A)
  | c :: r => if (A.write at_ c).1 ≠ 0 then A.write at_ c else writes (A.write at_ c).2 (at_ + 1) r
def chunks (s : List UInt8) : List (List UInt8) := [s.take 64, (s.drop 64).take 64, (s.drop 128).take 64, (s.drop 192).take 64]
def write (A : Dk.St) (p : Page) : Int × Dk.St := if (put p).2 ≠ 0 then ((put p).2, A) else if (many A.n : Int) ≤ p.id then (3, A) else writes A (2 + 4 * p.id) (chunks (put p).1)
def sects (A : Dk.St) (k : Nat) : List UInt8 := A.at_ k ++ (A.at_ (k + 1) ++ (A.at_ (k + 2) ++ A.at_ (k + 3)))
def read (A : Dk.St) (id : Int) : Page × Int :=
  if id < 0 ∨ (many A.n : Int) ≤ id then (zero, 3) else if A.down then (zero, 13) else
    let r := get (sects A (2 + 4 * id.toNat))
    if r.2 ≠ 0 then (zero, r.2) else if r.1.id ≠ id then (zero, 14) else r
end Go.Proofs.Ytpjpncfoenadhaa.Pg
