/- What was written to a page is read there, and changes no other page. No program in sight. -/
import Derived.Test.YtpjpncfoenadhaaPagePlain
namespace Go.Proofs.Ytpjpncfoenadhaa.Pg
open Pk

/-- a disk that is up and not armed -/
structure Up (A : Dk.St) : Prop where
  up : A.down = false
  arm : A.arm = 0
theorem write_up {A : Dk.St} (h : Up A) (i : Nat) (c : List UInt8) (hi : i < A.n) : (A.write i c).1 = 0 ∧ Up (A.write i c).2 ∧ (A.write i c).2.n = A.n ∧ (∀ j, (A.write i c).2.at_ j = if j = i then Dk.fill c else A.at_ j) := by
  have hi' : i < A.secs.length := hi
  have e : A.write i c = (0, { A.put i c with calls := RowKit.wrap64 (A.calls + 1) }) := by
    unfold Dk.St.write
    rw [if_neg (by simp [h.up]), if_neg (by omega), Int.toNat_natCast i]
    unfold Dk.St.count
    rw [if_pos (show (A.put i c).arm = 0 from h.arm)]
    rfl
  rw [e]
  refine ⟨rfl, ⟨h.up, h.arm⟩, Dk.n_put A i c, fun j => ?_⟩
  show (((A.put i c).secs).getD j Dk.none_).now = _
  simp only [Dk.St.put, List.getD_eq_getElem?_getD, List.getElem?_modify]
  by_cases hj : j = i
  · subst hj
    rw [if_pos rfl, List.getElem?_eq_getElem hi']
    simp [Dk.put, Dk.Sec.now]
  · have hj' : ¬ i = j := fun e => hj e.symm
    rw [if_neg hj]
    simp [hj', Dk.St.at_, List.getD_eq_getElem?_getD]
/-- four sectors, one after the other -/
theorem writes_up : ∀ (C : List (List UInt8)) (A : Dk.St) (b : Nat), Up A → b + C.length ≤ A.n → (writes A b C).1 = 0 ∧ Up (writes A b C).2 ∧ (writes A b C).2.n = A.n ∧
    (∀ j, (writes A b C).2.at_ j = if b ≤ j ∧ j < b + C.length then Dk.fill (C.getD (j - b) []) else A.at_ j)
  | [], A, b, h, _ => ⟨rfl, h, rfl, fun j => by rw [if_neg (by simp)]; rfl⟩
  | c :: r, A, b, h, hb => by
    rw [List.length_cons] at hb
    obtain ⟨h1, h2, h3, h4⟩ := write_up h b c (by omega)
    have ih := writes_up r (A.write b c).2 (b + 1) h2 (by rw [h3]; omega)
    have e : writes A b (c :: r) = writes (A.write b c).2 ((b + 1 : Nat) : Int) r := by
      rw [writes, if_neg (by simp [h1])]
      rfl
    rw [e]
    refine ⟨ih.1, ih.2.1, ih.2.2.1.trans h3, fun j => ?_⟩
    rw [ih.2.2.2 j, h4 j, List.length_cons]
    by_cases hj : j = b
    · subst hj
      rw [if_neg (by omega), if_pos rfl, if_pos (by omega), Nat.sub_self]
      rfl
    · by_cases hj2 : b + 1 ≤ j ∧ j < b + 1 + r.length
      · rw [if_pos hj2, if_pos (by omega), show j - b = (j - (b + 1)) + 1 by omega]
        rfl
      · rw [if_neg hj2, if_neg hj, if_neg (by omega)]
theorem fill64 (c : List UInt8) (h : c.length = 64) : Dk.fill c = c := by
  unfold Dk.fill
  rw [List.take_append_of_le_length (by omega), List.take_of_length_le (by omega)]
/-- a page that was written -/
structure Wrote (A B : Dk.St) (p : Page) (i : Nat) : Prop where
  up : Up B
  n : B.n = A.n
  mine : sects B (2 + 4 * i) = Crc.lay (body p)
  other : ∀ j, j ≠ i → sects B (2 + 4 * j) = sects A (2 + 4 * j)
theorem write_wrote {A : Dk.St} (h : Up A) (p : Page) (i : Nat) (hid : p.id = i) (hr : right p = true) (hl : p.pay.length ≤ 232) (hi : i < many A.n) : (write A p).1 = 0 ∧ Wrote A (write A p).2 p i := by
  have hn : 2 + 4 * i + 4 ≤ A.n := by unfold many at hi; omega
  have hlen : (Crc.lay (body p)).length = 256 := by rw [Crc.lay_length, body_length _ hl]
  have e1 : put p = (Crc.lay (body p), 0) := by unfold put; rw [if_neg (by simp [hr]), if_neg (by omega)]
  have e : write A p = writes A ((2 + 4 * i : Nat) : Int) (chunks (Crc.lay (body p))) := by
    unfold write
    rw [e1, if_neg (by simp), if_neg (by omega), hid]
    congr 1
  rw [e]
  obtain ⟨D, hD⟩ : ∃ D, D = Crc.lay (body p) := ⟨_, rfl⟩
  rw [← hD] at hlen ⊢
  have hc : (chunks D).length = 4 := rfl
  obtain ⟨h1, h2, h3, h4⟩ := writes_up (chunks D) A (2 + 4 * i) h (by rw [hc]; omega)
  refine ⟨h1, h2, h3, ?_, fun j hj => ?_⟩
  · rw [← hD]
    unfold sects
    rw [h4, h4, h4, h4, hc, if_pos (by omega), if_pos (by omega), if_pos (by omega), if_pos (by omega), show 2 + 4 * i - (2 + 4 * i) = 0 by omega, show 2 + 4 * i + 1 - (2 + 4 * i) = 1 by omega,
      show 2 + 4 * i + 2 - (2 + 4 * i) = 2 by omega, show 2 + 4 * i + 3 - (2 + 4 * i) = 3 by omega]
    show Dk.fill (D.take 64) ++ (Dk.fill ((D.drop 64).take 64) ++ (Dk.fill ((D.drop 128).take 64) ++ Dk.fill ((D.drop 192).take 64))) = D
    rw [fill64 _ (by rw [List.length_take]; omega), fill64 _ (by rw [List.length_take, List.length_drop]; omega), fill64 _ (by rw [List.length_take, List.length_drop]; omega), fill64 _ (by rw [List.length_take, List.length_drop]; omega)]
    have j4 : (D.drop 192).take 64 = D.drop 192 := List.take_of_length_le (by rw [List.length_drop]; omega)
    have j1 := List.take_append_drop 64 (D.drop 128)
    have j2 := List.take_append_drop 64 (D.drop 64)
    have j3 := List.take_append_drop 64 D
    rw [List.drop_drop] at j1 j2
    rw [j4, j1, j2, j3]
  · unfold sects
    rw [h4, h4, h4, h4, hc]
    have : i < j ∨ j < i := by omega
    rw [if_neg (by omega), if_neg (by omega), if_neg (by omega), if_neg (by omega)]
theorem read_wrote {A B : Dk.St} {p : Page} {i : Nat} (h : Wrote A B p i) (hid : p.id = i) (hr : right p = true) (hl : p.pay.length ≤ 232) (hi : i < many A.n) (h2 : p.id ≤ 9223372036854775807) :
    read B i = (⟨p.id, p.epoch, p.kind, full p.pay⟩, 0) := by
  unfold read
  rw [if_neg (by rw [h.n]; omega), if_neg (by simp [h.up.up]), Int.toNat_natCast i, h.mine, get_put p hr hl h2]
  show (if (0 : Int) ≠ 0 then _ else if p.id ≠ (i : Int) then _ else _) = _
  rw [if_neg (by simp), if_neg (by simp [hid])]
theorem read_other {A B : Dk.St} {p : Page} {i j : Nat} (h : Wrote A B p i) (hA : Up A) (hj : j ≠ i) : read B j = read A j := by
  unfold read
  rw [h.n, h.up.up, hA.up, Int.toNat_natCast j, h.other j hj]
theorem up_made (n : Nat) : Up (Dk.made n) := ⟨rfl, rfl⟩
theorem n_made (n : Nat) : (Dk.made n).n = n := by simp [Dk.made, Dk.St.n]
theorem zeros_bad : Crc.good (List.replicate 256 0) = false := by decide +kernel
theorem read_made (n i : Nat) (hi : i < many n) : read (Dk.made n) i = (zero, 14) := by
  have hs : sects (Dk.made n) (2 + 4 * i) = List.replicate 256 0 := by
    have ha : ∀ j, (Dk.made n).at_ j = List.replicate 64 0 := fun j => by
      unfold Dk.St.at_ Dk.made
      rw [List.getD_eq_getElem?_getD, List.getElem?_replicate]
      split <;> rfl
    unfold sects
    rw [ha, ha, ha, ha, List.replicate_append_replicate, List.replicate_append_replicate, List.replicate_append_replicate]
  unfold read
  rw [n_made, if_neg (by omega), if_neg (by simp [Dk.made]), Int.toNat_natCast i, hs]
  have hg : get (List.replicate 256 0) = (zero, 14) := by
    unfold get
    rw [if_neg (fun h => h List.length_replicate), if_pos zeros_bad]
  rw [hg]
  rfl
end Go.Proofs.Ytpjpncfoenadhaa.Pg
