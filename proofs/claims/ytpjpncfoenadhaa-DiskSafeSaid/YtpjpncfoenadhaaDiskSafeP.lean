/- What a crash leaves of each sector. No condition. -/
import Derived.Test.YtpjpncfoenadhaaDiskCrash
namespace Go.Proofs.Ytpjpncfoenadhaa
open Go.RowKit Dk

theorem crashL_get (c : Cr) : ∀ (l : List Sec) (j i : Nat), (crashL c j l)[i]? = (l[i]?).map fun x => if x.is then mix (c.k (j + looseL (l.take i))) x else x
  | [], _, _ => by simp [crashL]
  | y :: r, j, 0 => by
    unfold crashL
    cases hy : y.is <;> simp [hy, looseL]
  | y :: r, j, i + 1 => by
    unfold crashL
    cases hy : y.is
    · simp only [Bool.false_eq_true, if_false, List.getElem?_cons_succ, crashL_get c r j i, List.take_succ_cons, looseL, List.countP_cons, hy, Nat.add_zero]
    · simp only [if_true, List.getElem?_cons_succ, crashL_get c r (j + 1) i, List.take_succ_cons, looseL, List.countP_cons, hy]
      rw [show j + 1 + List.countP (fun z : Sec => z.is) (r.take i) = j + (List.countP (fun z : Sec => z.is) (r.take i) + 1) by omega]
theorem crash_at (A : St) (c : Cr) (i : Nat) (x : Sec) (hx : A.secs[i]? = some x) : (A.crash c).at_ i = if x.is then x.new.take (c.k (upTo A i)) ++ x.safe.drop (c.k (upTo A i)) else x.safe := by
  unfold St.at_ St.crash
  rw [List.getD_eq_getElem?_getD, crashL_get, hx, Nat.zero_add]
  cases h : x.is
  · simp [Sec.now, h]
  · simp [Sec.now, mix, upTo, h]
theorem crash_none (A : St) (c : Cr) : ∀ x ∈ (A.crash c).secs, x.is = false := by
  intro x hx
  obtain ⟨i, hi⟩ := List.mem_iff_getElem?.1 hx
  have e : (A.crash c).secs = crashL c 0 A.secs := rfl
  rw [e, crashL_get] at hi
  cases hq : A.secs[i]? with
  | none => rw [hq] at hi; cases hi
  | some y =>
    rw [hq] at hi
    simp only [Option.map_some, Option.some.injEq] at hi
    subst hi
    cases hy : y.is <;> simp [hy, mix]
theorem crash_again (A : St) (c d : Cr) : (A.crash c).crash d = A.crash c := by
  have h : ∀ (l : List Sec) (j : Nat), (∀ x ∈ l, x.is = false) → crashL d j l = l := by
    intro l
    induction l with
    | nil => intro j _; rfl
    | cons x r ih =>
      intro j hx
      unfold crashL
      rw [if_neg (by simp [hx x List.mem_cons_self]), ih j (fun y hy => hx y (List.mem_cons_of_mem _ hy))]
  have e := h (A.crash c).secs 0 (crash_none A c)
  unfold St.crash at e ⊢
  simp only at e ⊢
  rw [e]
theorem crash_loose (A : St) (c : Cr) : (A.crash c).loose = 0 := by
  unfold St.loose looseL
  rw [List.countP_eq_zero]
  intro x hx
  simp [crash_none A c x hx]
theorem k_mid (c : Cr) (j : Nat) (h0 : c.k j ≠ 0) (h1 : c.k j ≠ 64) : (j : Int) = c.torn := by
  unfold Cr.k at h0 h1
  split at h0
  · assumption
  · rename_i hn
    rw [if_neg hn] at h1
    split at h0
    · rename_i hk
      rw [if_pos hk] at h1
      exact absurd rfl h1
    · exact absurd rfl h0
/-- a sector behind the crash: S, its safe bytes F, its new ones N -/
structure Torn (S F N : ByteArray) (kk : Nat) : Prop where
  s : S.size = 64
  f : F.size = 64
  n : N.size = 64
  lo : ∀ q (h : q < S.size) (h2 : q < N.size), q < kk → S[q] = N[q]
  hi : ∀ m, kk ≤ m → S.extract m S.size = F.extract m F.size
  z : kk = 0 → S = F
  e : kk = 64 → S = N
theorem torn_of (x : Sec) (h : x.safe.length = 64 ∧ x.new.length = 64) (kk : Nat) (hk : kk ≤ 64) : Torn ⟨(x.new.take kk ++ x.safe.drop kk).toArray⟩ ⟨x.safe.toArray⟩ ⟨x.new.toArray⟩ kk := by
  have hl : (x.new.take kk ++ x.safe.drop kk).length = 64 := by
    rw [List.length_append, List.length_take, List.length_drop, h.1, h.2]
    omega
  have hs : (ByteArray.mk (x.new.take kk ++ x.safe.drop kk).toArray).size = 64 := hl
  refine ⟨hs, h.1, h.2, ?_, ?_, ?_, ?_⟩
  · intro q h1 h2 hq
    show (x.new.take kk ++ x.safe.drop kk).toArray[q] = x.new.toArray[q]
    simp only [List.getElem_toArray]
    rw [List.getElem_append_left (by rw [List.length_take, h.2]; omega), List.getElem_take]
  · intro m hm
    have e1 : (ByteArray.mk x.safe.toArray).size = x.safe.length := rfl
    have e2 : (ByteArray.mk (x.new.take kk ++ x.safe.drop kk).toArray).size = (x.new.take kk ++ x.safe.drop kk).length := rfl
    rw [e1, e2]
    simp only [ByteArray.extract_mk, hl, h.1]
    congr 2
    rw [List.drop_append, List.drop_of_length_le (by rw [List.length_take, h.2]; omega), List.nil_append, List.drop_drop, List.length_take, h.2]
    congr 2
    omega
  · intro e
    subst e
    simp
  · intro e
    subst e
    rw [List.drop_of_length_le (by omega), List.append_nil, List.take_of_length_le (by omega)]
end Go.Proofs.Ytpjpncfoenadhaa
