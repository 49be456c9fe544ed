/- Lists of acts that came in. No condition. -/
import Derived.Test.YtpjpncfoenadhaaDiskOpen
import Derived.Deep.Slices
namespace Go.Proofs.Ytpjpncfoenadhaa
open Go.ChangeShapes Go.WideShapes Go.ChangeAt Go.RowKit Dk

/-- one act in memory, at an address -/
structure ActAt (W : World) (ad : Addr) (a : Act) (P : Option Addr) (l c : Nat) : Prop where
  b : ad.block < W.heap.size
  q0 : W.cell? (ad.add 0) = some (.int .i64 a.kind)
  q1 : W.cell? (ad.add 1) = some (.int .i64 a.i)
  q2 : W.cell? (ad.add 2) = some (.string a.s)
  q3 : W.cell? (ad.add 3) = some (.slice P l c)
  q4 : W.cell? (ad.add 4) = some (.int .i64 a.c.torn)
  q5 : W.cell? (ad.add 5) = some (.int .i64 a.c.bytes)
  ok : ActOk W a P l
def ActsAt (W : World) (A : Option Addr) (len : Nat) : Prop :=
  len ≤ maxLen ∧ ∀ k, k < len → ∃ ad, A = some ad ∧ ∃ (a : Act) (P : Option Addr) (l c : Nat), ActAt W (ad.add (k * 6)) a P l c
theorem six_list (l : List Value) (h : l.length = 6) : ∃ c0 c1 c2 c3 c4 c5, l = [c0, c1, c2, c3, c4, c5] := by
  match l, h with
  | [c0, c1, c2, c3, c4, c5], _ => exact ⟨c0, c1, c2, c3, c4, c5, rfl⟩
section
variable {H : Type} {enc : TypeId × Value → H} {W : World} {base : Nat} {d : DataW H} {p : List MemPlace} {v : Value}
set_option maxRecDepth 100000 in
theorem acts_args (hv : Value.okWide Try.prog W .any base 22 v) (h : DataW.Trod enc Try.prog W 0 (fun _ => true) true 22 v d p) :
    ∃ A len cap, v = .slice A len cap ∧ ActsAt W A len := by
  obtain ⟨A, len, cap, rfl⟩ := okWide_slice Try.underlying22 hv
  obtain ⟨fuel, hf⟩ := h
  rcases Deep.open_slice Try.underlying22 hf with ⟨hcs, _⟩ | ⟨a, len', cap', m, n, D, Pl, hcs, _, hl, hm, hmm, _, hx⟩
  · have hc : Value.slice A len cap = .slice none 0 0 := by simpa [Value.cells] using hcs
    cases hc
    exact ⟨none, 0, 0, rfl, by decide, fun k hk => by omega⟩
  · have hc : Value.slice A len cap = .slice (some a) len' cap' := by simpa [Value.cells] using hcs
    cases hc
    simp only [if_true] at hmm
    refine ⟨some a, len, cap, rfl, by omega, fun k hk => ⟨a, rfl, ?_⟩⟩
    obtain ⟨cs', h1, h2⟩ := hx k (by omega)
    rw [show Try.prog.cellsOf 45 = 6 by kernel_rfl] at h1
    obtain ⟨_, hcl, hat⟩ := World.cells?_some h1
    obtain ⟨c0, c1, c2, c3, c4, c5, rfl⟩ := six_list cs' hcl
    obtain ⟨x, P, l, c, rfl, rfl, rfl, rfl, rfl, rfl, ok⟩ := act_part h2
    refine ⟨x, P, l, c, ?_, (hat 0 (by decide)).trans rfl, (hat 1 (by decide)).trans rfl, (hat 2 (by decide)).trans rfl, (hat 3 (by decide)).trans rfl, (hat 4 (by decide)).trans rfl, (hat 5 (by decide)).trans rfl, ok⟩
    have := block_lt_of_cell ((hat 0 (by decide)).trans rfl)
    rwa [block_add] at this
theorem ActAt.below {W w : World} {ad : Addr} {a : Act} {P : Option Addr} {l c : Nat} (h : ActAt W ad a P l c) (hb : Below W.heap.size W w) :
    w.cell? (ad.add 0) = some (.int .i64 a.kind) ∧ w.cell? (ad.add 1) = some (.int .i64 a.i) ∧ w.cell? (ad.add 2) = some (.string a.s) ∧ w.cell? (ad.add 3) = some (.slice P l c) ∧ w.cell? (ad.add 4) = some (.int .i64 a.c.torn) ∧ w.cell? (ad.add 5) = some (.int .i64 a.c.bytes) ∧ Bools W.heap.size w P l a.c.keep := by
  have e : ∀ j, w.cell? (ad.add j) = W.cell? (ad.add j) := fun j => World.cell?_of_block (hb.block _ (by rw [block_add]; exact h.b))
  exact ⟨(e 0).trans h.q0, (e 1).trans h.q1, (e 2).trans h.q2, (e 3).trans h.q3, (e 4).trans h.q4, (e 5).trans h.q5, h.ok.k.touch (Touch.of_below (lo := W.heap.size) (hi := W.heap.size) hb) (Nat.le_refl _)⟩
theorem ActsAt.below {W w : World} {A : Option Addr} {len : Nat} (h : ActsAt W A len) (hb : Below W.heap.size W w) : ActsAt w A len :=
  ⟨h.1, fun k hk => by
    obtain ⟨ad, e, a, P, l, c, hat⟩ := h.2 k hk
    obtain ⟨q0, q1, q2, q3, q4, q5, qb⟩ := hat.below hb
    exact ⟨ad, e, a, P, l, c, ⟨Nat.lt_of_lt_of_le hat.b hb.size, q0, q1, q2, q3, q4, q5, ⟨hat.ok.i0, hat.ok.i1, hat.ok.s, qb.lift hb.size⟩⟩⟩⟩
end
end Go.Proofs.Ytpjpncfoenadhaa
