/- Lists of acts of law 11 that came in. No condition. -/
import Derived.Test.YtpjpncfoenadhaaPageOpen
import Derived.Test.YtpjpncfoenadhaaDiskActs
namespace Go.Proofs.Ytpjpncfoenadhaa
open Go.ChangeShapes Go.WideShapes Go.ChangeAt Go.RowKit Dk Pg

/-- an act, as law 11 asks for it -/
structure PAct where
  kind : Int
  i : Int
  p : Page
  s : ByteArray
  c : Cr
/-- an act that came in -/
structure PActOk (W : World) (a : PAct) (P : Option Addr) (len : Nat) : Prop where
  i1 : a.i ≤ 9223372036854775807
  p : PageOk a.p
  s : a.s.size ≤ 9223372036854775807
  k : Bools W.heap.size W P len a.c.keep
def pactL (a : PAct) (P : Option Addr) (l c : Nat) : List Value :=
  [.int .i64 a.kind, .int .i64 a.i, .int .i64 a.p.id, .int .i64 a.p.epoch, .int .i64 a.p.kind, .string ⟨a.p.pay.toArray⟩, .string a.s, .slice P l c, .int .i64 a.c.torn, .int .i64 a.c.bytes]
theorem ten_list (l : List Value) (h : l.length = 10) : ∃ c0 c1 c2 c3 c4 c5 c6 c7 c8 c9, l = [c0, c1, c2, c3, c4, c5, c6, c7, c8, c9] := by
  match l, h with
  | [c0, c1, c2, c3, c4, c5, c6, c7, c8, c9], _ => exact ⟨c0, c1, c2, c3, c4, c5, c6, c7, c8, c9, rfl⟩
/-- one act in memory, at an address -/
structure PActAt (W : World) (ad : Addr) (a : PAct) (P : Option Addr) (l c : Nat) : Prop where
  b : ad.block < W.heap.size
  q : ∀ j (v : Value), (pactL a P l c)[j]? = some v → W.cell? (ad.add j) = some v
  ok : PActOk W a P l
def PActsAt (W : World) (A : Option Addr) (len : Nat) : Prop :=
  len ≤ maxLen ∧ ∀ k, k < len → ∃ ad, A = some ad ∧ ∃ (a : PAct) (P : Option Addr) (l c : Nat), PActAt W (ad.add (k * 10)) a P l c
section
variable {H : Type} {enc : TypeId × Value → H} {W : World} {base : Nat} {d : DataW H} {p : List MemPlace} {v : Value}
theorem pact_part {fuel : Nat} {c0 c1 c2 c3 c4 c5 c6 c7 c8 c9 : Value} {y : DataW H × List MemPlace} (h : DataW.trod enc Try.prog W 0 (fun _ => true) true fuel 72 [c0, c1, c2, c3, c4, c5, c6, c7, c8, c9] = some y) :
    ∃ (a : PAct) (P : Option Addr) (len cap : Nat), [c0, c1, c2, c3, c4, c5, c6, c7, c8, c9] = pactL a P len cap ∧ PActOk W a P len := by
  obtain ⟨m, _, hp⟩ := trod_parts Try.underlying72 h
  obtain ⟨y0, h0⟩ := hp 0 _ rfl
  obtain ⟨y1, h1⟩ := hp 1 _ rfl
  obtain ⟨y2, h2⟩ := hp 2 _ rfl
  obtain ⟨y3, h3⟩ := hp 3 _ rfl
  obtain ⟨y4, h4⟩ := hp 4 _ rfl
  have e1 : Try.prog.cellsOf 9 = 1 := by kernel_rfl
  have e2 : Try.prog.cellsOf 3 = 1 := by kernel_rfl
  have e3 : Try.prog.cellsOf 25 = 3 := by kernel_rfl
  have e4 : Try.prog.cellsOf 56 = 4 := by kernel_rfl
  replace h0 : DataW.trod enc Try.prog W 0 (fun _ => true) true m 3 (List.take (Try.prog.cellsOf 3) (List.drop 0 [c0, c1, c2, c3, c4, c5, c6, c7, c8, c9])) = some y0 := h0
  rw [e2] at h0
  replace h1 : DataW.trod enc Try.prog W 0 (fun _ => true) true m 3 (List.take (Try.prog.cellsOf 3) (List.drop 1 [c0, c1, c2, c3, c4, c5, c6, c7, c8, c9])) = some y1 := h1
  rw [e2] at h1
  replace h2 : DataW.trod enc Try.prog W 0 (fun _ => true) true m 56 (List.take (Try.prog.cellsOf 56) (List.drop 2 [c0, c1, c2, c3, c4, c5, c6, c7, c8, c9])) = some y2 := h2
  rw [e4] at h2
  replace h3 : DataW.trod enc Try.prog W 0 (fun _ => true) true m 9 (List.take (Try.prog.cellsOf 9) (List.drop 6 [c0, c1, c2, c3, c4, c5, c6, c7, c8, c9])) = some y3 := h3
  rw [e1] at h3
  replace h4 : DataW.trod enc Try.prog W 0 (fun _ => true) true m 25 (List.take (Try.prog.cellsOf 25) (List.drop 7 [c0, c1, c2, c3, c4, c5, c6, c7, c8, c9])) = some y4 := h4
  rw [e3] at h4
  obtain ⟨kd, rfl, _⟩ := int_part Try.underlying3 h0
  obtain ⟨i, rfl, wi⟩ := int_part Try.underlying3 h1
  obtain ⟨q, rfl, rfl, rfl, rfl, okq⟩ := page_part h2
  obtain ⟨s, rfl, ws⟩ := string_part Try.underlying9 h3
  obtain ⟨A, len, cap, c, rfl, rfl, rfl, hb⟩ := crash_part h4
  have hi := bounds_i64 wi
  rw [max_is] at ws
  exact ⟨⟨kd, i, q, s, c⟩, A, len, cap, rfl, hi.2, okq, ws, hb⟩
set_option maxRecDepth 100000 in
theorem pacts_args (hv : Value.okWide Try.prog W .any base 68 v) (h : DataW.Trod enc Try.prog W 0 (fun _ => true) true 68 v d p) :
    ∃ A len cap, v = .slice A len cap ∧ PActsAt W A len := by
  obtain ⟨A, len, cap, rfl⟩ := okWide_slice Try.underlying68 hv
  obtain ⟨fuel, hf⟩ := h
  rcases Deep.open_slice Try.underlying68 hf with ⟨hcs, _⟩ | ⟨a, len', cap', m, n, D, Pl, hcs, _, hl, hm, hmm, _, hx⟩
  · have hc : Value.slice A len cap = .slice none 0 0 := by simpa [Value.cells] using hcs
    cases hc
    exact ⟨none, 0, 0, rfl, by decide, fun k hk => by omega⟩
  · have hc : Value.slice A len cap = .slice (some a) len' cap' := by simpa [Value.cells] using hcs
    cases hc
    simp only [if_true] at hmm
    refine ⟨some a, len, cap, rfl, by omega, fun k hk => ⟨a, rfl, ?_⟩⟩
    obtain ⟨cs', h1, h2⟩ := hx k (by omega)
    rw [show Try.prog.cellsOf 72 = 10 by kernel_rfl] at h1
    obtain ⟨_, hcl, hat⟩ := World.cells?_some h1
    obtain ⟨c0, c1, c2, c3, c4, c5, c6, c7, c8, c9, rfl⟩ := ten_list cs' hcl
    obtain ⟨x, P, l, c, he, ok⟩ := pact_part h2
    rw [he] at hat
    refine ⟨x, P, l, c, ?_, fun j v hj => ?_, ok⟩
    · have := block_lt_of_cell ((hat 0 (by decide)).trans rfl)
      rwa [block_add] at this
    · have hlt : j < 10 := (List.getElem?_eq_some_iff.1 hj).1
      exact (hat j hlt).trans hj
theorem PActAt.below {W w : World} {ad : Addr} {a : PAct} {P : Option Addr} {l c : Nat} (h : PActAt W ad a P l c) (hb : Below W.heap.size W w) :
    (∀ j (v : Value), (pactL a P l c)[j]? = some v → w.cell? (ad.add j) = some v) ∧ Bools W.heap.size w P l a.c.keep := by
  have e : ∀ j, w.cell? (ad.add j) = W.cell? (ad.add j) := fun j => World.cell?_of_block (hb.block _ (by rw [block_add]; exact h.b))
  exact ⟨fun j v hj => (e j).trans (h.q j v hj), h.ok.k.touch (Touch.of_below (lo := W.heap.size) (hi := W.heap.size) hb) (Nat.le_refl _)⟩
end
end Go.Proofs.Ytpjpncfoenadhaa
