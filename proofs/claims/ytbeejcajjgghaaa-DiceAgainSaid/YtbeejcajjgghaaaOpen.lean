/- How the laws' arguments, the structs Five and Six, lie before the call. No condition. -/
import Derived.Test.YtbeejcajjgghaaaFrame
import Derived.Test.YtbeejcajjgghaaaDice
namespace Go.Proofs.Ytbeejcajjgghaaa
open Go.ChangeShapes Go.WideShapes Go.ChangeAt Go.RowKit

theorem one_datum {H : Type} (ds : List (DataW H)) (h : ds.length = 1) : ∃ d, ds = [d] := by
  match ds, h with
  | [d], _ => exact ⟨d, rfl⟩
theorem two_data {H : Type} (ds : List (DataW H)) (h : ds.length = 2) : ∃ d e, ds = [d, e] := by
  match ds, h with
  | [d, e], _ => exact ⟨d, e, rfl⟩
theorem six_values (cs : Array Value) (h : cs.size = 6) : ∃ a b c d e f, cs = #[a, b, c, d, e, f] := by
  obtain ⟨l⟩ := cs
  match l, h with
  | [a, b, c, d, e, f], _ => exact ⟨a, b, c, d, e, f, rfl⟩

section
variable {H : Type} {enc : TypeId × Value → H} {P : Program} {w : World} {base : Nat} {spare : Nat → Bool} {held : Bool}
/-- a struct's fields, each with its own reading -/
theorem trod_parts {t : TypeId} {fs : Array Field} {fuel : Nat} {cs : List Value} {x : DataW H × List MemPlace} (hs : P.underlying t = some (.struct fs)) (h : DataW.trod enc P w base spare held fuel t cs = some x) :
    ∃ n, cs.length = P.cellsOf t ∧ ∀ (i : Nat) (f : Field), fs[i]? = some f → ∃ y, DataW.trod enc P w base spare held n f.type ((cs.drop f.offset).take (P.cellsOf f.type)) = some y := by
  obtain ⟨xs, n, _, _, hl, hlen, hg⟩ := DataW.trod_struct hs h
  refine ⟨n, hl, fun i f hf => ?_⟩
  have hi : i < xs.length := by
    rw [hlen]
    exact (Array.getElem?_eq_some_iff.1 hf).1
  exact ⟨xs[i], (hg i f hf).trans (List.getElem?_eq_getElem hi)⟩
theorem int_part {t : TypeId} {k : IntKind} {fuel : Nat} {c : Value} {y : DataW H × List MemPlace} (ht : P.underlying t = some (.int k)) (h : DataW.trod enc P w base spare held fuel t [c] = some y) : ∃ n, c = .int k n ∧ (Lit.int k n).wf = true := by
  obtain ⟨n, h1, _, h3⟩ := DataW.trod_int ht h
  exact ⟨n, by simpa using h1, h3⟩
end

/-- a slice of ints that came in: its numbers, each in its cell -/
def IntsAt (w : World) (A : Option Addr) (len : Nat) (zs : List Int) : Prop :=
  len ≤ maxLen ∧ zs.length = len ∧ ∀ k, k < len → ∃ ad, A = some ad ∧ ad.block < w.heap.size ∧ w.cell? (ad.add k) = some (.int .i64 (zs.getD k 0)) ∧ -9223372036854775808 ≤ zs.getD k 0 ∧ zs.getD k 0 ≤ 9223372036854775807

theorem cells25 : Try.prog.cellsOf 25 = 6 := by kernel_rfl
theorem cells38 : Try.prog.cellsOf 38 = 6 := by kernel_rfl
theorem cells3 : Try.prog.cellsOf 3 = 1 := by kernel_rfl
theorem cells22 : Try.prog.cellsOf 22 = 1 := by kernel_rfl
theorem cells23 : Try.prog.cellsOf 23 = 1 := by kernel_rfl

section
variable {H : Type} {enc : TypeId × Value → H} {W : World} {base : Nat} {d : DataW H} {p : List MemPlace} {v : Value}
theorem ints_part {fuel : Nat} {c : Value} {y : DataW H × List MemPlace} (h : DataW.trod enc Try.prog W 0 (fun _ => true) true fuel 23 [c] = some y) : ∃ A len cap zs, c = .slice A len cap ∧ IntsAt W A len zs := by
  rcases open_ints Try.underlying23 Try.underlying3 cells3 h with ⟨hcs, _⟩ | ⟨a, len, cap, zs, hcs, _, hl, hm, hz, _, hcell, hwz⟩
  · have hc : c = .slice none 0 0 := by simpa using hcs
    exact ⟨none, 0, 0, [], hc, by simp, rfl, fun k hk => by omega⟩
  · have hc : c = .slice (some a) len cap := by simpa using hcs
    have hz_ : zs.length = cap := by simpa using hz
    refine ⟨some a, len, cap, zs.take len, hc, by omega, by rw [List.length_take]; omega, fun k hk => ⟨a, rfl, ?_, ?_, ?_⟩⟩
    · have := block_lt_of_cell (hcell 0 (by omega))
      simpa [Addr.add] using this
    · rw [hcell k (by omega)]
      congr 2
      simp [List.getD, List.getElem?_take, hk]
    · have := bounds_i64 (hwz (zs.getD k 0) (by
        have : k < zs.length := by omega
        simp [List.getD, this]))
      have e : (zs.take len).getD k 0 = zs.getD k 0 := by simp [List.getD, List.getElem?_take, hk]
      rw [e]
      exact this
theorem five_args (hv : Value.okWide Try.prog W .any base 25 v) (h : DataW.Trod enc Try.prog W 0 (fun _ => true) true 25 v d p) :
    ∃ (a b c n z : Int) (A : Option Addr) (len cap : Nat) (zs : List Int), v = .agg #[.int .i64 a, .int .i64 b, .int .i64 c, .int .i64 n, .int .u64 z, .slice A len cap] ∧
      (Lit.int .i64 a).wf = true ∧ (Lit.int .i64 b).wf = true ∧ (Lit.int .i64 c).wf = true ∧ (Lit.int .i64 n).wf = true ∧ (Lit.int .u64 z).wf = true ∧ IntsAt W A len zs := by
  obtain ⟨cs, rfl, hsz⟩ := okWide_struct Try.underlying25 hv
  rw [cells25] at hsz
  obtain ⟨c0, c1, c2, c3, c4, c5, rfl⟩ := six_values cs hsz
  obtain ⟨fuel, hf⟩ := h
  obtain ⟨m, _, hp⟩ := trod_parts Try.underlying25 hf
  obtain ⟨y0, h0⟩ := hp 0 _ rfl
  obtain ⟨y1, h1⟩ := hp 1 _ rfl
  obtain ⟨y2, h2⟩ := hp 2 _ rfl
  obtain ⟨y3, h3⟩ := hp 3 _ rfl
  obtain ⟨y4, h4⟩ := hp 4 _ rfl
  obtain ⟨y5, h5⟩ := hp 5 _ rfl
  simp only [Value.cells, cells3, cells22, cells23, List.drop, List.take] at h0 h1 h2 h3 h4 h5
  obtain ⟨a, rfl, wa⟩ := int_part Try.underlying3 h0
  obtain ⟨b, rfl, wb⟩ := int_part Try.underlying3 h1
  obtain ⟨c, rfl, wc⟩ := int_part Try.underlying3 h2
  obtain ⟨n, rfl, wn⟩ := int_part Try.underlying3 h3
  obtain ⟨z, rfl, wz⟩ := int_part Try.underlying22 h4
  obtain ⟨A, len, cap, zs, rfl, hz⟩ := ints_part h5
  exact ⟨a, b, c, n, z, A, len, cap, zs, rfl, wa, wb, wc, wn, wz, hz⟩
theorem six_args (hv : Value.okWide Try.prog W .any base 38 v) (h : DataW.Trod enc Try.prog W 0 (fun _ => true) true 38 v d p) :
    ∃ (a b s q n m : Int), v = .agg #[.int .u64 a, .int .u64 b, .int .i64 s, .int .i64 q, .int .i64 n, .int .i64 m] ∧
      (Lit.int .u64 a).wf = true ∧ (Lit.int .u64 b).wf = true ∧ (Lit.int .i64 s).wf = true ∧ (Lit.int .i64 q).wf = true ∧ (Lit.int .i64 n).wf = true ∧ (Lit.int .i64 m).wf = true := by
  obtain ⟨cs, rfl, hsz⟩ := okWide_struct Try.underlying38 hv
  rw [cells38] at hsz
  obtain ⟨c0, c1, c2, c3, c4, c5, rfl⟩ := six_values cs hsz
  obtain ⟨fuel, hf⟩ := h
  obtain ⟨m, _, hp⟩ := trod_parts Try.underlying38 hf
  obtain ⟨y0, h0⟩ := hp 0 _ rfl
  obtain ⟨y1, h1⟩ := hp 1 _ rfl
  obtain ⟨y2, h2⟩ := hp 2 _ rfl
  obtain ⟨y3, h3⟩ := hp 3 _ rfl
  obtain ⟨y4, h4⟩ := hp 4 _ rfl
  obtain ⟨y5, h5⟩ := hp 5 _ rfl
  simp only [Value.cells, cells3, cells22, List.drop, List.take] at h0 h1 h2 h3 h4 h5
  obtain ⟨a, rfl, wa⟩ := int_part Try.underlying22 h0
  obtain ⟨b, rfl, wb⟩ := int_part Try.underlying22 h1
  obtain ⟨c, rfl, wc⟩ := int_part Try.underlying3 h2
  obtain ⟨n, rfl, wn⟩ := int_part Try.underlying3 h3
  obtain ⟨z, rfl, wz⟩ := int_part Try.underlying3 h4
  obtain ⟨q, rfl, wq⟩ := int_part Try.underlying3 h5
  exact ⟨a, b, c, n, z, q, rfl, wa, wb, wc, wn, wz, wq⟩
end
end Go.Proofs.Ytbeejcajjgghaaa
