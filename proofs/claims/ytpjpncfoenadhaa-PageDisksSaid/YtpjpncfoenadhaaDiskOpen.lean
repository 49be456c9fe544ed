/- Acts and crashes that came in, opened. No condition. -/
import Derived.Test.YtpjpncfoenadhaaDiskAwake
import Derived.Deep.Grids
namespace Go.Proofs.Ytpjpncfoenadhaa
open Go.ChangeShapes Go.WideShapes Go.ChangeAt Go.RowKit Dk

section
variable {H : Type} {enc : TypeId × Value → H} {W : World} {base : Nat} {d : DataW H} {p : List MemPlace} {v : Value}
theorem bools_part {fuel : Nat} {c : Value} {y : DataW H × List MemPlace} (h : DataW.trod enc Try.prog W 0 (fun _ => true) true fuel 23 [c] = some y) : ∃ A len cap l, c = .slice A len cap ∧ Bools W.heap.size W A len l := by
  rcases Deep.open_bools Try.underlying23 Try.underlying4 (by kernel_rfl) h with ⟨hcs, _⟩ | ⟨a, len, cap, B, hcs, _, hl, hm, _, hcell⟩
  · have hc : c = .slice none 0 0 := by simpa using hcs
    exact ⟨none, 0, 0, [], hc, Bools.none _ _⟩
  · have hc : c = .slice (some a) len cap := by simpa using hcs
    refine ⟨some a, len, cap, (List.range len).map B, hc, by omega, by simp, fun k hk => ⟨a, rfl, ?_, ?_, ?_⟩⟩
    · have := block_lt_of_cell (hcell k (by omega))
      rwa [block_add] at this
    · have := block_lt_of_cell (hcell k (by omega))
      rwa [block_add] at this
    · rw [hcell k (by omega)]
      congr 2
      simp [List.getD_eq_getElem?_getD, hk]
theorem crash_part {fuel : Nat} {c0 c1 c2 : Value} {y : DataW H × List MemPlace} (h : DataW.trod enc Try.prog W 0 (fun _ => true) true fuel 25 [c0, c1, c2] = some y) :
    ∃ (A : Option Addr) (len cap : Nat) (c : Cr), c0 = .slice A len cap ∧ c1 = .int .i64 c.torn ∧ c2 = .int .i64 c.bytes ∧ Bools W.heap.size W A len c.keep := by
  obtain ⟨m, _, hp⟩ := trod_parts Try.underlying25 h
  obtain ⟨y0, h0⟩ := hp 0 _ rfl
  obtain ⟨y1, h1⟩ := hp 1 _ rfl
  obtain ⟨y2, h2⟩ := hp 2 _ rfl
  have e1 : Try.prog.cellsOf 23 = 1 := by kernel_rfl
  have e2 : Try.prog.cellsOf 3 = 1 := by kernel_rfl
  replace h0 : DataW.trod enc Try.prog W 0 (fun _ => true) true m 23 (List.take (Try.prog.cellsOf 23) (List.drop 0 [c0, c1, c2])) = some y0 := h0
  rw [e1] at h0
  replace h1 : DataW.trod enc Try.prog W 0 (fun _ => true) true m 3 (List.take (Try.prog.cellsOf 3) (List.drop 1 [c0, c1, c2])) = some y1 := h1
  rw [e2] at h1
  replace h2 : DataW.trod enc Try.prog W 0 (fun _ => true) true m 3 (List.take (Try.prog.cellsOf 3) (List.drop 2 [c0, c1, c2])) = some y2 := h2
  rw [e2] at h2
  obtain ⟨A, len, cap, l, rfl, hl⟩ := bools_part h0
  obtain ⟨t, rfl, _⟩ := int_part Try.underlying3 h1
  obtain ⟨b, rfl, _⟩ := int_part Try.underlying3 h2
  exact ⟨A, len, cap, ⟨l, t, b⟩, rfl, rfl, rfl, hl⟩
/-- an act that came in -/
structure ActOk (W : World) (a : Act) (P : Option Addr) (len : Nat) : Prop where
  i0 : -9223372036854775808 ≤ a.i
  i1 : a.i ≤ 9223372036854775807
  s : a.s.size ≤ 9223372036854775807
  k : Bools W.heap.size W P len a.c.keep
theorem act_part {fuel : Nat} {c0 c1 c2 c3 c4 c5 : Value} {y : DataW H × List MemPlace} (h : DataW.trod enc Try.prog W 0 (fun _ => true) true fuel 45 [c0, c1, c2, c3, c4, c5] = some y) :
    ∃ (a : Act) (P : Option Addr) (len cap : Nat), c0 = .int .i64 a.kind ∧ c1 = .int .i64 a.i ∧ c2 = .string a.s ∧ c3 = .slice P len cap ∧ c4 = .int .i64 a.c.torn ∧ c5 = .int .i64 a.c.bytes ∧ ActOk W a P len := by
  obtain ⟨m, _, hp⟩ := trod_parts Try.underlying45 h
  obtain ⟨y0, h0⟩ := hp 0 _ rfl
  obtain ⟨y1, h1⟩ := hp 1 _ rfl
  obtain ⟨y2, h2⟩ := hp 2 _ rfl
  obtain ⟨y3, h3⟩ := hp 3 _ rfl
  have e1 : Try.prog.cellsOf 9 = 1 := by kernel_rfl
  have e2 : Try.prog.cellsOf 3 = 1 := by kernel_rfl
  have e3 : Try.prog.cellsOf 25 = 3 := by kernel_rfl
  replace h0 : DataW.trod enc Try.prog W 0 (fun _ => true) true m 3 (List.take (Try.prog.cellsOf 3) (List.drop 0 [c0, c1, c2, c3, c4, c5])) = some y0 := h0
  rw [e2] at h0
  replace h1 : DataW.trod enc Try.prog W 0 (fun _ => true) true m 3 (List.take (Try.prog.cellsOf 3) (List.drop 1 [c0, c1, c2, c3, c4, c5])) = some y1 := h1
  rw [e2] at h1
  replace h2 : DataW.trod enc Try.prog W 0 (fun _ => true) true m 9 (List.take (Try.prog.cellsOf 9) (List.drop 2 [c0, c1, c2, c3, c4, c5])) = some y2 := h2
  rw [e1] at h2
  replace h3 : DataW.trod enc Try.prog W 0 (fun _ => true) true m 25 (List.take (Try.prog.cellsOf 25) (List.drop 3 [c0, c1, c2, c3, c4, c5])) = some y3 := h3
  rw [e3] at h3
  obtain ⟨kd, rfl, _⟩ := int_part Try.underlying3 h0
  obtain ⟨i, rfl, wi⟩ := int_part Try.underlying3 h1
  obtain ⟨s, rfl, ws⟩ := string_part Try.underlying9 h2
  obtain ⟨A, len, cap, c, rfl, rfl, rfl, hb⟩ := crash_part h3
  have hi := bounds_i64 wi
  rw [max_is] at ws
  exact ⟨⟨kd, i, s, c⟩, A, len, cap, rfl, rfl, rfl, rfl, rfl, rfl, hi.1, hi.2, ws, hb⟩
theorem six_values (cs : Array Value) (h : cs.size = 6) : ∃ c0 c1 c2 c3 c4 c5, cs = #[c0, c1, c2, c3, c4, c5] := by
  obtain ⟨l⟩ := cs
  match l, h with
  | [c0, c1, c2, c3, c4, c5], _ => exact ⟨c0, c1, c2, c3, c4, c5, rfl⟩
theorem three_values (cs : Array Value) (h : cs.size = 3) : ∃ c0 c1 c2, cs = #[c0, c1, c2] := by
  obtain ⟨l⟩ := cs
  match l, h with
  | [c0, c1, c2], _ => exact ⟨c0, c1, c2, rfl⟩
set_option maxRecDepth 100000 in
theorem act_args (hv : Value.okWide Try.prog W .any base 45 v) (h : DataW.Trod enc Try.prog W 0 (fun _ => true) true 45 v d p) :
    ∃ (a : Act) (P : Option Addr) (len cap : Nat), v = actV a P len cap ∧ ActOk W a P len := by
  obtain ⟨cs, rfl, hsz⟩ := okWide_struct Try.underlying45 hv
  rw [show Try.prog.cellsOf 45 = 6 by kernel_rfl] at hsz
  obtain ⟨c0, c1, c2, c3, c4, c5, rfl⟩ := six_values cs hsz
  obtain ⟨fuel, hf⟩ := h
  obtain ⟨a, P, len, cap, rfl, rfl, rfl, rfl, rfl, rfl, ok⟩ := act_part hf
  exact ⟨a, P, len, cap, rfl, ok⟩
set_option maxRecDepth 100000 in
theorem crash_args (hv : Value.okWide Try.prog W .any base 25 v) (h : DataW.Trod enc Try.prog W 0 (fun _ => true) true 25 v d p) :
    ∃ (c : Cr) (P : Option Addr) (len cap : Nat), v = .agg #[.slice P len cap, .int .i64 c.torn, .int .i64 c.bytes] ∧ Bools W.heap.size W P len c.keep := by
  obtain ⟨cs, rfl, hsz⟩ := okWide_struct Try.underlying25 hv
  rw [show Try.prog.cellsOf 25 = 3 by kernel_rfl] at hsz
  obtain ⟨c0, c1, c2, rfl⟩ := three_values cs hsz
  obtain ⟨fuel, hf⟩ := h
  obtain ⟨P, len, cap, c, rfl, rfl, rfl, hb⟩ := crash_part hf
  exact ⟨c, P, len, cap, rfl, hb⟩
end
end Go.Proofs.Ytpjpncfoenadhaa
