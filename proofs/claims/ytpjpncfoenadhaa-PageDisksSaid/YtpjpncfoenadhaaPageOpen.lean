/- Pages that came in; two pages that are the same. No condition. -/
import Derived.Test.YtpjpncfoenadhaaPageAwake
namespace Go.Proofs.Ytpjpncfoenadhaa
open Go.ChangeShapes Go.WideShapes Go.ChangeAt Go.RowKit Go.ChangeMaps Pg Dk

theorem page_guard : Try.prog.eqGuardType Try.prog.depth 56 = false := by kernel_rfl
theorem page_eql (a b c : Int) (s : ByteArray) (w : World) :
    (binOp .eql 56 (.agg #[.int .i64 a, .int .i64 b, .int .i64 c, .string s]) (.agg #[.int .i64 a, .int .i64 b, .int .i64 c, .string s])).run Try.prog w = .ok (.bool true) w := by
  have h1 : Try.prog.underlying 56 = some (.struct (Try.prog.fieldsOf 56)) := by kernel_rfl
  have h2 : Try.prog.stoodInHeld 56 = false := by kernel_rfl
  rw [run_eql_struct, run_equalIn_agg w 9999 _ _ _ h1 h2]
  simp [Program.fieldsOf, Try.underlying56, Op.eqFields, part, go_sem]
/-- a page that came in -/
structure PageOk (p : Page) : Prop where
  i0 : -9223372036854775808 ≤ p.id
  i1 : p.id ≤ 9223372036854775807
  s : p.pay.length ≤ 9223372036854775807
theorem four_values (cs : Array Value) (h : cs.size = 4) : ∃ c0 c1 c2 c3, cs = #[c0, c1, c2, c3] := by
  obtain ⟨l⟩ := cs
  match l, h with
  | [c0, c1, c2, c3], _ => exact ⟨c0, c1, c2, c3, rfl⟩
section
variable {H : Type} {enc : TypeId × Value → H} {W : World} {base : Nat} {d : DataW H} {p : List MemPlace} {v : Value}
theorem page_part {fuel : Nat} {c0 c1 c2 c3 : Value} {y : DataW H × List MemPlace} (h : DataW.trod enc Try.prog W 0 (fun _ => true) true fuel 56 [c0, c1, c2, c3] = some y) :
    ∃ q : Page, c0 = .int .i64 q.id ∧ c1 = .int .i64 q.epoch ∧ c2 = .int .i64 q.kind ∧ c3 = .string ⟨q.pay.toArray⟩ ∧ PageOk q := by
  obtain ⟨m, _, hp⟩ := trod_parts Try.underlying56 h
  obtain ⟨y0, h0⟩ := hp 0 _ rfl
  obtain ⟨y1, h1⟩ := hp 1 _ rfl
  obtain ⟨y2, h2⟩ := hp 2 _ rfl
  obtain ⟨y3, h3⟩ := hp 3 _ rfl
  have e1 : Try.prog.cellsOf 9 = 1 := by kernel_rfl
  have e2 : Try.prog.cellsOf 3 = 1 := by kernel_rfl
  replace h0 : DataW.trod enc Try.prog W 0 (fun _ => true) true m 3 (List.take (Try.prog.cellsOf 3) (List.drop 0 [c0, c1, c2, c3])) = some y0 := h0
  rw [e2] at h0
  replace h1 : DataW.trod enc Try.prog W 0 (fun _ => true) true m 3 (List.take (Try.prog.cellsOf 3) (List.drop 1 [c0, c1, c2, c3])) = some y1 := h1
  rw [e2] at h1
  replace h2 : DataW.trod enc Try.prog W 0 (fun _ => true) true m 3 (List.take (Try.prog.cellsOf 3) (List.drop 2 [c0, c1, c2, c3])) = some y2 := h2
  rw [e2] at h2
  replace h3 : DataW.trod enc Try.prog W 0 (fun _ => true) true m 9 (List.take (Try.prog.cellsOf 9) (List.drop 3 [c0, c1, c2, c3])) = some y3 := h3
  rw [e1] at h3
  obtain ⟨a, rfl, wa⟩ := int_part Try.underlying3 h0
  obtain ⟨b, rfl, _⟩ := int_part Try.underlying3 h1
  obtain ⟨c, rfl, _⟩ := int_part Try.underlying3 h2
  obtain ⟨s, rfl, ws⟩ := string_part Try.underlying9 h3
  have hi := bounds_i64 wa
  rw [max_is] at ws
  refine ⟨⟨a, b, c, s.data.toList⟩, rfl, rfl, rfl, by cases s; rfl, hi.1, hi.2, ?_⟩
  show s.data.toList.length ≤ _
  rw [size_list]
  exact ws
set_option maxRecDepth 100000 in
theorem page_args (hv : Value.okWide Try.prog W .any base 56 v) (h : DataW.Trod enc Try.prog W 0 (fun _ => true) true 56 v d p) : ∃ q : Page, v = pageV q ∧ PageOk q := by
  obtain ⟨cs, rfl, hsz⟩ := okWide_struct Try.underlying56 hv
  rw [show Try.prog.cellsOf 56 = 4 by kernel_rfl] at hsz
  obtain ⟨c0, c1, c2, c3, rfl⟩ := four_values cs hsz
  obtain ⟨fuel, hf⟩ := h
  obtain ⟨q, rfl, rfl, rfl, rfl, ok⟩ := page_part hf
  exact ⟨q, rfl, ok⟩
end
end Go.Proofs.Ytpjpncfoenadhaa
