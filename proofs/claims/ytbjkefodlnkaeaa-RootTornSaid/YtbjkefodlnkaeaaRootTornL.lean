/- Of a root written over another one of another epoch, in any beginning alone, the slot says the old one, the new one, or nothing: the statement. No condition. -/
import Derived.Test.YtbjkefodlnkaeaaRootTorn
namespace Go.Proofs.Ytbjkefodlnkaeaa
open Go.ChangeShapes Go.WideShapes Go.ChangeAt Go.RowKit

theorem three_values (cs : Array Value) (h : cs.size = 3) : ∃ c0 c1 c2, cs = #[c0, c1, c2] := by
  obtain ⟨l⟩ := cs
  match l, h with
  | [c0, c1, c2], _ => exact ⟨c0, c1, c2, rfl⟩
section
variable {H : Type} {enc : TypeId × Value → H} {W : World} {base : Nat} {d : DataW H} {p : List MemPlace} {v : Value}
theorem ints_in {fuel : Nat} {c : Value} {y : DataW H × List MemPlace} (h : DataW.trod enc Try.prog W 0 (fun _ => true) true fuel 36 [c] = some y) : ∃ A len cap T, c = .slice A len cap ∧ Ints W.heap.size W A len cap T := by
  rcases open_ints Try.underlying36 Try.underlying3 (by kernel_rfl) h with ⟨hcs, _⟩ | ⟨a, len, cap, zs, hcs, _, hl, hm, hz, _, hcell, _⟩
  · have hc : c = .slice none 0 0 := by simpa using hcs
    exact ⟨none, 0, 0, [], hc, by omega, Nat.le_refl _, rfl, fun k hk => absurd hk (Nat.not_lt_zero _)⟩
  · have hc : c = .slice (some a) len cap := by simpa using hcs
    rw [if_pos rfl] at hz
    rw [max_is] at hm
    refine ⟨some a, len, cap, zs.take len, hc, hm, hl, by rw [List.length_take]; omega, fun k hk => ⟨a, rfl, ?_, ?_⟩⟩
    · have := block_lt_of_cell (hcell k (by omega))
      rwa [addr_block] at this
    · rw [hcell k (by omega), List.getD_eq_getElem?_getD, List.getD_eq_getElem?_getD, List.getElem?_take, if_pos hk]
theorem root_part {fuel : Nat} {c0 c1 c2 : Value} {y : DataW H × List MemPlace} (h : DataW.trod enc Try.prog W 0 (fun _ => true) true fuel 38 [c0, c1, c2] = some y) :
    ∃ (e l : Int) (A : Option Addr) (len cap : Nat) (T : List Int), c0 = .int .i64 e ∧ c1 = .int .i64 l ∧ c2 = .slice A len cap ∧ Ints W.heap.size W A len cap T := by
  obtain ⟨m, _, hp⟩ := trod_parts Try.underlying38 h
  obtain ⟨y0, h0⟩ := hp 0 _ rfl
  obtain ⟨y1, h1⟩ := hp 1 _ rfl
  obtain ⟨y2, h2⟩ := hp 2 _ rfl
  have e1 : Try.prog.cellsOf 36 = 1 := by kernel_rfl
  have e2 : Try.prog.cellsOf 3 = 1 := by kernel_rfl
  replace h0 : DataW.trod enc Try.prog W 0 (fun _ => true) true m 3 (List.take (Try.prog.cellsOf 3) (List.drop 0 [c0, c1, c2])) = some y0 := h0
  rw [e2] at h0
  replace h1 : DataW.trod enc Try.prog W 0 (fun _ => true) true m 3 (List.take (Try.prog.cellsOf 3) (List.drop 1 [c0, c1, c2])) = some y1 := h1
  rw [e2] at h1
  replace h2 : DataW.trod enc Try.prog W 0 (fun _ => true) true m 36 (List.take (Try.prog.cellsOf 36) (List.drop 2 [c0, c1, c2])) = some y2 := h2
  rw [e1] at h2
  obtain ⟨a, rfl, _⟩ := int_part Try.underlying3 h0
  obtain ⟨b, rfl, _⟩ := int_part Try.underlying3 h1
  obtain ⟨A, len, cap, T, rfl, hI⟩ := ints_in h2
  exact ⟨a, b, A, len, cap, T, rfl, rfl, rfl, hI⟩
set_option maxRecDepth 100000 in
theorem root_args (hv : Value.okWide Try.prog W .any base 38 v) (h : DataW.Trod enc Try.prog W 0 (fun _ => true) true 38 v d p) : ∃ (e l : Int) (A : Option Addr) (len cap : Nat) (T : List Int), v = rootV e l A len cap ∧ Ints W.heap.size W A len cap T := by
  obtain ⟨cs, rfl, hsz⟩ := okWide_struct Try.underlying38 hv
  rw [show Try.prog.cellsOf 38 = 3 by kernel_rfl] at hsz
  obtain ⟨c0, c1, c2, rfl⟩ := three_values cs hsz
  obtain ⟨fuel, hf⟩ := h
  obtain ⟨e, l, A, len, cap, T, rfl, rfl, rfl, hI⟩ := root_part hf
  exact ⟨e, l, A, len, cap, T, rfl, hI⟩
end
theorem bounds_byte {n : Int} (h : (Lit.int .u8 n).wf = true) : 0 ≤ n ∧ n ≤ 255 := by
  simp [Lit.wf, IntKind.min, IntKind.max, IntKind.signed, IntKind.bits] at h
  omega
set_option maxRecDepth 100000 in
theorem torn_law : Frame.LawCalls 8 Try.f8 := by
  intro H enc W base args ds p hval hA _ _ _
  rw [Try.params8] at hA hval
  obtain ⟨v0, vs0, d0, ds0, p0, q0, hargs, rfl, rfl, h0, r0⟩ := trodAll_cons hA
  obtain ⟨v1, vs1, d1, ds1, p1, q1, rfl, rfl, rfl, h1, r1⟩ := trodAll_cons r0
  obtain ⟨v2, vs2, d2, ds2, p2, q2, rfl, rfl, rfl, h2, r2⟩ := trodAll_cons r1
  obtain ⟨rfl, rfl, rfl⟩ := trodAll_nil r2
  obtain rfl : args = #[v0, v1, v2] := by cases args; simp_all
  obtain ⟨e, l, A, len, cap, T, rfl, hIA⟩ := root_args (hval 0 38 v0 rfl rfl) h0
  obtain ⟨f, m, B, len2, cap2, U, rfl, hIB⟩ := root_args (hval 1 38 v1 rfl rfl) h1
  obtain ⟨c, rfl, rfl, rfl, wc⟩ := open_int Try.underlying5 (hval 2 5 v2 rfl rfl) h2
  have hc := bounds_byte wc
  obtain ⟨n, rfl⟩ := Int.eq_ofNat_of_zero_le hc.1
  by_cases c1 : 40 < len
  · exact torn_a e l f m _ W c1 (Nat.le_trans hIA.le hIA.big) (Nat.le_trans hIB.le hIB.big)
  by_cases c2 : 40 < len2
  · exact torn_b e l f m _ W c1 c2 (Nat.le_trans hIA.le hIA.big) (Nat.le_trans hIB.le hIB.big)
  by_cases c3 : e = f
  · exact torn_e e l f m _ W c1 c2 c3 (Nat.le_trans hIA.le hIA.big) (Nat.le_trans hIB.le hIB.big)
  · exact torn_main e l f m n hIA hIB c1 c2 c3 (by omega)
set_option maxRecDepth 100000 in
theorem torn_lifted (os : Os) (started : os.Started) (H : Type) (enc : TypeId × Value → H) :
    ReturnsInHanded {} Try.checked os 8 .any (Rows.rootTornSpec.pre6 enc Try.prog Try.f8 Rows.rootTornRow.domain false) (Rows.rootTornSpec.post enc Try.prog Try.f8 false true false false) :=
  Frame.lifted (s := Rows.rootTornSpec) (by kernel_rfl) Try.func8 (by kernel_rfl) rfl (tb := 4) (by kernel_rfl) Try.underlying4
    (fun H ds h => by
      obtain ⟨d, e, g, rfl⟩ := three_data ds h
      rfl) torn_law os started H enc
    (ChangeSpec.witness6 (enc := enc) (C := Try.checked) false ⟨#[], #[.agg #[.int .i64 0, .int .i64 0, .slice none 0 0], .agg #[.int .i64 0, .int .i64 0, .slice none 0 0], .int .u8 0], []⟩ 8 (by kernel_rfl) (by kernel_rfl) (by kernel_rfl) (by kernel_rfl))
theorem torn_holds : Rows.RootTornSaid :=
  OpenClaim.holds_of_wide 8 Try.f8 rfl rfl rfl rfl rfl rfl rfl ⟨rfl, rfl, rfl, rfl, rfl⟩ rfl rfl rfl rfl rfl (by kernel_rfl) Try.func8 (by kernel_rfl)
    (of_decide_eq_true (by kernel_rfl)) (by unfold Func.isWrapper; first | (rw [if_pos (by decide +kernel)]; kernel_rfl) | (rw [if_neg (by decide +kernel)]; exact ⟨rfl, rfl⟩))
    (fun os started H enc _ => torn_lifted os started H enc)
#print axioms torn_holds
end Go.Proofs.Ytbjkefodlnkaeaa
