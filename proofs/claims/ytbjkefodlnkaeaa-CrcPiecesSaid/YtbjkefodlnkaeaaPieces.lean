/- CrcPieces: in whatever pieces bytes come, the check is that of all: for every list of texts. No condition. -/
import Derived.Test.YtbjkefodlnkaeaaCrcPieces
namespace Go.Proofs.Ytbjkefodlnkaeaa
open Go.ChangeShapes Go.WideShapes Go.ChangeAt Go.RowKit Go.ChangeMaps

theorem pieces_law : Frame.LawCalls 4 Try.f4 := by
  intro H enc W base args ds p hval hA _ _ _
  rw [Try.params4] at hA hval
  obtain ⟨v0, vs0, d0, ds0, p0, q0, hargs, rfl, rfl, h0, r0⟩ := trodAll_cons hA
  obtain ⟨rfl, rfl, rfl⟩ := trodAll_nil r0
  obtain rfl : args = #[v0] := by cases args; simp_all
  obtain ⟨a0, len0, cap0, rfl⟩ := okWide_slice Try.underlying27 (hval 0 27 v0 rfl rfl)
  obtain ⟨fuel, hf⟩ := h0
  obtain ⟨A, len, cap, ss, hc, hi⟩ := strs_part hf
  rw [hc]
  have hl := hi.1
  rw [max_is] at hl
  exact pieces_walk A len cap ss W hl (Lib.hid hi)

set_option maxRecDepth 100000 in
theorem pieces_lifted (os : Os) (started : os.Started) (H : Type) (enc : TypeId × Value → H) :
    ReturnsInHanded {} Try.checked os 4 .any (Rows.crcPiecesSpec.pre6 enc Try.prog Try.f4 Rows.crcPiecesRow.domain false) (Rows.crcPiecesSpec.post enc Try.prog Try.f4 false true false false) :=
  Frame.lifted (s := Rows.crcPiecesSpec) (by kernel_rfl) Try.func4 (by kernel_rfl) rfl (tb := 4) (by kernel_rfl) Try.underlying4
    (fun H ds h => by
      obtain ⟨d, rfl⟩ := one_datum ds h
      rfl) pieces_law os started H enc
    (ChangeSpec.witness6 (enc := enc) (C := Try.checked) false ⟨#[], #[.slice none 0 0], []⟩ 8 (by kernel_rfl) (by kernel_rfl) (by kernel_rfl) (by kernel_rfl))
theorem pieces_holds : Rows.CrcPiecesSaid :=
  OpenClaim.holds_of_wide 4 Try.f4 rfl rfl rfl rfl rfl rfl rfl ⟨rfl, rfl, rfl, rfl, rfl⟩ rfl rfl rfl rfl rfl (by kernel_rfl) Try.func4 (by kernel_rfl)
    (of_decide_eq_true (by kernel_rfl)) (by unfold Func.isWrapper; first | (rw [if_pos (by decide +kernel)]; kernel_rfl) | (rw [if_neg (by decide +kernel)]; exact ⟨rfl, rfl⟩))
    (fun os started H enc _ => pieces_lifted os started H enc)
#print axioms pieces_holds

end Go.Proofs.Ytbjkefodlnkaeaa
