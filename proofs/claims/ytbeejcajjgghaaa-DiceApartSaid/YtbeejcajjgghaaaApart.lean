/- DiceApart: unlike words are stirred to unlike ones, unlike counts have unlike rolls: for every two words of 64 bits, every seed, process and two counts. No condition. -/
import Derived.Test.YtbeejcajjgghaaaOpen
namespace Go.Proofs.Ytbeejcajjgghaaa
open Go.ChangeShapes Go.WideShapes Go.ChangeAt Go.RowKit

theorem stir_same (a b : Int) (ha : U64 a) (hb : U64 b) : (stirI a == stirI b) = (a == b) := by
  rw [Bool.eq_iff_iff, beq_iff_eq, beq_iff_eq]
  exact ⟨stir_inj a b ha hb, fun h => by rw [h]⟩
theorem roll_same (s q n m : Int) (hn : -9223372036854775808 ≤ n ∧ n ≤ 9223372036854775807) (hm : -9223372036854775808 ≤ m ∧ m ≤ 9223372036854775807) : (rollI s q n == rollI s q m) = (n == m) := by
  rw [Bool.eq_iff_iff, beq_iff_eq, beq_iff_eq]
  exact ⟨step_inj _ n m hn hm, fun h => by rw [h]⟩

set_option maxHeartbeats 1000000 in
theorem apart_walk (a b s q n m : Int) (w : World) (ha : 0 ≤ a) (hb : 0 ≤ b) (h1 : Hid ((stirI a == stirI b) = (a == b))) (h2 : Hid ((rollI s q n == rollI s q m) = (n == m))) :
    Calls Try.prog 7 #[.agg #[.int .u64 a, .int .u64 b, .int .i64 s, .int .i64 q, .int .i64 n, .int .i64 m]] w fun e w' => e = .returned (.bool true) ∧ Below w.heap.size w w' := by
  have hb0 := Lib.hid ((Below.refl w.heap.size w).alloc (Nat.le_refl _) (.cells #[.int .u64 a, .int .u64 b, .int .i64 s, .int .i64 q, .int .i64 n, .int .i64 m] 38))
  go_enter Try.func7, Try.ntmps7
  go_wp2_with fail
  go_quiet (fail)
  go_wp2_with fail
  refine (awake_any _).mono ?_
  rintro e w1 ⟨rfl, hb1⟩
  have HB : Hid (Below w.heap.size w w1) := Lib.hid ((below_drewN hb0.out nq).trans (hb1.mono (by simp)))
  clear hb1 hb0
  go_wp2_with fail
  refine (stir_any a _ ha).mono ?_
  rintro e w' ⟨rfl, rfl⟩
  go_wp2_with fail
  refine (stir_any b _ hb).mono ?_
  rintro e w' ⟨rfl, rfl⟩
  have h1' := h1.out
  go_wp2_with fail
  refine (roll_any _ _ _ _).mono ?_
  rintro e w' ⟨rfl, rfl⟩
  go_wp2_with fail
  refine (roll_any _ _ _ _).mono ?_
  rintro e w' ⟨rfl, rfl⟩
  have h2' := h2.out
  go_wp2_with fail
  go_ret
  exact ⟨rfl, HB.out⟩

theorem apart_law : Frame.LawCalls 7 Try.f7 := by
  intro H enc W base args ds p hval hA _ _ _
  rw [Try.params7] at hA hval
  obtain ⟨v0, vs0, d0, ds0, p0, q0, hargs, rfl, rfl, h0, r0⟩ := trodAll_cons hA
  obtain ⟨rfl, rfl, rfl⟩ := trodAll_nil r0
  obtain rfl : args = #[v0] := by cases args; simp_all
  obtain ⟨a, b, s, q, n, m, rfl, wa, wb, ws, wq, wn, wm⟩ := six_args (hval 0 38 v0 rfl rfl) h0
  have ba := bounds_u64 wa
  have bb := bounds_u64 wb
  exact apart_walk a b s q n m W ba.1 bb.1 (Lib.hid (stir_same a b ⟨ba.1, by omega⟩ ⟨bb.1, by omega⟩)) (Lib.hid (roll_same s q n m (bounds_i64 wn) (bounds_i64 wm)))

set_option maxRecDepth 100000 in
theorem apart_lifted (os : Os) (started : os.Started) (H : Type) (enc : TypeId × Value → H) :
    ReturnsInHanded {} Try.checked os 7 .any (Rows.diceApartSpec.pre6 enc Try.prog Try.f7 Rows.diceApartRow.domain false) (Rows.diceApartSpec.post enc Try.prog Try.f7 false true false false) :=
  Frame.lifted (s := Rows.diceApartSpec) (by kernel_rfl) Try.func7 (by kernel_rfl) rfl (tb := 4) (by kernel_rfl) Try.underlying4
    (fun H ds h => by
      obtain ⟨d, rfl⟩ := one_datum ds h
      rfl) apart_law os started H enc
    (ChangeSpec.witness6 (enc := enc) (C := Try.checked) false ⟨#[], #[.agg #[.int .u64 0, .int .u64 0, .int .i64 0, .int .i64 0, .int .i64 0, .int .i64 0]], []⟩ 8 (by kernel_rfl) (by kernel_rfl) (by kernel_rfl) (by kernel_rfl))
theorem apart_holds : Rows.DiceApartSaid :=
  OpenClaim.holds_of_wide 7 Try.f7 rfl rfl rfl rfl rfl rfl rfl ⟨rfl, rfl, rfl, rfl, rfl⟩ rfl rfl rfl rfl rfl (by kernel_rfl) Try.func7 (by kernel_rfl)
    (of_decide_eq_true (by kernel_rfl)) (by unfold Func.isWrapper; first | (rw [if_pos (by decide +kernel)]; kernel_rfl) | (rw [if_neg (by decide +kernel)]; exact ⟨rfl, rfl⟩))
    (fun os started H enc _ => apart_lifted os started H enc)
#print axioms apart_holds
end Go.Proofs.Ytbeejcajjgghaaa
