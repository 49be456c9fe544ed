/- DiceRolls: every roll, every word that is stirred, every chance is the document's. No condition. -/
import Derived.Test.YtbeejcajjgghaaaOpen
namespace Go.Proofs.Ytbeejcajjgghaaa
open Go.ChangeShapes Go.WideShapes Go.ChangeAt Go.RowKit

set_option maxHeartbeats 1000000 in
theorem rolls_walk (a b c n z : Int) (A : Option Addr) (len cap : Nat) (w : World) (hz : 0 ≤ z) (hz2 : z < 18446744073709551616) (hn : n ≤ 9223372036854775807) :
    Calls Try.prog 3 #[.agg #[.int .i64 a, .int .i64 b, .int .i64 c, .int .i64 n, .int .u64 z, .slice A len cap]] w fun e w' => e = .returned (.bool true) ∧ Below w.heap.size w w' := by
  have HZ := Lib.hid hz2
  clear hz2
  have hb0 := Lib.hid ((Below.refl w.heap.size w).alloc (Nat.le_refl _) (.cells #[.int .i64 a, .int .i64 b, .int .i64 c, .int .i64 n, .int .u64 z, .slice A len cap] 25))
  go_enter Try.func3, Try.ntmps3
  go_wp2_with fail
  go_quiet (fail)
  go_wp2_with fail
  refine (awake_any _).mono ?_
  rintro e w1 ⟨rfl, hb⟩
  have HB : Hid (Below w.heap.size w w1) := Lib.hid ((below_drewN hb0.out nq).trans (hb.mono (by simp)))
  clear hb hb0
  go_wp2_with fail
  refine (stir_any z _ hz).mono ?_
  rintro e w' ⟨rfl, rfl⟩
  go_wp2_with fail
  refine (rstir_any z _ hz HZ.out).mono ?_
  rintro e w' ⟨rfl, rfl⟩
  go_wp2_with fail
  refine (roll_any _ _ _ _).mono ?_
  rintro e w' ⟨rfl, rfl⟩
  go_wp2_with fail
  refine (rroll_any _ _ _ _).mono ?_
  rintro e w' ⟨rfl, rfl⟩
  go_wp2_with fail
  refine (below_any z n _ hz hn).mono ?_
  rintro e w' ⟨rfl, rfl⟩
  go_wp2_with fail
  refine (rbelow_any z n _ hz HZ.out hn).mono ?_
  rintro e w' ⟨rfl, rfl⟩
  go_wp2_with fail
  go_ret
  exact ⟨rfl, HB.out⟩

theorem rolls_law : Frame.LawCalls 3 Try.f3 := by
  intro H enc W base args ds p hval hA _ _ _
  rw [Try.params3] at hA hval
  obtain ⟨v0, vs0, d0, ds0, p0, q0, hargs, rfl, rfl, h0, r0⟩ := trodAll_cons hA
  obtain ⟨rfl, rfl, rfl⟩ := trodAll_nil r0
  obtain rfl : args = #[v0] := by cases args; simp_all
  obtain ⟨a, b, c, n, z, A, len, cap, zs, rfl, wa, wb, wc, wn, wz, hi⟩ := five_args (hval 0 25 v0 rfl rfl) h0
  have hz := bounds_u64 wz
  exact rolls_walk a b c n z A len cap W hz.1 (by omega) (bounds_i64 wn).2

set_option maxRecDepth 100000 in
theorem rolls_lifted (os : Os) (started : os.Started) (H : Type) (enc : TypeId × Value → H) :
    ReturnsInHanded {} Try.checked os 3 .any (Rows.diceRollsSpec.pre6 enc Try.prog Try.f3 Rows.diceRollsRow.domain false) (Rows.diceRollsSpec.post enc Try.prog Try.f3 false true false false) :=
  Frame.lifted (s := Rows.diceRollsSpec) (by kernel_rfl) Try.func3 (by kernel_rfl) rfl (tb := 4) (by kernel_rfl) Try.underlying4
    (fun H ds h => by
      obtain ⟨d, rfl⟩ := one_datum ds h
      rfl) rolls_law os started H enc
    (ChangeSpec.witness6 (enc := enc) (C := Try.checked) false ⟨#[], #[.agg #[.int .i64 0, .int .i64 0, .int .i64 0, .int .i64 0, .int .u64 0, .slice none 0 0]], []⟩ 8 (by kernel_rfl) (by kernel_rfl) (by kernel_rfl) (by kernel_rfl))
theorem rolls_holds : Rows.DiceRollsSaid :=
  OpenClaim.holds_of_wide 3 Try.f3 rfl rfl rfl rfl rfl rfl rfl ⟨rfl, rfl, rfl, rfl, rfl⟩ rfl rfl rfl rfl rfl (by kernel_rfl) Try.func3 (by kernel_rfl)
    (of_decide_eq_true (by kernel_rfl)) (by unfold Func.isWrapper; first | (rw [if_pos (by decide +kernel)]; kernel_rfl) | (rw [if_neg (by decide +kernel)]; exact ⟨rfl, rfl⟩))
    (fun os started H enc _ => rolls_lifted os started H enc)
#print axioms rolls_holds
end Go.Proofs.Ytbeejcajjgghaaa
