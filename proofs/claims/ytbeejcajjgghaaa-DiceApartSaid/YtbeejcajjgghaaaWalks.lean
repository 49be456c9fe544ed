/- What each call on dice does: the words and rolls as numbers, the dice as a block of two cells. Conditions: each word lies in 64 bits, each count in an int. -/
import Derived.Test.YtbeejcajjgghaaaRows
import Derived.Test.YtbeejcajjgghaaaPlain
import Derived.WalkKit
import Derived.WalkSpells
import Derived.WalkLawsBesides
import Derived.Lib.Hide
import Derived.Deep.QuietTactic
import Derived.BigQuiet
namespace Go.Proofs.Ytbeejcajjgghaaa
open Go.RowKit

theorem ret_u64 {k : IntKind} {a b : Int} (h : a = b) : Ending.returned (.int k a) = .returned (.int k b) := by rw [h]

/-- a contract that leaves the world alone, turned round -/
theorem same_of {P : Program} {f : FuncId} {args : Array Value} {w : World} {v : Value} (h : Calls P f args w fun e w' => e = .returned v ∧ w = w') :
    Calls P f args w fun e w' => e = .returned v ∧ w' = w := h.mono fun _ _ hh => ⟨hh.1, hh.2.symm⟩

set_option maxHeartbeats 400000 in
theorem stir_any (z : Int) (w : World) (_hz : 0 ≤ z) : Calls Try.prog 10 #[.int .u64 z] w fun e w' => e = .returned (.int .u64 (stirI z)) ∧ w = w' := by
  go_enter Try.func10, Try.ntmps10
  go_wp2
  go_ret
  exact ⟨rfl, rfl⟩

theorem stir_ref (z : Int) : bits .xor .u64 (IntKind.u64.wrap (bits .xor .u64 (IntKind.u64.wrap (bits .xor .u64 z (z / 1073741824) * 13787848793156543929)) (IntKind.u64.wrap ((IntKind.u64.wrap (bits .xor .u64 z (z / 1073741824) * 13787848793156543929)).tdiv 134217728)) * 10723151780598845931))
    (IntKind.u64.wrap ((IntKind.u64.wrap (bits .xor .u64 (IntKind.u64.wrap (bits .xor .u64 z (z / 1073741824) * 13787848793156543929)) (IntKind.u64.wrap ((IntKind.u64.wrap (bits .xor .u64 z (z / 1073741824) * 13787848793156543929)).tdiv 134217728)) * 10723151780598845931)).tdiv 2147483648)) = stirI z := by
  rw [wrap_tdiv _ 134217728 (wrap_bd _) (by omega), wrap_tdiv _ 2147483648 (wrap_bd _) (by omega)]
  unfold stirI
  exact rfl
set_option maxHeartbeats 400000 in
theorem rstir_any (z : Int) (w : World) (_hz : 0 ≤ z) (_hz2 : z < 18446744073709551616) : Calls Try.prog 11 #[.int .u64 z] w fun e w' => e = .returned (.int .u64 (stirI z)) ∧ w = w' := by
  have H := Lib.hid (stir_ref z)
  go_enter Try.func11, Try.ntmps11
  go_wp2
  go_ret
  exact ⟨ret_u64 H.out, rfl⟩

set_option maxHeartbeats 400000 in
theorem step_any (z n : Int) (w : World) : Calls Try.prog 19 #[.int .u64 z, .int .i64 n] w fun e w' => e = .returned (.int .u64 (stepI z n)) ∧ w = w' := by
  go_enter Try.func19, Try.ntmps19
  go_wp2_with fail
  refine (stir_any _ _ (wrap_bd _).1).mono ?_
  rintro e w' ⟨rfl, rfl⟩
  go_wp2_with fail
  go_ret
  exact ⟨rfl, rfl⟩

set_option maxHeartbeats 400000 in
theorem roll_any (s p c : Int) (w : World) : Calls Try.prog 12 #[.int .i64 s, .int .i64 p, .int .i64 c] w fun e w' => e = .returned (.int .u64 (rollI s p c)) ∧ w = w' := by
  go_enter Try.func12, Try.ntmps12
  go_wp2_with fail
  refine (step_any _ _ _).mono ?_
  rintro e w' ⟨rfl, rfl⟩
  go_wp2_with fail
  refine (step_any _ _ _).mono ?_
  rintro e w' ⟨rfl, rfl⟩
  go_wp2_with fail
  go_ret
  exact ⟨rfl, rfl⟩

set_option maxHeartbeats 400000 in
theorem word_any (s p : Int) (w : World) : Calls Try.prog 20 #[.int .i64 s, .int .i64 p] w fun e w' => e = .returned (.int .u64 (stepI (IntKind.u64.wrap s) p)) ∧ w = w' := by
  go_enter Try.func20, Try.ntmps20
  go_wp2_with fail
  refine (rstir_any _ _ (wrap_bd _).1 (wrap_bd _).2).mono ?_
  rintro e w' ⟨rfl, rfl⟩
  go_wp2_with fail
  go_ret
  exact ⟨rfl, rfl⟩

set_option maxHeartbeats 400000 in
theorem rroll_any (s p c : Int) (w : World) : Calls Try.prog 13 #[.int .i64 s, .int .i64 p, .int .i64 c] w fun e w' => e = .returned (.int .u64 (rollI s p c)) ∧ w = w' := by
  go_enter Try.func13, Try.ntmps13
  go_wp2_with fail
  refine (word_any _ _ _).mono ?_
  rintro e w' ⟨rfl, rfl⟩
  go_wp2_with fail
  refine (rstir_any _ _ (wrap_bd _).1 (wrap_bd _).2).mono ?_
  rintro e w' ⟨rfl, rfl⟩
  go_wp2_with fail
  go_ret
  exact ⟨rfl, rfl⟩

/-- the number is none: the chance is 0 -/
theorem chance (z n : Int) (h : 1 ≤ n) (hn : n ≤ 9223372036854775807) : wrap64 (z % n) = belowI z n := by
  rw [below_more z n h]
  have h1 := Int.emod_nonneg z (show n ≠ 0 by omega)
  have h2 := Int.emod_lt_of_pos z (show 0 < n by omega)
  exact IntWalk.wrap64_in _ ⟨by omega, by omega⟩
theorem chance_ref (z n : Int) (hz : 0 ≤ z) (hz2 : z < 18446744073709551616) (h : 1 ≤ n) (hn : n ≤ 9223372036854775807) :
    wrap64 (IntKind.u64.wrap (z - IntKind.u64.wrap (IntKind.u64.wrap (z.tdiv n) * n))) = belowI z n := by
  rw [wrap_tdiv z n ⟨hz, hz2⟩ (by omega)]
  have h1 := Int.emod_nonneg z (show n ≠ 0 by omega)
  have h2 := Int.emod_lt_of_pos z (show 0 < n by omega)
  have h3 := Int.mul_ediv_add_emod z n
  rw [Int.mul_comm] at h3
  rw [wrap_in (z / n * n) ⟨Int.mul_nonneg (Int.ediv_nonneg hz (by omega)) (by omega), by omega⟩]
  rw [show z - z / n * n = z % n from by omega, wrap_in (z % n) ⟨h1, by omega⟩]
  exact chance z n h hn
set_option maxHeartbeats 400000 in
theorem below_any (z n : Int) (w : World) (_hz : 0 ≤ z) (hn : n ≤ 9223372036854775807) : Calls Try.prog 14 #[.int .u64 z, .int .i64 n] w fun e w' => e = .returned (.int .i64 (belowI z n)) ∧ w = w' := by
  by_cases h : n < 1
  · have H := Lib.hid (below_less z n h)
    go_enter Try.func14, Try.ntmps14
    go_wp2_with fail
    go_ret
    exact ⟨ret_u64 H.out.symm, rfl⟩
  · have h1 : 1 ≤ n := by omega
    have H := Lib.hid (chance z n h1 hn)
    have e := wrap_in n ⟨by omega, by omega⟩
    have e0 : (n == 0) = false := by rw [beq_eq_false_iff_ne]; omega
    clear h hn
    go_enter Try.func14, Try.ntmps14
    go_wp2_with fail
    go_ret
    exact ⟨ret_u64 H.out, rfl⟩
set_option maxHeartbeats 400000 in
theorem rbelow_any (z n : Int) (w : World) (hz : 0 ≤ z) (hz2 : z < 18446744073709551616) (hn : n ≤ 9223372036854775807) : Calls Try.prog 15 #[.int .u64 z, .int .i64 n] w fun e w' => e = .returned (.int .i64 (belowI z n)) ∧ w = w' := by
  by_cases h : n < 1
  · have H := Lib.hid (below_less z n h)
    go_enter Try.func15, Try.ntmps15
    go_wp2_with fail
    go_ret
    exact ⟨ret_u64 H.out.symm, rfl⟩
  · have h1 : 1 ≤ n := by omega
    have H := Lib.hid (chance_ref z n hz hz2 h1 hn)
    have e := wrap_in n ⟨by omega, by omega⟩
    have e0 : (n == 0) = false := by rw [beq_eq_false_iff_ne]; omega
    clear h hn hz2
    go_enter Try.func15, Try.ntmps15
    go_wp2_with fail
    go_ret
    exact ⟨ret_u64 H.out, rfl⟩

/-- dice in a block: the word, the next count -/
def Die (w : World) (g : Nat) (z c : Int) : Prop := w.heap[g]? = some (.cells #[.int .u64 z, .int .i64 c] 45 (0, 0))
theorem Die.word {w : World} {g : Nat} {z c : Int} (h : Die w g z c) : w.cell? ⟨g, 0, none⟩ = some (.int .u64 z) := cell_of_row w g 0 _ 45 (0, 0) h
theorem Die.count {w : World} {g : Nat} {z c : Int} (h : Die w g z c) : w.cell? ⟨g, 1, none⟩ = some (.int .i64 c) := cell_of_row w g 1 _ 45 (0, 0) h
theorem Die.free {w : World} {g : Nat} {z c : Int} (h : Die w g z c) (j : Nat) : w.frozen? ⟨g, j, none⟩ = false := frozen_of_row w g j _ 45 h
theorem Die.lt {w : World} {g : Nat} {z c : Int} (h : Die w g z c) : g < w.heap.size := lt_of_block h
theorem Die.store {w : World} {g : Nat} {z c : Int} (h : Die w g z c) (n : Nat) (c' : Int) : Die ((w.drewN n).setCell ⟨g, 1, none⟩ (.int .i64 c')) g z c' := by
  have h' : (w.drewN n).heap[g]? = some (.cells #[.int .u64 z, .int .i64 c] 45 (0, 0)) := h
  unfold Die
  rw [heap_setCell_same _ g 1 _ 45 _ h']
  rfl
theorem Die.below {w w' : World} {g : Nat} {z c : Int} (h : Die w g z c) {B : Nat} (hb : Below B w w') (hg : g < B) : Die w' g z c := (hb.block g hg).trans h

set_option maxHeartbeats 400000 in
theorem new_any (s p c : Int) (w : World) : Calls Try.prog 16 #[.int .i64 s, .int .i64 p, .int .i64 c] w fun e w' =>
    e = .returned (.pointer (some ⟨w.heap.size, 0, none⟩)) ∧ w.alloc (.cells #[.int .u64 (stepI (IntKind.u64.wrap s) p), .int .i64 c] 45) = w' := by
  go_enter Try.func16, Try.ntmps16
  go_wp2_with fail
  refine (step_any _ _ _).mono ?_
  rintro e w' ⟨rfl, rfl⟩
  go_wp2_with fail
  go_ret
  exact ⟨rfl, rfl⟩

set_option maxHeartbeats 400000 in
theorem spin_any (g : Nat) (z c : Int) (w : World) (h : Die w g z c) : Calls Try.prog 21 #[.pointer (some ⟨g, 0, none⟩)] w fun e w' =>
    e = .returned (.int .u64 (stepI z c)) ∧ ∃ n, (w.drewN n).setCell ⟨g, 1, none⟩ (.int .i64 (wrap64 (c + 1))) = w' := by
  have h0 := h.word
  have h1 := h.count
  have hf := h.free 1
  go_enter Try.func21, Try.ntmps21
  go_wp2_with fail
  go_quiet ((go_at_call 19; exact Calls.quiet_of_same (same_of (step_any _ _ _))))
  go_wp2_with fail
  go_ret
  exact ⟨rfl, nq, rfl⟩
end Go.Proofs.Ytbeejcajjgghaaa
