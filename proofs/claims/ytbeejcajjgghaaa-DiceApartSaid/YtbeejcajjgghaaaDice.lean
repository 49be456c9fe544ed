/- What the calls Next and Count of dice do, and that the laws' common opening is met. Conditions: the dice lie in a block of two cells. -/
import Derived.Test.YtbeejcajjgghaaaWalks
namespace Go.Proofs.Ytbeejcajjgghaaa
open Go.RowKit

set_option maxHeartbeats 400000 in
theorem next_nil (n : Int) (w : World) : Calls Try.prog 17 #[.pointer none, .int .i64 n] w fun e w' => e = .returned (.tuple #[.int .i64 0, .bool false]) ∧ w = w' := by
  go_enter Try.func17, Try.ntmps17
  go_wp2_with fail
  go_ret2
  exact ⟨rfl, rfl⟩
set_option maxHeartbeats 400000 in
theorem next_less (g : Nat) (n : Int) (w : World) (hn : n < 1) : Calls Try.prog 17 #[.pointer (some ⟨g, 0, none⟩), .int .i64 n] w fun e w' => e = .returned (.tuple #[.int .i64 0, .bool false]) ∧ w = w' := by
  go_enter Try.func17, Try.ntmps17
  go_wp2_with fail
  go_ret2
  exact ⟨rfl, rfl⟩
set_option maxHeartbeats 400000 in
theorem next_more (g : Nat) (z c n : Int) (w : World) (h : Die w g z c) (hn : 1 ≤ n) (hn2 : n ≤ 9223372036854775807) : Calls Try.prog 17 #[.pointer (some ⟨g, 0, none⟩), .int .i64 n] w fun e w' =>
    e = .returned (.tuple #[.int .i64 (belowI (stepI z c) n), .bool true]) ∧ ∃ k, (w.drewN k).setCell ⟨g, 1, none⟩ (.int .i64 (wrap64 (c + 1))) = w' := by
  have hmf : ∀ (fn : Fn) (first cap : Array Value) (w : World), (Instr.makeFunc fn first cap).run Try.prog w = .ok (.func fn first cap) w := fun _ _ _ _ => rfl
  go_enter Try.func17, Try.ntmps17
  go_wp2_with fail
  refine (spin_any g z c w h).mono ?_
  rintro e w' ⟨rfl, k, rfl⟩
  go_wp2_with fail
  refine (below_any _ _ _ (step_bd _ _).1 hn2).mono ?_
  rintro e w' ⟨rfl, rfl⟩
  go_wp2_with fail
  go_ret2
  exact ⟨rfl, k, rfl⟩
set_option maxHeartbeats 400000 in
theorem count_nil (w : World) : Calls Try.prog 18 #[.pointer none] w fun e w' => e = .returned (.int .i64 0) ∧ w = w' := by
  go_enter Try.func18, Try.ntmps18
  go_wp2_with fail
  go_ret
  exact ⟨rfl, rfl⟩
set_option maxHeartbeats 400000 in
theorem count_any (g : Nat) (z c : Int) (w : World) (h : Die w g z c) : Calls Try.prog 18 #[.pointer (some ⟨g, 0, none⟩)] w fun e w' => e = .returned (.int .i64 c) ∧ w = w' := by
  have h1 := h.count
  go_enter Try.func18, Try.ntmps18
  go_wp2_with fail
  go_ret
  exact ⟨rfl, rfl⟩

theorem die_new (s p c : Int) (w : World) : Die (w.alloc (.cells #[.int .u64 (stepI (IntKind.u64.wrap s) p), .int .i64 c] 45)) w.heap.size (stepI (IntKind.u64.wrap s) p) c := heap_alloc_new w _

/-- the world behind New and one Next -/
theorem once (s p c c' : Int) (w : World) (k : Nat) :
    ∃ W : World, W = ((w.alloc (.cells #[.int .u64 (stepI (IntKind.u64.wrap s) p), .int .i64 c] 45)).drewN k).setCell ⟨w.heap.size, 1, none⟩ (.int .i64 c') ∧ Die W w.heap.size (stepI (IntKind.u64.wrap s) p) c' ∧ Below w.heap.size w W :=
  ⟨_, rfl, (die_new s p c w).store k c', (below_drewN ((Below.refl w.heap.size w).alloc (Nat.le_refl _) _) k).setCell (p := ⟨w.heap.size, 1, none⟩) (Nat.le_refl _) _⟩

set_option maxHeartbeats 1000000 in
theorem awake_any (w : World) : Calls Try.prog 9 #[] w fun e w' => e = .returned (.bool true) ∧ Below w.heap.size w w' := by
  have hd := die_new 1 2 5 w
  have he0 := Lib.hid (show stirI 0 = 0 by decide +kernel)
  go_enter Try.func9, Try.ntmps9
  go_wp2_with fail
  refine (new_any 1 2 5 w).mono ?_
  rintro e w' ⟨rfl, rfl⟩
  go_wp2_with fail
  refine (next_more _ _ _ 1000 _ hd (by omega) (by omega)).mono ?_
  rintro e w' ⟨rfl, k, hk⟩
  obtain ⟨W, hW, hs, hb⟩ := once 1 2 5 (wrap64 (5 + 1)) w k
  obtain rfl : W = w' := hW.trans hk
  clear hk hW hd
  rw [show wrap64 (5 + 1) = 6 from by unfold wrap64; omega] at hs
  have hs6 : Die W w.heap.size (stepI (IntKind.u64.wrap 1) 2) 6 := hs
  clear hs
  have HB := Lib.hid hb
  clear hb
  go_wp2_with fail
  refine (stir_any 0 _ (by omega)).mono ?_
  rintro e w' ⟨rfl, rfl⟩
  rw [he0.out]
  go_wp2_with fail
  refine (rroll_any 1 2 5 _).mono ?_
  rintro e w' ⟨rfl, rfl⟩
  go_wp2_with fail
  refine (rbelow_any _ 1000 _ (roll_bd _ _ _).1 (roll_bd _ _ _).2 (by omega)).mono ?_
  rintro e w' ⟨rfl, rfl⟩
  have e1 : stepI (stepI (IntKind.u64.wrap 1) 2) 5 = rollI 1 2 5 := rfl
  rw [e1]
  go_wp2_with fail
  refine (count_any _ _ _ _ hs6).mono ?_
  rintro e w' ⟨rfl, rfl⟩
  go_wp2_with fail
  refine (roll_any 1 2 3 _).mono ?_
  rintro e w' ⟨rfl, rfl⟩
  go_wp2_with fail
  refine (rroll_any 1 2 3 _).mono ?_
  rintro e w' ⟨rfl, rfl⟩
  go_wp2_with fail
  go_ret
  exact ⟨rfl, HB.out⟩
end Go.Proofs.Ytbeejcajjgghaaa
