/- The small calls of the law's file, and what must come at any rate. Conditions: lists lie in memory. -/
import Derived.Test.YtbjkefodlnkaeaaRootNewer
import Derived.Outline
namespace Go.Proofs.Ytbjkefodlnkaeaa
open Go.RowKit

set_option maxRecDepth 100000 in
set_option maxHeartbeats 4000000 in
theorem ints_same {w : World} {A B : Option Addr} {len cap cap2 : Nat} {T : List Int} (h : Ints w.heap.size w A len cap T) (h2 : Ints w.heap.size w B len cap2 T) :
    Calls Try.prog 36 #[.slice A len cap, .slice B len cap2] w fun e w' => e = .returned (.bool true) ∧ ∃ n, w' = w.drewN n := by
  have hc := h.big
  have hl := h.le
  have hc2 := h2.big
  have hl2 := h2.le
  have H1 := Lib.hid h
  have H2 := Lib.hid h2
  clear h h2
  go_enter Try.func36, Try.ntmps36
  go_wp2_with fail
  go_loopw [5] (fun x wr => ∃ j : Nat, j ≤ len ∧ x = .int .i64 j ∧ Hid (∃ n, wr = w.drewN n)) (fun x _ => len - (intOf x).toNat)
  case atStart => exact ⟨0, Nat.zero_le _, rfl, Lib.hid ⟨0, by rw [World.drewN_zero]⟩⟩
  case round =>
    obtain ⟨j, hj, rfl, hR⟩ := hrel
    obtain ⟨m, rfl⟩ := hR.out
    clear hR
    by_cases hlt : j < len
    · have hltI : (j : Int) < (len : Int) := by omega
      obtain ⟨ad, e0, _, q0⟩ := H1.out.at_ j hlt
      obtain ⟨bd, e1, _, q1⟩ := H2.out.at_ j hlt
      subst e0
      subst e1
      generalize T.getD j 0 = q at *
      have q2 : ∀ k, (w.drewN k).cell? (ad.add j) = some (.int .i64 q) := fun _ => q0
      have q3 : ∀ k, (w.drewN k).cell? (bd.add j) = some (.int .i64 q) := fun _ => q1
      have g0 : 0 ≤ (j : Int) := by omega
      have g2 : (j : Int).toNat = j := by omega
      go_wp2_with fail
      go_quiet (fail)
      go_wp2_with fail
      go_roundw
      case rel => exact ⟨j + 1, by omega, by go_num, Lib.hid ⟨_, rfl⟩⟩
      case measure => simp [intOf]; omega
    · obtain rfl : j = len := by omega
      go_wp2_with fail
      go_ret
      exact ⟨rfl, m, rfl⟩
theorem box38 (w : World) (a b c : Value) {w' : World} (hb : Below (w.heap.size + 1) (w.alloc (.cells #[a, b, c] 38 (0, 0))) w') :
    w'.cell? ⟨w.heap.size, 0, none⟩ = some a ∧ w'.cell? ⟨w.heap.size, 1, none⟩ = some b ∧ w'.cell? ⟨w.heap.size, 2, none⟩ = some c := by
  have h := (hb.block w.heap.size (Nat.lt_succ_self _)).trans (heap_alloc_new w _)
  exact ⟨by rw [cell_of_row _ _ _ _ _ _ h]; rfl, by rw [cell_of_row _ _ _ _ _ _ h]; rfl, by rw [cell_of_row _ _ _ _ _ _ h]; rfl⟩
set_option maxRecDepth 100000 in
set_option maxHeartbeats 2000000 in
theorem to_any (e l : Int) (A : Option Addr) (len cap : Nat) (w : World) :
    Calls Try.prog 20 #[rootV e l A len cap] w fun en w' => en = .returned (rootV e l A len cap) ∧ Below w.heap.size w w' := by
  unfold rootV
  go_enter Try.func20, Try.ntmps20
  go_wp2_with fail
  refine bodyPost_ret (v := rootV e l A len cap) (by unfold rootV; simp [results, Try.results20, go_sem]) rfl ⟨rfl, ?_⟩
  exact ((Below.refl _ _).alloc (Nat.le_refl _) _).alloc (by simp) _
set_option maxRecDepth 100000 in
set_option maxHeartbeats 2000000 in
theorem of_any (e l : Int) (A : Option Addr) (len cap : Nat) (w : World) :
    Calls Try.prog 23 #[rootV e l A len cap] w fun en w' => en = .returned (rootV e l A len cap) ∧ Below w.heap.size w w' := by
  unfold rootV
  go_enter Try.func23, Try.ntmps23
  go_wp2_with fail
  refine bodyPost_ret (v := rootV e l A len cap) (by unfold rootV; simp [results, Try.results23, go_sem]) rfl ⟨rfl, ?_⟩
  exact ((Below.refl _ _).alloc (Nat.le_refl _) _).alloc (by simp) _
set_option maxRecDepth 100000 in
set_option maxHeartbeats 2000000 in
theorem same_yes {w : World} {A B : Option Addr} {len cap cap2 : Nat} {T : List Int} (e l : Int) (h : Ints w.heap.size w A len cap T) (h2 : Ints w.heap.size w B len cap2 T) :
    Calls Try.prog 22 #[rootV e l A len cap, rootV e l B len cap2] w fun en w' => en = .returned (.bool true) ∧ Below w.heap.size w w' := by
  have hb : Below w.heap.size w ((w.alloc (.cells #[.int .i64 e, .int .i64 l, .slice A len cap] 38 (0, 0))).alloc (.cells #[.int .i64 e, .int .i64 l, .slice B len cap2] 38 (0, 0))) :=
    ((Below.refl _ _).alloc (Nat.le_refl _) _).alloc (by simp) _
  have HI := Lib.hid (ints_same (h.to hb) (h2.to hb))
  have HB := Lib.hid hb
  clear h h2 hb
  unfold rootV
  go_enter Try.func22, Try.ntmps22
  go_wp2_with fail
  refine HI.out.mono ?_
  rintro en w2 ⟨rfl, n, rfl⟩
  go_wp2_with fail
  go_ret
  exact ⟨rfl, below_drewN HB.out n⟩
set_option maxRecDepth 100000 in
set_option maxHeartbeats 2000000 in
theorem same_no {w : World} {A B : Option Addr} {len cap len2 cap2 : Nat} (e l f m : Int) (hne : ¬ e = f) :
    Calls Try.prog 22 #[rootV e l A len cap, rootV f m B len2 cap2] w fun en w' => en = .returned (.bool false) ∧ Below w.heap.size w w' := by
  have hb : Below w.heap.size w ((w.alloc (.cells #[.int .i64 e, .int .i64 l, .slice A len cap] 38 (0, 0))).alloc (.cells #[.int .i64 f, .int .i64 m, .slice B len2 cap2] 38 (0, 0))) :=
    ((Below.refl _ _).alloc (Nat.le_refl _) _).alloc (by simp) _
  have HB := Lib.hid hb
  have hd : (e == f) = false := by simpa using hne
  clear hb
  unfold rootV
  go_enter Try.func22, Try.ntmps22
  go_wp2_with fail
  go_ret
  exact ⟨rfl, HB.out⟩
end Go.Proofs.Ytbjkefodlnkaeaa
