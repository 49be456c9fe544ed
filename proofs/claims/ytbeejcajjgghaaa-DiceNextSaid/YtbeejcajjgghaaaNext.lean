/- DiceNext: dice roll one count behind the other, each as its own roll says, and what may not be rolled is not counted: for every seed, process, count and list of ints. No condition. -/
import Derived.Test.YtbeejcajjgghaaaOpen
namespace Go.Proofs.Ytbeejcajjgghaaa
open Go.ChangeShapes Go.WideShapes Go.ChangeAt Go.RowKit

theorem next_start (w : World) (o : Obj) (nq : Nat) (z c : Int) :
    Die (((w.alloc o).drewN nq).alloc (.cells #[.int .u64 z, .int .i64 c] 45)) (w.heap.size + 1) z c ∧ Below w.heap.size w (((w.alloc o).drewN nq).alloc (.cells #[.int .u64 z, .int .i64 c] 45)) ∧
    (((w.alloc o).drewN nq).alloc (.cells #[.int .u64 z, .int .i64 c] 45)).heap.size = w.heap.size + 2 := by
  have hs : ((w.alloc o).drewN nq).heap.size = w.heap.size + 1 := by simp
  refine ⟨?_, ?_, by simp⟩
  · unfold Die
    rw [← hs]
    exact heap_alloc_new _ _
  · exact (below_drewN ((Below.refl w.heap.size w).alloc (Nat.le_refl _) o) nq).alloc (by simp) _

/-- at each round's head: the dice, and old memory -/
def Rolling (w : World) (z k : Int) (wr : World) : Prop := Die wr (w.heap.size + 1) z k ∧ Below w.heap.size w wr
theorem Rolling.begin {w wr w1 : World} {z c : Int} (h : Die wr (w.heap.size + 1) z c ∧ Below w.heap.size w wr ∧ wr.heap.size = w.heap.size + 2) (hb : Below wr.heap.size wr w1) : Rolling w z c w1 :=
  ⟨h.1.below hb (by omega), h.2.1.trans (hb.mono (by omega))⟩
theorem Rolling.roll {w wr : World} {z k : Int} (h : Rolling w z k wr) (j m : Nat) : Rolling w z (wrap64 (k + 1)) (((wr.drewN j).setCell ⟨w.heap.size + 1, 1, none⟩ (.int .i64 (wrap64 (k + 1)))).drewN m) :=
  ⟨h.1.store j _, below_drewN ((below_drewN h.2 j).setCell (p := ⟨w.heap.size + 1, 1, none⟩) (by simp) _) m⟩
theorem Rolling.cell {w wr : World} {z k : Int} (h : Rolling w z k wr) {A : Option Addr} {len : Nat} {zs : List Int} (hi : IntsAt w A len zs) {i : Nat} (hl : i < len) :
    ∃ ad, A = some ad ∧ ad.block < w.heap.size ∧ wr.cell? (ad.add i) = some (.int .i64 (zs.getD i 0)) ∧ -9223372036854775808 ≤ zs.getD i 0 ∧ zs.getD i 0 ≤ 9223372036854775807 := by
  obtain ⟨ad, h1, h2, h3, h4⟩ := hi.2.2 i hl
  exact ⟨ad, h1, h2, (h.2.cell (p := ad.add i) (by rw [show (ad.add i).block = ad.block by unfold Addr.add; split <;> rfl]; exact h2)).trans h3, h4⟩

set_option maxHeartbeats 4000000 in
theorem next_walk (a b c n z : Int) (A : Option Addr) (len cap : Nat) (zs : List Int) (w : World) (hl : len ≤ 9223372036854775807) (hi : Hid (IntsAt w A len zs)) :
    Calls Try.prog 4 #[.agg #[.int .i64 a, .int .i64 b, .int .i64 c, .int .i64 n, .int .u64 z, .slice A len cap]] w fun e w' => e = .returned (.bool true) ∧ Below w.heap.size w w' := by
  go_enter Try.func4, Try.ntmps4
  go_wp2_with fail
  go_quiet (fail)
  go_wp2_with fail
  refine (new_any _ _ _ _).mono ?_
  rintro e w1 ⟨rfl, rfl⟩
  go_wp2_with fail
  have h2 := Lib.hid (next_start w (.cells #[.int .i64 a, .int .i64 b, .int .i64 c, .int .i64 n, .int .u64 z, .slice A len cap] 25) nq (stepI (IntKind.u64.wrap a) b) c)
  refine (awake_any _).mono ?_
  rintro e w1 ⟨rfl, hb⟩
  have h3 := Lib.hid (Rolling.begin h2.out hb)
  clear hb h2
  go_wp2_with fail
  go_loopw [8, 9] (fun k i wr => ∃ (q : Int) (t : Nat), t ≤ len ∧ t ≤ 60 ∧ i = .int .i64 t ∧ k = .int .i64 q ∧ Hid (Rolling w (stepI (IntKind.u64.wrap a) b) q wr)) (fun _ i _ => 60 - (intOf i).toNat)
  case atStart => exact ⟨c, 0, Nat.zero_le _, Nat.zero_le _, rfl, rfl, h3⟩
  case round =>
    obtain ⟨q, t, ht, ht2, rfl, rfl, hh⟩ := hrel
    by_cases hlt : t < len
    · by_cases h60 : t < 60
      · obtain ⟨ad, hA, had, hcell, hx1, hx2⟩ := hh.out.cell hi.out hlt
        have hadb : (ad.add t).block = ad.block := by unfold Addr.add; split <;> rfl
        subst hA
        have HX := Lib.hid hx2
        clear hx1 hx2
        have hn0 := Lib.hid had
        clear had
        generalize zs.getD t 0 = x at *
        by_cases hx : x < 1
        · go_wp2_with fail
          refine (next_less _ _ _ hx).mono ?_
          rintro e w2 ⟨rfl, rfl⟩
          go_wp2_with fail
          go_roundw
          case rel => exact ⟨q, t + 1, by omega, by omega, by go_num, rfl, hh⟩
          case measure => simp [intOf]; omega
        · have hx1 : 1 ≤ x := by omega
          clear hx
          have HR := fun W => (rroll_any a b q W : Calls Try.prog 13 _ W fun e w' => e = .returned (.int .u64 (stepI (stepI (IntKind.u64.wrap a) b) q)) ∧ W = w')
          have HB := fun W => rbelow_any (stepI (stepI (IntKind.u64.wrap a) b) q) x W (step_bd _ _).1 (step_bd _ _).2 HX.out
          have HR' := Lib.hid HR
          have HB' := Lib.hid HB
          clear HR HB
          go_wp2_with fail
          refine (next_more _ _ _ _ _ hh.out.1 hx1 HX.out).mono ?_
          rintro e w2 ⟨rfl, j, rfl⟩
          have hh2 := fun m => Lib.hid (hh.out.roll j m)
          have hc2 : ((wr.drewN j).setCell ⟨w.heap.size + 1, 1, none⟩ (.int .i64 (wrap64 (q + 1)))).cell? (ad.add t) = some (.int .i64 x) :=
            (World.cell?_setCell_other _ _ _ _ (fun e => by have := congrArg Addr.block e; rw [hadb] at this; have := hn0.out; simp at *; omega)).trans hcell
          clear hh hcell
          go_wp2_with fail
          go_quiet (first | (go_at_call 13; exact Calls.quiet_of_same (same_of (HR'.out _))) | (go_at_call 15; exact Calls.quiet_of_same (same_of (HB'.out _))))
          go_wp2_with fail
          go_roundw
          case rel => exact ⟨wrap64 (q + 1), t + 1, by omega, by omega, by go_num, rfl, hh2 nq⟩
          case measure => simp [intOf]; omega
      · obtain rfl : t = 60 := by omega
        go_wp2_with fail
        refine (count_any _ _ _ _ hh.out.1).mono ?_
        rintro e w2 ⟨rfl, rfl⟩
        go_wp2_with fail
        go_ret
        exact ⟨rfl, hh.out.2⟩
    · obtain rfl : t = len := by omega
      go_wp2_with fail
      refine (count_any _ _ _ _ hh.out.1).mono ?_
      rintro e w2 ⟨rfl, rfl⟩
      go_wp2_with fail
      go_ret
      exact ⟨rfl, hh.out.2⟩

theorem next_law : Frame.LawCalls 4 Try.f4 := by
  intro H enc W base args ds p hval hA _ _ _
  rw [Try.params4] at hA hval
  obtain ⟨v0, vs0, d0, ds0, p0, q0, hargs, rfl, rfl, h0, r0⟩ := trodAll_cons hA
  obtain ⟨rfl, rfl, rfl⟩ := trodAll_nil r0
  obtain rfl : args = #[v0] := by cases args; simp_all
  obtain ⟨a, b, c, n, z, A, len, cap, zs, rfl, wa, wb, wc, wn, wz, hi⟩ := five_args (hval 0 25 v0 rfl rfl) h0
  have hl := hi.1
  unfold maxLen at hl
  exact next_walk a b c n z A len cap zs W (by omega) (Lib.hid hi)
set_option maxRecDepth 100000 in
theorem next_lifted (os : Os) (started : os.Started) (H : Type) (enc : TypeId × Value → H) :
    ReturnsInHanded {} Try.checked os 4 .any (Rows.diceNextSpec.pre6 enc Try.prog Try.f4 Rows.diceNextRow.domain false) (Rows.diceNextSpec.post enc Try.prog Try.f4 false true false false) :=
  Frame.lifted (s := Rows.diceNextSpec) (by kernel_rfl) Try.func4 (by kernel_rfl) rfl (tb := 4) (by kernel_rfl) Try.underlying4
    (fun H ds h => by
      obtain ⟨d, rfl⟩ := one_datum ds h
      rfl) next_law os started H enc
    (ChangeSpec.witness6 (enc := enc) (C := Try.checked) false ⟨#[], #[.agg #[.int .i64 0, .int .i64 0, .int .i64 0, .int .i64 0, .int .u64 0, .slice none 0 0]], []⟩ 8 (by kernel_rfl) (by kernel_rfl) (by kernel_rfl) (by kernel_rfl))
theorem next_holds : Rows.DiceNextSaid :=
  OpenClaim.holds_of_wide 4 Try.f4 rfl rfl rfl rfl rfl rfl rfl ⟨rfl, rfl, rfl, rfl, rfl⟩ rfl rfl rfl rfl rfl (by kernel_rfl) Try.func4 (by kernel_rfl)
    (of_decide_eq_true (by kernel_rfl)) (by unfold Func.isWrapper; first | (rw [if_pos (by decide +kernel)]; kernel_rfl) | (rw [if_neg (by decide +kernel)]; exact ⟨rfl, rfl⟩))
    (fun os started H enc _ => next_lifted os started H enc)
#print axioms next_holds
end Go.Proofs.Ytbeejcajjgghaaa
