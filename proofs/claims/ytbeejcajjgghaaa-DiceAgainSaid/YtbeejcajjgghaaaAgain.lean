/- DiceAgain: dice from a later count on roll what those from an earlier one roll there: for every seed, process, count, 64 bits that say how much later, and int. No condition. -/
import Derived.Test.YtbeejcajjgghaaaOpen
namespace Go.Proofs.Ytbeejcajjgghaaa
open Go.ChangeShapes Go.WideShapes Go.ChangeAt Go.RowKit

theorem Die.far {w : World} {g g' : Nat} {z c : Int} (h : Die w g z c) (hg : g ≠ g') (n : Nat) (v : Value) : Die ((w.drewN n).setCell ⟨g', 1, none⟩ v) g z c := by
  unfold Die
  rw [heap_setCell_other _ _ _ _ hg]
  exact h
theorem wrap_one (x : Int) : wrap64 (wrap64 x + 1) = wrap64 (x + 1) := by unfold wrap64; omega
theorem below_spin {B : Nat} {w wr : World} (h : Below B w wr) {g : Nat} (hg : B ≤ g) (n : Nat) (v : Value) : Below B w ((wr.drewN n).setCell ⟨g, 1, none⟩ v) :=
  (below_drewN h n).setCell (p := ⟨g, 1, none⟩) hg v

/-- the world behind the two calls of New -/
theorem made_two (w : World) (o : Obj) (nq : Nat) (z c c' : Int) :
    Die ((((w.alloc o).drewN nq).alloc (.cells #[.int .u64 z, .int .i64 c] 45)).alloc (.cells #[.int .u64 z, .int .i64 c'] 45)) (w.heap.size + 1) z c ∧
    Die ((((w.alloc o).drewN nq).alloc (.cells #[.int .u64 z, .int .i64 c] 45)).alloc (.cells #[.int .u64 z, .int .i64 c'] 45)) (w.heap.size + 1 + 1) z c' ∧
    Below w.heap.size w ((((w.alloc o).drewN nq).alloc (.cells #[.int .u64 z, .int .i64 c] 45)).alloc (.cells #[.int .u64 z, .int .i64 c'] 45)) ∧
    ((((w.alloc o).drewN nq).alloc (.cells #[.int .u64 z, .int .i64 c] 45)).alloc (.cells #[.int .u64 z, .int .i64 c'] 45)).heap.size = w.heap.size + 3 := by
  have hs : ((w.alloc o).drewN nq).heap.size = w.heap.size + 1 := by simp
  refine ⟨?_, ?_, ?_, by simp⟩
  · unfold Die
    rw [← hs]
    exact heap_alloc2_old _ _ _
  · unfold Die
    rw [← hs]
    exact heap_alloc2_new _ _ _
  · exact ((below_drewN ((Below.refl w.heap.size w).alloc (Nat.le_refl _) o) nq).alloc (by simp) _).alloc (by simp; omega) _

/-- at each round's head -/
def AtHead (w : World) (z c : Int) (m k : Nat) (wr : World) : Prop := Die wr (w.heap.size + 1) z (wrap64 (c + k)) ∧ Die wr (w.heap.size + 1 + 1) z (wrap64 (c + m)) ∧ Below w.heap.size w wr
theorem AtHead.round {w wr : World} {z c : Int} {m k : Nat} (h : AtHead w z c m k wr) (j : Nat) : AtHead w z c m (k + 1) ((wr.drewN j).setCell ⟨w.heap.size + 1, 1, none⟩ (.int .i64 (wrap64 (wrap64 (c + k) + 1)))) := by
  obtain ⟨h1, h2, h3⟩ := h
  refine ⟨?_, h2.far (by omega) j _, below_spin h3 (by omega) j _⟩
  have e : wrap64 (c + ((k + 1 : Nat) : Int)) = wrap64 (wrap64 (c + k) + 1) := by rw [wrap_one]; congr 1; omega
  rw [e]
  exact h1.store j _
theorem AtHead.start {w wr w1 : World} {z c : Int} {m : Nat} (hc : -9223372036854775808 ≤ c ∧ c ≤ 9223372036854775807) (h : Die wr (w.heap.size + 1) z c ∧ Die wr (w.heap.size + 1 + 1) z (wrap64 (c + m)) ∧ Below w.heap.size w wr ∧ wr.heap.size = w.heap.size + 3) (hb : Below wr.heap.size wr w1) : AtHead w z c m 0 w1 := by
  obtain ⟨h1, h2, h3, h4⟩ := h
  refine ⟨?_, h2.below hb (by omega), h3.trans (hb.mono (by omega))⟩
  have e : wrap64 (c + ((0 : Nat) : Int)) = c := by rw [show c + ((0 : Nat) : Int) = c by omega]; exact IntWalk.wrap64_in c hc
  rw [e]
  exact h1.below hb (by omega)

theorem AtHead.last {w wr : World} {z c : Int} {m : Nat} (h : AtHead w z c m m wr) (j i : Nat) :
    Die ((wr.drewN j).setCell ⟨w.heap.size + 1, 1, none⟩ (.int .i64 (wrap64 (wrap64 (c + m) + 1)))) (w.heap.size + 1 + 1) z (wrap64 (c + m)) ∧
    Die (((((wr.drewN j).setCell ⟨w.heap.size + 1, 1, none⟩ (.int .i64 (wrap64 (wrap64 (c + m) + 1)))).drewN i).setCell ⟨w.heap.size + 1 + 1, 1, none⟩ (.int .i64 (wrap64 (wrap64 (c + m) + 1))))) (w.heap.size + 1) z (wrap64 (wrap64 (c + m) + 1)) ∧
    Die (((((wr.drewN j).setCell ⟨w.heap.size + 1, 1, none⟩ (.int .i64 (wrap64 (wrap64 (c + m) + 1)))).drewN i).setCell ⟨w.heap.size + 1 + 1, 1, none⟩ (.int .i64 (wrap64 (wrap64 (c + m) + 1))))) (w.heap.size + 1 + 1) z (wrap64 (wrap64 (c + m) + 1)) ∧
    Below w.heap.size w (((((wr.drewN j).setCell ⟨w.heap.size + 1, 1, none⟩ (.int .i64 (wrap64 (wrap64 (c + m) + 1)))).drewN i).setCell ⟨w.heap.size + 1 + 1, 1, none⟩ (.int .i64 (wrap64 (wrap64 (c + m) + 1))))) := by
  obtain ⟨h1, h2, h3⟩ := h
  have a1 := h1.store j (wrap64 (wrap64 (c + m) + 1))
  have b1 := h2.far (g' := w.heap.size + 1) (by omega) j (.int .i64 (wrap64 (wrap64 (c + m) + 1)))
  exact ⟨b1, a1.far (by omega) i _, b1.store i _, below_spin (below_spin h3 (by omega) j _) (by omega) i _⟩

set_option maxHeartbeats 2000000 in
theorem again_walk (a b c n z : Int) (A : Option Addr) (len cap : Nat) (w : World) (hc : -9223372036854775808 ≤ c ∧ c ≤ 9223372036854775807) (hn : n ≤ 9223372036854775807) (sk m : Nat) (hs : IntKind.u8.wrap z = (sk : Int)) (hm : ((sk : Int) % 50) = (m : Int)) (hm2 : m < 50) :
    Calls Try.prog 5 #[.agg #[.int .i64 a, .int .i64 b, .int .i64 c, .int .i64 n, .int .u64 z, .slice A len cap]] w fun e w' => e = .returned (.bool true) ∧ Below w.heap.size w w' := by
  have HC := Lib.hid hc
  have HN := Lib.hid hn
  clear hc hn
  by_cases hn1 : n < 1
  all_goals
    have H1 := Lib.hid hn1
    clear hn1
    go_enter Try.func5, Try.ntmps5
    go_wp2_with fail
    go_quiet (fail)
    go_wp2_with fail
    refine (new_any _ _ _ _).mono ?_
    rintro e w1 ⟨rfl, rfl⟩
    go_wp2_with fail
    refine (new_any _ _ _ _).mono ?_
    rintro e w1 ⟨rfl, rfl⟩
    go_wp2_with fail
    have h2 := Lib.hid (made_two w (.cells #[.int .i64 a, .int .i64 b, .int .i64 c, .int .i64 n, .int .u64 z, .slice A len cap] 25) nq (stepI (IntKind.u64.wrap a) b) c (wrap64 (c + m)))
    refine (awake_any _).mono ?_
    rintro e w1 ⟨rfl, hb⟩
    have h3 := Lib.hid (AtHead.start HC.out h2.out hb)
    clear hb h2
    go_wp2_with fail
    go_loopw [10] (fun i wr => ∃ k : Nat, k ≤ m ∧ i = .int .i64 k ∧ Hid (AtHead w (stepI (IntKind.u64.wrap a) b) c m k wr)) (fun i _ => m - (intOf i).toNat)
    case atStart => exact ⟨0, Nat.zero_le _, rfl, h3⟩
    case round =>
      obtain ⟨k, hk, rfl, hh⟩ := hrel
      by_cases hlt : k < m
      · go_wp2_with fail
        refine (next_more _ _ _ 7 _ hh.out.1 (by omega) (by omega)).mono ?_
        rintro e w2 ⟨rfl, j, rfl⟩
        have hh2 := Lib.hid (hh.out.round j)
        clear hh
        go_wp2_with fail
        go_roundw
        case rel => exact ⟨k + 1, by omega, by go_num, hh2⟩
        case measure => simp [intOf]; omega
      · obtain rfl : k = m := by omega
        go_wp2_with fail
        first
          | (refine (next_less _ _ _ H1.out).mono ?_
             rintro e w2 ⟨rfl, rfl⟩
             go_wp2_with fail
             refine (next_less _ _ _ H1.out).mono ?_
             rintro e w2 ⟨rfl, rfl⟩
             go_wp2_with fail
             refine (count_any _ _ _ _ hh.out.1).mono ?_
             rintro e w2 ⟨rfl, rfl⟩
             go_wp2_with fail
             refine (count_any _ _ _ _ hh.out.2.1).mono ?_
             rintro e w2 ⟨rfl, rfl⟩
             go_wp2_with fail
             go_ret
             exact ⟨rfl, hh.out.2.2⟩)
          | (refine (next_more _ _ _ _ _ hh.out.1 H1.out HN.out).mono ?_
             rintro e w2 ⟨rfl, j, rfl⟩
             go_wp2_with fail
             refine (next_more _ _ _ _ _ (hh.out.last j 0).1 H1.out HN.out).mono ?_
             rintro e w2 ⟨rfl, i, rfl⟩
             have hl := Lib.hid (hh.out.last j i)
             go_wp2_with fail
             refine (count_any _ _ _ _ hl.out.2.1).mono ?_
             rintro e w2 ⟨rfl, rfl⟩
             go_wp2_with fail
             refine (count_any _ _ _ _ hl.out.2.2.1).mono ?_
             rintro e w2 ⟨rfl, rfl⟩
             go_wp2_with fail
             go_ret
             exact ⟨rfl, hl.out.2.2.2⟩)

theorem again_law : Frame.LawCalls 5 Try.f5 := by
  intro H enc W base args ds p hval hA _ _ _
  rw [Try.params5] at hA hval
  obtain ⟨v0, vs0, d0, ds0, p0, q0, hargs, rfl, rfl, h0, r0⟩ := trodAll_cons hA
  obtain ⟨rfl, rfl, rfl⟩ := trodAll_nil r0
  obtain rfl : args = #[v0] := by cases args; simp_all
  obtain ⟨a, b, c, n, z, A, len, cap, zs, rfl, wa, wb, wc, wn, wz, hi⟩ := five_args (hval 0 25 v0 rfl rfl) h0
  have hs : IntKind.u8.wrap z = z % 256 := by simp [IntKind.wrap, IntKind.bits, IntKind.signed]
  refine again_walk a b c n z A len cap W (bounds_i64 wc) (bounds_i64 wn).2 (z % 256).toNat (z % 256 % 50).toNat ?_ ?_ ?_ <;> omega
set_option maxRecDepth 100000 in
theorem again_lifted (os : Os) (started : os.Started) (H : Type) (enc : TypeId × Value → H) :
    ReturnsInHanded {} Try.checked os 5 .any (Rows.diceAgainSpec.pre6 enc Try.prog Try.f5 Rows.diceAgainRow.domain false) (Rows.diceAgainSpec.post enc Try.prog Try.f5 false true false false) :=
  Frame.lifted (s := Rows.diceAgainSpec) (by kernel_rfl) Try.func5 (by kernel_rfl) rfl (tb := 4) (by kernel_rfl) Try.underlying4
    (fun H ds h => by
      obtain ⟨d, rfl⟩ := one_datum ds h
      rfl) again_law os started H enc
    (ChangeSpec.witness6 (enc := enc) (C := Try.checked) false ⟨#[], #[.agg #[.int .i64 0, .int .i64 0, .int .i64 0, .int .i64 0, .int .u64 0, .slice none 0 0]], []⟩ 8 (by kernel_rfl) (by kernel_rfl) (by kernel_rfl) (by kernel_rfl))
theorem again_holds : Rows.DiceAgainSaid :=
  OpenClaim.holds_of_wide 5 Try.f5 rfl rfl rfl rfl rfl rfl rfl ⟨rfl, rfl, rfl, rfl, rfl⟩ rfl rfl rfl rfl rfl (by kernel_rfl) Try.func5 (by kernel_rfl)
    (of_decide_eq_true (by kernel_rfl)) (by unfold Func.isWrapper; first | (rw [if_pos (by decide +kernel)]; kernel_rfl) | (rw [if_neg (by decide +kernel)]; exact ⟨rfl, rfl⟩))
    (fun os started H enc _ => again_lifted os started H enc)
#print axioms again_holds
end Go.Proofs.Ytbeejcajjgghaaa
