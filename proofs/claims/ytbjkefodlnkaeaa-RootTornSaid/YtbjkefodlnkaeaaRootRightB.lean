/- Whether a root may be: the parts one after another, and all together. Conditions: the parts lie in memory. -/
import Derived.Test.YtbjkefodlnkaeaaRootRight
namespace Go.Proofs.Ytbjkefodlnkaeaa
open Go.RowKit

set_option maxRecDepth 100000 in
set_option maxHeartbeats 4000000 in
theorem right_all {w : World} {A : Option Addr} {len cap : Nat} {T : List Int} (e l : Int) (h : Ints w.heap.size w A len cap T) (h1 : ¬ e < 1) (h2 : ¬ 1099511627776 < e) (h3 : ¬ l < 0) (h4 : ¬ 512 < l) (h5 : len = Rt.need l) :
    Calls Try.prog 31 #[rootV e l A len cap] w fun en w' => en = .returned (.bool (Rt.right ⟨e, l, T⟩)) ∧ Below w.heap.size w w' := by
  have hcb := h.big
  have hlc := h.le
  have HN := Lib.hid h.n
  have HR := Lib.hid (right_fine e l T ⟨by omega, by omega, by omega, by omega, h.n.trans h5⟩)
  have HH := Lib.hid h
  have H5 := Lib.hid h5
  clear h h5
  unfold rootV
  have HB := Lib.hid ((Below.refl w.heap.size w).alloc (Nat.le_refl _) (.cells #[.int .i64 e, .int .i64 l, .slice A len cap] 40 (0, 0)))
  have d1 : decide (e < 1) = false := by simpa using h1
  have d2 : decide (1099511627776 < e) = false := by simpa using h2
  have d3 : decide (l < 0) = false := by simpa using h3
  have d4 : decide (512 < l) = false := by simpa using h4
  have d5 : ((len : Int) != ((Rt.need l : Nat) : Int)) = false := by rw [H5.out]; simp
  have hl5 : len ≤ 5 := by rw [H5.out]; exact Rt.need_le l (by omega)
  have HNeed := Lib.hid (fun w => need_any l w (by omega))
  go_enter Try.func31, Try.ntmps31
  go_wp2_with fail
  go_quiet ((go_at_call 24; exact Calls.quiet_of_same (same_of (HNeed.out _))))
  have HB2 := Lib.hid (below_drewN HB.out nq)
  have HH2 := Lib.hid (HH.out.below HB2.out)
  obtain ⟨c0, c1, c2⟩ := root_box w (.int .i64 e) (.int .i64 l) (.slice A len cap) (w' := (w.alloc (.cells #[.int .i64 e, .int .i64 l, .slice A len cap] 40 (0, 0))).drewN nq) (below_drewN (Below.refl _ _) nq)
  clear HB HH HNeed
  generalize (w.alloc (.cells #[.int .i64 e, .int .i64 l, .slice A len cap] 40 (0, 0))).drewN nq = wb at *
  go_wp2_with fail
  clear d1 d2 d3 d4 d5
  go_loop [3, 4, 35] (fun _ _ x => ∃ j : Nat, j ≤ len ∧ x = .int .i64 j ∧ Hid (Rt.fine (T.take j) (T.drop j) = Rt.fine [] T)) (fun _ _ x => 1000 - (intOf x).toNat)
  case atStart => exact ⟨0, Nat.zero_le _, rfl, Lib.hid (by simp)⟩
  case round =>
    obtain ⟨j, hj, rfl, hI⟩ := hrel
    by_cases hlt : j < len
    · have hltI : (j : Int) < (len : Int) := by omega
      obtain ⟨ad, e0, _, q0⟩ := HH2.out.at_ j hlt
      have HT := Lib.hid (fine_at T j (by rw [HN.out]; exact hlt))
      have HC := Lib.hid (fun p => contains_any p (HH2.out.take j (by omega)))
      subst e0
      generalize T.getD j 0 = q at *
      by_cases hq0 : q < 0
      · have d1 : decide (q < 0) = true := by simpa using hq0
        have HF : Hid (Rt.right ⟨e, l, T⟩ = false) := Lib.hid (by
          rw [HR.out, ← hI.out, HT.out, show Rt.okPart q = false from decide_eq_false (fun h => by omega)]; rfl)
        go_wp2_with fail
        go_ret
        exact ⟨by rw [HF.out]; rfl, HB2.out⟩
      · have d1 : decide (q < 0) = false := by simpa using hq0
        by_cases hq1 : 1023 < q
        · have d2 : decide (1023 < q) = true := by simpa using hq1
          have HF : Hid (Rt.right ⟨e, l, T⟩ = false) := Lib.hid (by
            rw [HR.out, ← hI.out, HT.out, show Rt.okPart q = false from decide_eq_false (fun h => by omega)]; rfl)
          go_wp2_with fail
          go_ret
          exact ⟨by rw [HF.out]; rfl, HB2.out⟩
        · have d2 : decide (1023 < q) = false := by simpa using hq1
          have HO := Lib.hid (show Rt.okPart q = true from decide_eq_true ⟨by omega, by omega⟩)
          cases hcq : (T.take j).contains q
          · have HT2 : Hid (Rt.fine (T.take (j + 1)) (T.drop (j + 1)) = Rt.fine [] T) := Lib.hid (by
              rw [← hI.out, HT.out, HO.out, hcq]; simp)
            have HCQ := Lib.hid hcq
            clear hcq
            go_wp2_with fail
            refine (HC.out _).mono ?_
            rintro en w' ⟨rfl, rfl⟩
            rw [HCQ.out]
            go_wp2_with fail
            go_round
            case rel => exact ⟨j + 1, by omega, by go_num, HT2⟩
            case measure => simp [intOf]; omega
          · have HF : Hid (Rt.right ⟨e, l, T⟩ = false) := Lib.hid (by
              rw [HR.out, ← hI.out, HT.out, HO.out, hcq]; rfl)
            have HCQ := Lib.hid hcq
            clear hcq
            go_wp2_with fail
            refine (HC.out _).mono ?_
            rintro en w' ⟨rfl, rfl⟩
            rw [HCQ.out]
            go_wp2_with fail
            go_ret
            exact ⟨by rw [HF.out]; rfl, HB2.out⟩
    · obtain rfl : j = len := by omega
      have HF : Hid (Rt.right ⟨e, l, T⟩ = true) := Lib.hid (by
        rw [HR.out, ← hI.out, List.drop_eq_nil_of_le (by rw [HN.out]; exact Nat.le_refl _)]; rfl)
      go_wp2_with fail
      go_ret
      exact ⟨by rw [HF.out]; rfl, HB2.out⟩
theorem right_any {w : World} {A : Option Addr} {len cap : Nat} {T : List Int} (e l : Int) (h : Ints w.heap.size w A len cap T) :
    Calls Try.prog 31 #[rootV e l A len cap] w fun en w' => en = .returned (.bool (Rt.right ⟨e, l, T⟩)) ∧ Below w.heap.size w w' := by
  by_cases h1 : e < 1
  · exact right_e1 e l h h1
  by_cases h2 : 1099511627776 < e
  · exact right_e2 e l h h1 h2
  by_cases h3 : l < 0
  · exact right_l1 e l h h1 h2 h3
  by_cases h4 : 512 < l
  · exact right_l2 e l h h1 h2 h3 h4
  by_cases h5 : len = Rt.need l
  · exact right_all e l h h1 h2 h3 h4 h5
  · exact right_n e l h h1 h2 h3 h4 h5
end Go.Proofs.Ytbjkefodlnkaeaa
