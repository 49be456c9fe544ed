/- Whether a root may be: the walk of root.right and of the search that it calls. Conditions: the parts lie in memory, at most 2^62 of them. -/
import Derived.Test.YtbjkefodlnkaeaaRootGetPart
namespace Go.Proofs.Ytbjkefodlnkaeaa
open Go.RowKit

/-- where a number stands -/
def IdxP (T : List Int) (p : Int) (w : World) (e : Ending) (w' : World) : Prop := ∃ r : Int, e = .returned (.int .i64 r) ∧ (0 ≤ r ↔ p ∈ T) ∧ w = w'
set_option maxRecDepth 100000 in
set_option maxHeartbeats 2000000 in
theorem index_any {lo : Nat} {w : World} {A : Option Addr} {len cap : Nat} {T : List Int} (p : Int) (h : Ints lo w A len cap T) :
    Calls Try.prog 40 #[.slice A len cap, .int .i64 p] w (IdxP T p w) := by
  have hc := h.big
  have hl := h.le
  have HH := Lib.hid h
  clear h
  go_enter Try.func40, Try.ntmps40
  go_wp2_with fail
  go_loop [8] (fun x => ∃ j : Nat, j ≤ len ∧ x = .int .i64 j ∧ Hid (p ∉ T.take j)) (fun x => len - (intOf x).toNat)
  case atStart => exact ⟨0, Nat.zero_le _, rfl, Lib.hid (by simp)⟩
  case round =>
    obtain ⟨j, hj, rfl, hN⟩ := hrel
    by_cases hlt : j < len
    · have hltI : (j : Int) < (len : Int) := by omega
      obtain ⟨ad, e0, _, q0⟩ := HH.out.at_ j hlt
      have HT := Lib.hid (take_next T j (by rw [HH.out.n]; exact hlt))
      have HIn := Lib.hid (show T.getD j 0 ∈ T by
        have hj2 : j < T.length := by rw [HH.out.n]; exact hlt
        rw [List.getD_eq_getElem?_getD, List.getElem?_eq_getElem hj2]
        exact List.getElem_mem hj2)
      subst e0
      generalize T.getD j 0 = q at *
      by_cases hq : p = q
      · subst hq
        go_wp2_with fail
        go_ret
        exact ⟨j, rfl, ⟨fun _ => HIn.out, fun _ => by omega⟩, rfl⟩
      · go_wp2_with fail
        go_round
        case rel => exact ⟨j + 1, by omega, by go_num, Lib.hid (by rw [HT.out]; intro hm; rcases List.mem_append.1 hm with hm | hm; exact hN.out hm; exact hq (List.mem_singleton.1 hm))⟩
        case measure => simp [intOf]; omega
    · obtain rfl : j = len := by omega
      have HN : Hid (p ∉ T) := by
        have := hN.out
        rw [List.take_of_length_le (by rw [HH.out.n]; exact Nat.le_refl _)] at this
        exact Lib.hid this
      go_wp2_with fail
      go_ret
      exact ⟨-1, rfl, ⟨fun h => by omega, fun h => absurd h HN.out⟩, rfl⟩
set_option maxRecDepth 100000 in
set_option maxHeartbeats 2000000 in
theorem contains_any {lo : Nat} {w : World} {A : Option Addr} {len cap : Nat} {T : List Int} (p : Int) (h : Ints lo w A len cap T) :
    Calls Try.prog 37 #[.slice A len cap, .int .i64 p] w fun e w' => e = .returned (.bool (T.contains p)) ∧ w = w' := by
  have HC := Lib.hid (index_any p h)
  clear h
  go_enter Try.func37, Try.ntmps37
  go_wp2_with fail
  refine HC.out.mono ?_
  rintro e w' ⟨r, rfl, hr, rfl⟩
  by_cases h0 : 0 ≤ r
  · have HB : Hid (T.contains p = true) := Lib.hid (by simpa using hr.1 h0)
    clear hr HC
    go_wp2_with fail
    go_ret
    exact ⟨by rw [HB.out]; rfl, rfl⟩
  · have HB : Hid (T.contains p = false) := Lib.hid (by
      have : p ∉ T := fun h => h0 (hr.2 h)
      simpa using this)
    have hd : decide (0 ≤ r) = false := by simpa using h0
    clear hr HC
    go_wp2_with fail
    go_ret
    exact ⟨by rw [HB.out]; rfl, rfl⟩
theorem Ints.take {lo : Nat} {w : World} {A : Option Addr} {len cap : Nat} {T : List Int} (h : Ints lo w A len cap T) (i : Nat) (hi : i ≤ len) : Ints lo w A i cap (T.take i) :=
  ⟨h.big, Nat.le_trans hi h.le, by rw [List.length_take, h.n]; omega, fun k hk => by
    obtain ⟨ad, e, hl, hc⟩ := h.at_ k (by omega)
    refine ⟨ad, e, hl, ?_⟩
    rw [hc, List.getD_eq_getElem?_getD, List.getD_eq_getElem?_getD, List.getElem?_take, if_pos hk]⟩
/-- the box of a root -/
def rootV (e l : Int) (A : Option Addr) (len cap : Nat) : Value := .agg #[.int .i64 e, .int .i64 l, .slice A len cap]
theorem root_box (w : World) (a b c : Value) : ∀ {w' : World}, Below (w.heap.size + 1) (w.alloc (.cells #[a, b, c] 40 (0, 0))) w' →
    w'.cell? ⟨w.heap.size, 0, none⟩ = some a ∧ w'.cell? ⟨w.heap.size, 1, none⟩ = some b ∧ w'.cell? ⟨w.heap.size, 2, none⟩ = some c := by
  intro w' hb
  have h := (hb.block w.heap.size (Nat.lt_succ_self _)).trans (heap_alloc_new w _)
  exact ⟨by rw [cell_of_row _ _ _ _ _ _ h]; rfl, by rw [cell_of_row _ _ _ _ _ _ h]; rfl, by rw [cell_of_row _ _ _ _ _ _ h]; rfl⟩
theorem right_no (e l : Int) (T : List Int) (h : ¬ (1 ≤ e ∧ e ≤ 1099511627776 ∧ 0 ≤ l ∧ l ≤ 512 ∧ T.length = Rt.need l)) : Rt.right ⟨e, l, T⟩ = false := by
  unfold Rt.right
  rw [Bool.and_eq_false_iff]
  exact .inl (decide_eq_false h)
theorem fine_at (T : List Int) (j : Nat) (hj : j < T.length) : Rt.fine (T.take j) (T.drop j) = (Rt.okPart (T.getD j 0) && !((T.take j).contains (T.getD j 0)) && Rt.fine (T.take (j + 1)) (T.drop (j + 1))) := by
  rw [take_next T j hj, List.drop_eq_getElem_cons hj]
  rw [List.getD_eq_getElem?_getD, List.getElem?_eq_getElem hj]
  rfl
theorem right_fine (e l : Int) (T : List Int) (h : 1 ≤ e ∧ e ≤ 1099511627776 ∧ 0 ≤ l ∧ l ≤ 512 ∧ T.length = Rt.need l) : Rt.right ⟨e, l, T⟩ = Rt.fine [] T := by
  unfold Rt.right
  rw [decide_eq_true h, Bool.true_and]
set_option maxRecDepth 100000 in
set_option maxHeartbeats 4000000 in
theorem right_e1 {w : World} {A : Option Addr} {len cap : Nat} {T : List Int} (e l : Int) (h : Ints w.heap.size w A len cap T) (h1 : e < 1) :
    Calls Try.prog 31 #[rootV e l A len cap] w fun en w' => en = .returned (.bool (Rt.right ⟨e, l, T⟩)) ∧ Below w.heap.size w w' := by
  have hcb := h.big
  have hlc := h.le
  have HN := Lib.hid h.n
  have HF := Lib.hid (right_no e l T (fun hh => by omega))
  clear h
  unfold rootV
  have HB := Lib.hid ((Below.refl w.heap.size w).alloc (Nat.le_refl _) (.cells #[.int .i64 e, .int .i64 l, .slice A len cap] 40 (0, 0)))
  have d1 : decide (e < 1) = true := by simpa using h1
  go_enter Try.func31, Try.ntmps31
  go_wp2_with fail
  go_quiet (fail)
  have HB2 := Lib.hid (below_drewN HB.out nq)
  go_wp2_with fail
  go_ret
  exact ⟨by rw [HF.out]; rfl, HB2.out⟩
set_option maxRecDepth 100000 in
set_option maxHeartbeats 4000000 in
theorem right_e2 {w : World} {A : Option Addr} {len cap : Nat} {T : List Int} (e l : Int) (h : Ints w.heap.size w A len cap T) (h1 : ¬ e < 1) (h2 : 1099511627776 < e) :
    Calls Try.prog 31 #[rootV e l A len cap] w fun en w' => en = .returned (.bool (Rt.right ⟨e, l, T⟩)) ∧ Below w.heap.size w w' := by
  have hcb := h.big
  have hlc := h.le
  have HN := Lib.hid h.n
  have HF := Lib.hid (right_no e l T (fun hh => by omega))
  clear h
  unfold rootV
  have HB := Lib.hid ((Below.refl w.heap.size w).alloc (Nat.le_refl _) (.cells #[.int .i64 e, .int .i64 l, .slice A len cap] 40 (0, 0)))
  have d1 : decide (e < 1) = false := by simpa using h1
  have d2 : decide (1099511627776 < e) = true := by simpa using h2
  go_enter Try.func31, Try.ntmps31
  go_wp2_with fail
  go_quiet (fail)
  have HB2 := Lib.hid (below_drewN HB.out nq)
  go_wp2_with fail
  go_ret
  exact ⟨by rw [HF.out]; rfl, HB2.out⟩
set_option maxRecDepth 100000 in
set_option maxHeartbeats 4000000 in
theorem right_l1 {w : World} {A : Option Addr} {len cap : Nat} {T : List Int} (e l : Int) (h : Ints w.heap.size w A len cap T) (h1 : ¬ e < 1) (h2 : ¬ 1099511627776 < e) (h3 : l < 0) :
    Calls Try.prog 31 #[rootV e l A len cap] w fun en w' => en = .returned (.bool (Rt.right ⟨e, l, T⟩)) ∧ Below w.heap.size w w' := by
  have hcb := h.big
  have hlc := h.le
  have HN := Lib.hid h.n
  have HF := Lib.hid (right_no e l T (fun hh => by omega))
  clear h
  unfold rootV
  have HB := Lib.hid ((Below.refl w.heap.size w).alloc (Nat.le_refl _) (.cells #[.int .i64 e, .int .i64 l, .slice A len cap] 40 (0, 0)))
  have d1 : decide (e < 1) = false := by simpa using h1
  have d2 : decide (1099511627776 < e) = false := by simpa using h2
  have d3 : decide (l < 0) = true := by simpa using h3
  go_enter Try.func31, Try.ntmps31
  go_wp2_with fail
  go_quiet (fail)
  have HB2 := Lib.hid (below_drewN HB.out nq)
  go_wp2_with fail
  go_ret
  exact ⟨by rw [HF.out]; rfl, HB2.out⟩
set_option maxRecDepth 100000 in
set_option maxHeartbeats 4000000 in
theorem right_l2 {w : World} {A : Option Addr} {len cap : Nat} {T : List Int} (e l : Int) (h : Ints w.heap.size w A len cap T) (h1 : ¬ e < 1) (h2 : ¬ 1099511627776 < e) (h3 : ¬ l < 0) (h4 : 512 < l) :
    Calls Try.prog 31 #[rootV e l A len cap] w fun en w' => en = .returned (.bool (Rt.right ⟨e, l, T⟩)) ∧ Below w.heap.size w w' := by
  have hcb := h.big
  have hlc := h.le
  have HN := Lib.hid h.n
  have HF := Lib.hid (right_no e l T (fun hh => by omega))
  clear h
  unfold rootV
  have HB := Lib.hid ((Below.refl w.heap.size w).alloc (Nat.le_refl _) (.cells #[.int .i64 e, .int .i64 l, .slice A len cap] 40 (0, 0)))
  have d1 : decide (e < 1) = false := by simpa using h1
  have d2 : decide (1099511627776 < e) = false := by simpa using h2
  have d3 : decide (l < 0) = false := by simpa using h3
  have d4 : decide (512 < l) = true := by simpa using h4
  go_enter Try.func31, Try.ntmps31
  go_wp2_with fail
  go_quiet (fail)
  have HB2 := Lib.hid (below_drewN HB.out nq)
  go_wp2_with fail
  go_ret
  exact ⟨by rw [HF.out]; rfl, HB2.out⟩
set_option maxRecDepth 100000 in
set_option maxHeartbeats 4000000 in
theorem right_n {w : World} {A : Option Addr} {len cap : Nat} {T : List Int} (e l : Int) (h : Ints w.heap.size w A len cap T) (h1 : ¬ e < 1) (h2 : ¬ 1099511627776 < e) (h3 : ¬ l < 0) (h4 : ¬ 512 < l) (h5 : ¬ len = Rt.need l) :
    Calls Try.prog 31 #[rootV e l A len cap] w fun en w' => en = .returned (.bool (Rt.right ⟨e, l, T⟩)) ∧ Below w.heap.size w w' := by
  have hcb := h.big
  have hlc := h.le
  have HN := Lib.hid h.n
  have HF := Lib.hid (right_no e l T (fun hh => h5 (by rw [← h.n]; exact hh.2.2.2.2)))
  clear h
  unfold rootV
  have HB := Lib.hid ((Below.refl w.heap.size w).alloc (Nat.le_refl _) (.cells #[.int .i64 e, .int .i64 l, .slice A len cap] 40 (0, 0)))
  have d1 : decide (e < 1) = false := by simpa using h1
  have d2 : decide (1099511627776 < e) = false := by simpa using h2
  have d3 : decide (l < 0) = false := by simpa using h3
  have d4 : decide (512 < l) = false := by simpa using h4
  have d5 : ((len : Int) != ((Rt.need l : Nat) : Int)) = true := by simp; omega
  go_enter Try.func31, Try.ntmps31
  go_wp2_with fail
  go_quiet ((go_at_call 24; exact Calls.quiet_of_same (same_of (need_any l _ (by omega)))))
  have HB2 := Lib.hid (below_drewN HB.out nq)
  go_wp2_with fail
  go_ret
  exact ⟨by rw [HF.out]; rfl, HB2.out⟩
end Go.Proofs.Ytbjkefodlnkaeaa
