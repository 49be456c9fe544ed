/- The small calls of the program's disk: whether it works, whether there is a sector, a call that counts, arming, asking. No condition but that the disk lies in memory as XDiskMem says. -/
import Derived.Test.YtpjpncfoenadhaaDiskMem
namespace Go.Proofs.Ytpjpncfoenadhaa
open Go.RowKit Dk

set_option maxHeartbeats 400000 in
theorem works_nil (w : World) : Calls Try.prog 54 #[.pointer none] w fun e w' => e = .returned (.int .i64 1) ∧ w = w' := by
  go_enter Try.func54, Try.ntmps54
  go_wp2_with fail
  go_ret
  exact ⟨rfl, rfl⟩
set_option maxHeartbeats 400000 in
theorem works_any {w : World} {k : DB} {A : St} (d : Bool) (h : PD w k A) (hd : A.down = d) : Calls Try.prog 54 #[.pointer (some ⟨k.g, 0, none⟩)] w fun e w' => e = .returned (.int .i64 (if d then 13 else 0)) ∧ w = w' := by
  have h5 := h.c5
  rw [hd] at h5
  clear hd h
  cases d
  · go_enter Try.func54, Try.ntmps54
    go_wp2_with fail
    go_ret
    exact ⟨rfl, rfl⟩
  · go_enter Try.func54, Try.ntmps54
    go_wp2_with fail
    go_ret
    exact ⟨rfl, rfl⟩

set_option maxHeartbeats 400000 in
theorem at_nil (i : Int) (w : World) : Calls Try.prog 51 #[.pointer none, .int .i64 i] w fun e w' => e = .returned (.int .i64 1) ∧ w = w' := by
  go_enter Try.func51, Try.ntmps51
  go_wp2_with fail
  refine (works_nil w).mono ?_
  rintro e w' ⟨rfl, rfl⟩
  go_wp2_with fail
  go_ret
  exact ⟨rfl, rfl⟩
set_option maxHeartbeats 400000 in
theorem at_down {w : World} {k : DB} {A : St} (i : Int) (h : PD w k A) (hd : A.down = true) : Calls Try.prog 51 #[.pointer (some ⟨k.g, 0, none⟩), .int .i64 i] w fun e w' => e = .returned (.int .i64 13) ∧ w = w' := by
  have HC := Lib.hid (works_any true h hd)
  clear h hd
  go_enter Try.func51, Try.ntmps51
  go_wp2_with fail
  refine HC.out.mono ?_
  rintro e w' ⟨rfl, rfl⟩
  go_wp2_with fail
  go_ret
  exact ⟨rfl, rfl⟩
set_option maxHeartbeats 400000 in
theorem at_out {w : World} {k : DB} {A : St} (i : Int) (h : PD w k A) (hd : A.down = false) (ho : i < 0 ∨ (A.n : Int) ≤ i) : Calls Try.prog 51 #[.pointer (some ⟨k.g, 0, none⟩), .int .i64 i] w fun e w' => e = .returned (.int .i64 3) ∧ w = w' := by
  have HC := Lib.hid (works_any false h hd)
  have h0 := h.c0
  generalize A.n = n at *
  clear h hd
  rcases ho with ho | ho
  · go_enter Try.func51, Try.ntmps51
    go_wp2_with fail
    refine HC.out.mono ?_
    rintro e w' ⟨rfl, rfl⟩
    go_wp2_with fail
    go_ret
    exact ⟨rfl, rfl⟩
  · by_cases h00 : i < 0
    · omega
    · go_enter Try.func51, Try.ntmps51
      go_wp2_with fail
      refine HC.out.mono ?_
      rintro e w' ⟨rfl, rfl⟩
      go_wp2_with fail
      go_ret
      exact ⟨rfl, rfl⟩
set_option maxHeartbeats 400000 in
theorem at_in {w : World} {k : DB} {A : St} (i : Int) (h : PD w k A) (hd : A.down = false) (h1 : 0 ≤ i) (h2 : i < (A.n : Int)) : Calls Try.prog 51 #[.pointer (some ⟨k.g, 0, none⟩), .int .i64 i] w fun e w' => e = .returned (.int .i64 0) ∧ w = w' := by
  have HC := Lib.hid (works_any false h hd)
  have h0 := h.c0
  generalize A.n = n at *
  clear h hd
  go_enter Try.func51, Try.ntmps51
  go_wp2_with fail
  refine HC.out.mono ?_
  rintro e w' ⟨rfl, rfl⟩
  go_wp2_with fail
  go_ret
  exact ⟨rfl, rfl⟩

/-- the head's numbers are written -/
theorem PD.stores {w : World} {k : DB} {A : St} (h : PD w k A) (B : St) (hs : B.secs = A.secs) (hg : B.Good) (w' : World) (hb : Touch k.g (k.g + 1) w w') (hh : w'.heap[k.g]? = some (.cells (headV k B) 80 (0, 0))) : PD w' k B ∧ Touch k.lo k.hi w w' := by
  have ok := h.ok
  have hin := h.inn
  have hlt : ∀ i, w.heap[i]? = none → w.heap.size ≤ i := fun i hi => by
    rcases Nat.lt_or_ge i w.heap.size with hl | hl
    · rw [Array.getElem?_eq_getElem hl] at hi; cases hi
    · exact hl
  have ht := hb.mono (lo' := k.lo) (hi' := k.hi) (by have := ok.g; omega) (by have := ok.g; omega)
  refine ⟨?_, ht⟩
  obtain ⟨L, h1, h2⟩ := h.old
  have st : ∀ i, k.lo ≤ i ∧ i < k.hi → i ≠ k.g → w'.heap[i]? = w.heap[i]? := fun i hi' hne => hb.block i (by omega) (by omega)
  refine ⟨ok, Nat.le_trans hin ht.size, hg, hh, ?_, ⟨L, ?_, (st _ ok.b ok.gb.symm).trans h2⟩, ?_⟩
  · rw [st _ ok.a ok.ga.symm, h.now]
    unfold nowL
    rw [hs]
  · unfold OldOf St.n at *
    rw [hs]
    exact h1
  · rw [st _ ok.c ok.gc.symm, h.loose, hs]

/-- one store, and one more, into the head -/
def Head (w : World) (k : DB) (cs : Array Value) (w' : World) : Prop := Touch k.g (k.g + 1) w w' ∧ w'.heap[k.g]? = some (.cells cs 80 (0, 0))
theorem head_one {w : World} {k : DB} {A : St} (h : PD w k A) (i : Nat) (v : Value) : Head w k ((headV k A).setIfInBounds i v) (w.setCell ⟨k.g, i, none⟩ v) :=
  ⟨Touch.setCell w (p := ⟨k.g, i, none⟩) ⟨Nat.le_refl _, Nat.lt_succ_self _⟩ v, heap_setCell_same _ _ _ _ _ _ h.head⟩
theorem head_two {w w' : World} {k : DB} {cs : Array Value} (h : Head w k cs w') (i : Nat) (v : Value) : Head w k (cs.setIfInBounds i v) (w'.setCell ⟨k.g, i, none⟩ v) :=
  ⟨h.1.trans (Touch.setCell w' (p := ⟨k.g, i, none⟩) ⟨Nat.le_refl _, Nat.lt_succ_self _⟩ v), heap_setCell_same _ _ _ _ _ _ h.2⟩

def Counted (w : World) (k : DB) (A : St) (e : Ending) (w' : World) : Prop := e = .returned (.int .i64 A.count.1) ∧ PD w' k A.count.2 ∧ Touch k.lo k.hi w w'

set_option maxHeartbeats 1000000 in
theorem counts_any {w : World} {k : DB} {A : St} (h : PD w k A) (hd : A.down = false) : Calls Try.prog 52 #[.pointer (some ⟨k.g, 0, none⟩)] w (Counted w k A) := by
  have h3 := h.c3
  have h4 := h.c4
  have f3 := h.fr 3
  have f4 := h.fr 4
  have f5 := h.fr 5
  have h5 := h.c5
  have ha := h.good.arm0
  have ha1 := h.good.arm1
  have HP := Lib.hid h
  have HD := Lib.hid hd
  clear h hd
  have hw1 := Lib.hid (head_one HP.out 4 (.int .i64 (wrap64 (A.calls + 1))))
  by_cases h0 : A.arm = 0
  · have e0 : (A.arm == 0) = true := by rw [h0]; rfl
    have hc : A.count = (0, { A with calls := wrap64 (A.calls + 1) }) := if_pos h0
    have HR := Lib.hid hc
    clear h0 hc
    go_enter Try.func52, Try.ntmps52
    go_wp2_with fail
    go_ret
    unfold Counted
    rw [HR.out]
    have hg := Good.count HP.out.good
    rw [HR.out] at hg
    exact ⟨rfl, HP.out.stores { A with calls := wrap64 (A.calls + 1) } rfl hg _ hw1.out.1 hw1.out.2⟩
  · have e0 : (A.arm == 0) = false := by rw [beq_eq_false_iff_ne]; exact h0
    have hpos : 1 ≤ A.arm := by omega
    have hg := Good.count HP.out.good
    have h3' := Lib.hid (head_two hw1.out 3 (.int .i64 (A.arm - 1)))
    by_cases h1 : A.arm = 1
    · have hc : A.count = (13, { A with calls := wrap64 (A.calls + 1), arm := 0, down := true }) := by unfold St.count; rw [if_neg h0, if_pos h1]
      have HR := Lib.hid hc
      rw [hc] at hg
      rw [h1] at h3' h3 e0
      have h5' := Lib.hid (head_two h3'.out 5 (.bool true))
      have hst := Lib.hid (HP.out.stores { A with calls := wrap64 (A.calls + 1), arm := 0, down := true } rfl hg _ h5'.out.1 h5'.out.2)
      clear h0 hc hg ha ha1 hpos h3' h5' hw1 h1
      go_enter Try.func52, Try.ntmps52
      go_wp2_with fail
      refine (works_any true hst.out.1 rfl).mono ?_
      rintro e w' ⟨rfl, rfl⟩
      go_wp2_with fail
      go_ret
      unfold Counted
      rw [HR.out]
      exact ⟨rfl, hst.out⟩
    · have hc : A.count = (0, { A with calls := wrap64 (A.calls + 1), arm := A.arm - 1 }) := by unfold St.count; rw [if_neg h0, if_neg h1]
      have e1 : (A.arm - 1 == 0) = false := by rw [beq_eq_false_iff_ne]; omega
      have HR := Lib.hid hc
      rw [hc] at hg
      have h5' := Lib.hid (head_two h3'.out 5 (.bool false))
      have hst := Lib.hid (HP.out.stores { A with calls := wrap64 (A.calls + 1), arm := A.arm - 1 } rfl hg _ h5'.out.1 (by
        have := h5'.out.2
        rw [this]
        unfold headV
        rw [HD.out]
        rfl))
      clear h0 hc hg h3' h5' hw1 h1
      go_enter Try.func52, Try.ntmps52
      go_wp2_with fail
      refine (works_any false hst.out.1 HD.out).mono ?_
      rintro e w' ⟨rfl, rfl⟩
      go_wp2_with fail
      go_ret
      unfold Counted
      rw [HR.out]
      exact ⟨rfl, hst.out⟩

set_option maxHeartbeats 400000 in
theorem arm_nil (n : Int) (w : World) : Calls Try.prog 26 #[.pointer none, .int .i64 n] w fun e w' => e = .returned (.int .i64 1) ∧ w = w' := by
  go_enter Try.func26, Try.ntmps26
  go_wp2_with fail
  refine (works_nil w).mono ?_
  rintro e w' ⟨rfl, rfl⟩
  go_wp2_with fail
  go_ret
  exact ⟨rfl, rfl⟩
/-- a call that answers a number and leaves the disk so -/
def Left (w : World) (k : DB) (r : Int × St) (e : Ending) (w' : World) : Prop := e = .returned (.int .i64 r.1) ∧ PD w' k r.2 ∧ Touch k.lo k.hi w w'
set_option maxHeartbeats 1000000 in
theorem arm_any {w : World} {k : DB} {A : St} (n : Int) (h : PD w k A) (hn : n ≤ 9223372036854775807) : Calls Try.prog 26 #[.pointer (some ⟨k.g, 0, none⟩), .int .i64 n] w (Left w k (A.armed n)) := by
  have f3 := h.fr 3
  have h3 := h.c3
  have HP := Lib.hid h
  have hw1 := Lib.hid (head_one HP.out 3 (.int .i64 n))
  have hg := Lib.hid (Good.armed h.good n hn)
  clear h hn
  cases hd : A.down
  · have HC := Lib.hid (works_any false HP.out hd)
    by_cases h1 : n < 1
    · have HR := Lib.hid (show A.armed n = (2, A) by unfold St.armed; rw [if_neg (by simp [hd]), if_pos h1])
      clear hd
      go_enter Try.func26, Try.ntmps26
      go_wp2_with fail
      refine HC.out.mono ?_
      rintro e w' ⟨rfl, rfl⟩
      go_wp2_with fail
      go_ret
      unfold Left
      rw [HR.out]
      exact ⟨rfl, HP.out, Touch.refl _ _ _⟩
    · have HR := Lib.hid (show A.armed n = (0, { A with arm := n }) by unfold St.armed; rw [if_neg (by simp [hd]), if_neg h1])
      have hst := Lib.hid (HP.out.stores { A with arm := n } rfl (by have := hg.out; rw [HR.out] at this; exact this) _ hw1.out.1 hw1.out.2)
      clear hd
      go_enter Try.func26, Try.ntmps26
      go_wp2_with fail
      refine HC.out.mono ?_
      rintro e w' ⟨rfl, rfl⟩
      go_wp2_with fail
      go_ret
      unfold Left
      rw [HR.out]
      exact ⟨rfl, hst.out⟩
  · have HC := Lib.hid (works_any true HP.out hd)
    have HR := Lib.hid (show A.armed n = (13, A) by unfold St.armed; rw [if_pos (by simp [hd])])
    clear hd
    go_enter Try.func26, Try.ntmps26
    go_wp2_with fail
    refine HC.out.mono ?_
    rintro e w' ⟨rfl, rfl⟩
    go_wp2_with fail
    go_ret
    unfold Left
    rw [HR.out]
    exact ⟨rfl, HP.out, Touch.refl _ _ _⟩

set_option maxHeartbeats 400000 in
theorem down_nil (w : World) : Calls Try.prog 20 #[.pointer none] w fun e w' => e = .returned (.bool false) ∧ w = w' := by
  go_enter Try.func20, Try.ntmps20
  go_wp2_with fail
  go_ret
  exact ⟨rfl, rfl⟩
set_option maxHeartbeats 400000 in
theorem down_any {w : World} {k : DB} {A : St} (h : PD w k A) : Calls Try.prog 20 #[.pointer (some ⟨k.g, 0, none⟩)] w fun e w' => e = .returned (.bool A.down) ∧ w = w' := by
  have h5 := h.c5
  generalize A.down = d at *
  clear h
  go_enter Try.func20, Try.ntmps20
  go_wp2_with fail
  go_ret
  exact ⟨rfl, rfl⟩
set_option maxHeartbeats 400000 in
theorem sectors_nil (w : World) : Calls Try.prog 30 #[.pointer none] w fun e w' => e = .returned (.int .i64 0) ∧ w = w' := by
  go_enter Try.func30, Try.ntmps30
  go_wp2_with fail
  go_ret
  exact ⟨rfl, rfl⟩
set_option maxHeartbeats 400000 in
theorem sectors_any {w : World} {k : DB} {A : St} (h : PD w k A) : Calls Try.prog 30 #[.pointer (some ⟨k.g, 0, none⟩)] w fun e w' => e = .returned (.int .i64 (A.n : Int)) ∧ w = w' := by
  have h0 := h.c0
  generalize A.n = n at *
  clear h
  go_enter Try.func30, Try.ntmps30
  go_wp2_with fail
  go_ret
  exact ⟨rfl, rfl⟩
set_option maxHeartbeats 400000 in
theorem calls_nil (w : World) : Calls Try.prog 28 #[.pointer none] w fun e w' => e = .returned (.int .i64 0) ∧ w = w' := by
  go_enter Try.func28, Try.ntmps28
  go_wp2_with fail
  go_ret
  exact ⟨rfl, rfl⟩
set_option maxHeartbeats 400000 in
theorem calls_any {w : World} {k : DB} {A : St} (h : PD w k A) : Calls Try.prog 28 #[.pointer (some ⟨k.g, 0, none⟩)] w fun e w' => e = .returned (.int .i64 A.calls) ∧ w = w' := by
  have h4 := h.c4
  generalize A.calls = n at *
  clear h
  go_enter Try.func28, Try.ntmps28
  go_wp2_with fail
  go_ret
  exact ⟨rfl, rfl⟩
set_option maxHeartbeats 400000 in
theorem loose_nil (w : World) : Calls Try.prog 19 #[.pointer none] w fun e w' => e = .returned (.int .i64 0) ∧ w = w' := by
  go_enter Try.func19, Try.ntmps19
  go_wp2_with fail
  go_ret
  exact ⟨rfl, rfl⟩
theorem loose_next (l : List Sec) (i : Nat) (h : i < l.length) : looseL (l.take (i + 1)) = looseL (l.take i) + (if (l.getD i none_).is then 1 else 0) := by
  have e : l.getD i none_ = l[i] := by simp [List.getD_eq_getElem?_getD, h]
  rw [List.take_succ_eq_append_getElem h, e]
  unfold looseL
  rw [List.countP_append, List.countP_singleton]
theorem loose_le (l : List Sec) (i : Nat) : looseL (l.take i) ≤ i := by
  unfold looseL
  have := List.countP_le_length (p := fun x : Sec => x.is) (l := l.take i)
  have := List.length_take_le i l
  omega
set_option maxHeartbeats 1000000 in
theorem loose_any {w : World} {k : DB} {A : St} (h : PD w k A) : Calls Try.prog 19 #[.pointer (some ⟨k.g, 0, none⟩)] w fun e w' => e = .returned (.int .i64 (A.loose : Int)) ∧ w = w' := by
  have h2 := h.c2
  have hn := h.nb
  have HI := Lib.hid h.is_
  have HF := Lib.hid (show looseL (A.secs.take A.n) = A.loose by unfold St.n; rw [List.take_length]; rfl)
  have HL := Lib.hid (loose_next A.secs)
  have HE := Lib.hid (loose_le A.secs)
  have HN := Lib.hid (show A.n = A.secs.length from rfl)
  clear h
  go_enter Try.func19, Try.ntmps19
  go_wp2_with fail
  go_loop [3, 13] (fun v i => ∃ t : Nat, t ≤ A.n ∧ i = .int .i64 t ∧ v = .int .i64 ((looseL (A.secs.take t) : Nat) : Int)) (fun _ i => A.n - (intOf i).toNat)
  case atStart => exact ⟨0, Nat.zero_le _, rfl, rfl⟩
  case round =>
    obtain ⟨t, ht, rfl, rfl⟩ := hrel
    have hle := HE.out t
    by_cases hlt : t < A.n
    · have hc := HI.out t hlt
      have HX := Lib.hid (HL.out t (by rw [← HN.out]; exact hlt))
      cases hx : (A.secs.getD t none_).is
      · rw [hx] at hc
        have HX2 := Lib.hid (HX.out.trans (by rw [hx]))
        clear hx
        go_wp2_with fail
        go_round
        case rel => exact ⟨t + 1, by omega, by go_num, by rw [HX2.out]; rfl⟩
        case measure => simp [intOf]; omega
      · rw [hx] at hc
        have HX2 := Lib.hid (HX.out.trans (by rw [hx]))
        clear hx
        go_wp2_with fail
        go_round
        case rel => exact ⟨t + 1, by omega, by go_num, by rw [HX2.out]; rfl⟩
        case measure => simp [intOf]; omega
    · obtain rfl : t = A.n := by omega
      go_wp2_with fail
      go_ret
      exact ⟨by rw [← HF.out]; rfl, rfl⟩
end Go.Proofs.Ytpjpncfoenadhaa
