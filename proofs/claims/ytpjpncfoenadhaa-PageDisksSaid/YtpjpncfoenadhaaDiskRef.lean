/- How the reference's disk lies in memory; its small calls. No condition but that. -/
import Derived.Test.YtpjpncfoenadhaaDiskFill
import Derived.Test.YtpjpncfoenadhaaDiskRead
namespace Go.Proofs.Ytpjpncfoenadhaa
open Go.RowKit Dk

def str (l : List UInt8) : Value := .string ⟨l.toArray⟩
/-- the blocks of the reference's disk, its rows' capacities -/
structure RB where
  g : Nat
  s : Nat
  n : Nat
  b : Nat
  cs : Nat
  cn : Nat
  cb : Nat
  lo : Nat
  hi : Nat
structure RB.Ok (k : RB) : Prop where
  g : k.lo ≤ k.g ∧ k.g < k.hi
  s : k.lo ≤ k.s ∧ k.s < k.hi
  n : k.lo ≤ k.n ∧ k.n < k.hi
  b : k.lo ≤ k.b ∧ k.b < k.hi
  gs : k.g ≠ k.s
  gn : k.g ≠ k.n
  gb : k.g ≠ k.b
  sn : k.s ≠ k.n
  sb : k.s ≠ k.b
  nb : k.n ≠ k.b
def headR (k : RB) (A : St) : Array Value :=
  #[.slice (some ⟨k.s, 0, none⟩) A.n k.cs, .slice (some ⟨k.n, 0, none⟩) A.n k.cn, .slice (some ⟨k.b, 0, none⟩) A.n k.cb, .int .i64 A.arm, .int .i64 A.calls, .bool A.down]
/-- new texts: those of loose sectors are the new bytes -/
def NewOf (A : St) (L : List Value) : Prop := L.length = A.n ∧ ∀ (i : Nat) (x : Dk.Sec), A.secs[i]? = some x → x.is = true → L[i]? = some (str x.new)
/-- a row's beginning -/
def Rw (w : World) (b : Nat) (t : TypeId) (L : List Value) : Prop := ∃ T : List Value, w.heap[b]? = some (.cells (L ++ T).toArray t (0, 0))
theorem Rw.keep {w w' : World} {b : Nat} {t : TypeId} {L : List Value} (h : Rw w b t L) (e : w'.heap[b]? = w.heap[b]?) : Rw w' b t L := by
  obtain ⟨T, hT⟩ := h
  exact ⟨T, e.trans hT⟩
theorem Rw.cell {w : World} {b : Nat} {t : TypeId} {L : List Value} (h : Rw w b t L) (i : Nat) (v : Value) (hv : L[i]? = some v) : w.cell? ⟨b, i, none⟩ = some v := by
  obtain ⟨T, hT⟩ := h
  rw [cell_of_row w b i _ _ (0, 0) hT]
  rw [List.getElem?_toArray, List.getElem?_append_left (List.getElem?_eq_some_iff.1 hv).1]
  exact hv
theorem Rw.frozen {w : World} {b : Nat} {t : TypeId} {L : List Value} (h : Rw w b t L) (i : Nat) : w.frozen? ⟨b, i, none⟩ = false := by
  obtain ⟨T, hT⟩ := h
  exact frozen_of_row w b i _ _ hT
theorem Rw.set {w : World} {b : Nat} {t : TypeId} {L : List Value} (h : Rw w b t L) (i : Nat) (hi : i < L.length) (v : Value) : Rw (w.setCell ⟨b, i, none⟩ v) b t (L.set i v) := by
  obtain ⟨T, hT⟩ := h
  refine ⟨T, ?_⟩
  rw [heap_setCell_same _ b i _ _ _ hT]
  congr 2
  apply Array.ext'
  simp [List.set_append_left _ _ hi]

structure XD (w : World) (k : RB) (A : St) : Prop where
  ok : k.Ok
  inn : k.hi ≤ w.heap.size
  good : A.Good
  head : w.heap[k.g]? = some (.cells (headR k A) 33 (0, 0))
  safe : Rw w k.s 9 (A.secs.map fun x => str x.safe)
  new : ∃ L, NewOf A L ∧ Rw w k.n 9 L
  is : Rw w k.b 4 (A.secs.map fun x => Value.bool x.is)
theorem XD.far {w w' : World} {k : RB} {A : St} {lo hi : Nat} (h : XD w k A) (ht : Touch lo hi w w') (hd : k.hi ≤ lo ∨ hi ≤ k.lo) : XD w' k A := by
  have ok := h.ok
  have hin := h.inn
  have st : ∀ i, k.lo ≤ i ∧ i < k.hi → w'.heap[i]? = w.heap[i]? := fun i hi' => ht.block i (by omega) (by omega)
  obtain ⟨L, h1, h2⟩ := h.new
  exact ⟨ok, Nat.le_trans hin ht.size, h.good, (st _ ok.g).trans h.head, h.safe.keep (st _ ok.s), ⟨L, h1, h2.keep (st _ ok.n)⟩, h.is.keep (st _ ok.b)⟩
theorem XD.below {w w' : World} {k : RB} {A : St} (h : XD w k A) (hb : Below w.heap.size w w') : XD w' k A := h.far (Touch.of_below (lo := k.hi) (hi := k.hi) hb) (.inl (Nat.le_refl _))
section
variable {w : World} {k : RB} {A : St}
theorem XD.c0 (h : XD w k A) : w.cell? ⟨k.g, 0, none⟩ = some (.slice (some ⟨k.s, 0, none⟩) A.n k.cs) := cell_of_row w k.g 0 _ _ (0, 0) h.head
theorem XD.c1 (h : XD w k A) : w.cell? ⟨k.g, 1, none⟩ = some (.slice (some ⟨k.n, 0, none⟩) A.n k.cn) := cell_of_row w k.g 1 _ _ (0, 0) h.head
theorem XD.c2 (h : XD w k A) : w.cell? ⟨k.g, 2, none⟩ = some (.slice (some ⟨k.b, 0, none⟩) A.n k.cb) := cell_of_row w k.g 2 _ _ (0, 0) h.head
theorem XD.c3 (h : XD w k A) : w.cell? ⟨k.g, 3, none⟩ = some (.int .i64 A.arm) := cell_of_row w k.g 3 _ _ (0, 0) h.head
theorem XD.c4 (h : XD w k A) : w.cell? ⟨k.g, 4, none⟩ = some (.int .i64 A.calls) := cell_of_row w k.g 4 _ _ (0, 0) h.head
theorem XD.c5 (h : XD w k A) : w.cell? ⟨k.g, 5, none⟩ = some (.bool A.down) := cell_of_row w k.g 5 _ _ (0, 0) h.head
theorem XD.fr (h : XD w k A) (j : Nat) : w.frozen? ⟨k.g, j, none⟩ = false := frozen_of_row w k.g j _ _ h.head
theorem XD.nb (h : XD w k A) : A.n ≤ 4096 := h.good.big
theorem XD.sec (_h : XD w k A) (i : Nat) (hi : i < A.n) : A.secs[i]? = some (A.secs.getD i none_) := by
  have hi' : i < A.secs.length := hi
  rw [List.getD_eq_getElem?_getD, List.getElem?_eq_getElem hi']
  rfl
theorem XD.is_ (h : XD w k A) (i : Nat) (hi : i < A.n) : w.cell? ⟨k.b, i, none⟩ = some (.bool (A.secs.getD i none_).is) := h.is.cell i _ (by rw [List.getElem?_map, h.sec i hi]; rfl)
theorem XD.sf (h : XD w k A) (i : Nat) (hi : i < A.n) : w.cell? ⟨k.s, i, none⟩ = some (str (A.secs.getD i none_).safe) := h.safe.cell i _ (by rw [List.getElem?_map, h.sec i hi]; rfl)
theorem XD.nw (h : XD w k A) (i : Nat) (hi : i < A.n) (hl : (A.secs.getD i none_).is = true) : w.cell? ⟨k.n, i, none⟩ = some (str (A.secs.getD i none_).new) := by
  obtain ⟨L, h1, h2⟩ := h.new
  exact h2.cell i _ (h1.2 i _ (h.sec i hi) hl)
theorem XD.fb (h : XD w k A) (i : Nat) : w.frozen? ⟨k.b, i, none⟩ = false := h.is.frozen i
theorem XD.fs (h : XD w k A) (i : Nat) : w.frozen? ⟨k.s, i, none⟩ = false := h.safe.frozen i
theorem XD.fn (h : XD w k A) (i : Nat) : w.frozen? ⟨k.n, i, none⟩ = false := by
  obtain ⟨L, h1, h2⟩ := h.new
  exact h2.frozen i
/-- the head is written, the rest stays -/
theorem XD.stores (h : XD w k A) (B : St) (hs : B.secs = A.secs) (hg : B.Good) (w' : World) (hb : Touch k.g (k.g + 1) w w') (hh : w'.heap[k.g]? = some (.cells (headR k B) 33 (0, 0))) : XD w' k B ∧ Touch k.lo k.hi w w' := by
  have ok := h.ok
  have hin := h.inn
  have ht := hb.mono (lo' := k.lo) (hi' := k.hi) (by have := ok.g; omega) (by have := ok.g; omega)
  refine ⟨?_, ht⟩
  obtain ⟨L, h1, h2⟩ := h.new
  have st : ∀ i, k.lo ≤ i ∧ i < k.hi → i ≠ k.g → w'.heap[i]? = w.heap[i]? := fun i hi' hne => hb.block i (by omega) (by omega)
  refine ⟨ok, Nat.le_trans hin ht.size, hg, hh, ?_, ⟨L, ?_, h2.keep (st _ ok.n ok.gn.symm)⟩, ?_⟩
  · rw [hs]
    exact h.safe.keep (st _ ok.s ok.gs.symm)
  · unfold NewOf St.n at *
    rw [hs]
    exact h1
  · rw [hs]
    exact h.is.keep (st _ ok.b ok.gb.symm)
end
def HeadR (w : World) (k : RB) (cs : Array Value) (w' : World) : Prop := Touch k.g (k.g + 1) w w' ∧ w'.heap[k.g]? = some (.cells cs 33 (0, 0))
theorem headR_one {w : World} {k : RB} {A : St} (h : XD w k A) (i : Nat) (v : Value) : HeadR w k ((headR k A).setIfInBounds i v) (w.setCell ⟨k.g, i, none⟩ v) :=
  ⟨Touch.setCell w (p := ⟨k.g, i, none⟩) ⟨Nat.le_refl _, Nat.lt_succ_self _⟩ v, heap_setCell_same _ _ _ _ _ _ h.head⟩
theorem headR_two {w w' : World} {k : RB} {cs : Array Value} (h : HeadR w k cs w') (i : Nat) (v : Value) : HeadR w k (cs.setIfInBounds i v) (w'.setCell ⟨k.g, i, none⟩ v) :=
  ⟨h.1.trans (Touch.setCell w' (p := ⟨k.g, i, none⟩) ⟨Nat.le_refl _, Nat.lt_succ_self _⟩ v), heap_setCell_same _ _ _ _ _ _ h.2⟩
def LeftR (w : World) (k : RB) (r : Int × St) (e : Ending) (w' : World) : Prop := e = .returned (.int .i64 r.1) ∧ XD w' k r.2 ∧ Touch k.lo k.hi w w'

set_option maxHeartbeats 1000000 in
theorem rcount_any {w : World} {k : RB} {A : St} (h : XD w k A) (hd : A.down = false) : Calls Try.prog 53 #[.pointer (some ⟨k.g, 0, none⟩)] w (LeftR w k A.count) := by
  have h3 := h.c3
  have h4 := h.c4
  have f3 := h.fr 3
  have f4 := h.fr 4
  have f5 := h.fr 5
  have h5 := h.c5
  have ha := h.good.arm0
  have ha1 := h.good.arm1
  have HP := Lib.hid h
  have HD := Lib.hid hd
  clear h hd
  have hw1 := Lib.hid (headR_one HP.out 4 (.int .i64 (wrap64 (A.calls + 1))))
  have hg := Good.count HP.out.good
  by_cases h1 : A.arm = 1
  · have hc : A.count = (13, { A with calls := wrap64 (A.calls + 1), arm := 0, down := true }) := by unfold St.count; rw [if_neg (by omega), if_pos h1]
    rw [hc] at hg
    have HR := Lib.hid hc
    have h5' := Lib.hid (headR_two (headR_two hw1.out 5 (.bool true)) 3 (.int .i64 0))
    have HG := Lib.hid hg
    rw [h1] at h3
    clear hc hg h1 ha ha1
    go_enter Try.func53, Try.ntmps53
    go_wp2_with fail
    go_ret
    unfold LeftR
    rw [HR.out]
    exact ⟨rfl, HP.out.stores { A with calls := wrap64 (A.calls + 1), arm := 0, down := true } rfl HG.out _ h5'.out.1 h5'.out.2⟩
  · have e1 : (A.arm == 1) = false := by rw [beq_eq_false_iff_ne]; exact h1
    by_cases h0 : A.arm = 0
    · have hc : A.count = (0, { A with calls := wrap64 (A.calls + 1) }) := if_pos h0
      rw [hc] at hg
      have HR := Lib.hid hc
      have HG := Lib.hid hg
      have hn : ¬ 1 < A.arm := by omega
      clear hc hg h0 h1
      go_enter Try.func53, Try.ntmps53
      go_wp2_with fail
      go_ret
      unfold LeftR
      rw [HR.out]
      exact ⟨rfl, HP.out.stores { A with calls := wrap64 (A.calls + 1) } rfl HG.out _ hw1.out.1 hw1.out.2⟩
    · have hc : A.count = (0, { A with calls := wrap64 (A.calls + 1), arm := A.arm - 1 }) := by unfold St.count; rw [if_neg h0, if_neg h1]
      rw [hc] at hg
      have HR := Lib.hid hc
      have HG := Lib.hid hg
      have h3' := Lib.hid (headR_two hw1.out 3 (.int .i64 (A.arm - 1)))
      have hn : 1 < A.arm := by omega
      clear hc hg h0 h1
      go_enter Try.func53, Try.ntmps53
      go_wp2_with fail
      go_ret
      unfold LeftR
      rw [HR.out]
      exact ⟨rfl, HP.out.stores { A with calls := wrap64 (A.calls + 1), arm := A.arm - 1 } rfl HG.out _ h3'.out.1 h3'.out.2⟩

set_option maxHeartbeats 1000000 in
theorem rnow_any {w : World} {k : RB} {A : St} (i : Nat) (h : XD w k A) (hi : i < A.n) : Calls Try.prog 23 #[.pointer (some ⟨k.g, 0, none⟩), .int .i64 i] w fun e w' => e = .returned (str (A.at_ i)) ∧ w = w' := by
  have h0 := h.c0
  have h1 := h.c1
  have h2 := h.c2
  have hI := h.is_ i hi
  have hS := h.sf i hi
  have hN := h.nw i hi
  cases hl : (A.secs.getD i none_).is
  · have HR := Lib.hid (show A.at_ i = (A.secs.getD i none_).safe by unfold St.at_ Sec.now; rw [hl]; rfl)
    rw [hl] at hI
    clear hN hl h
    go_enter Try.func23, Try.ntmps23
    go_wp2_with fail
    go_ret
    rw [HR.out]
    exact ⟨rfl, rfl⟩
  · have HR := Lib.hid (show A.at_ i = (A.secs.getD i none_).new by unfold St.at_ Sec.now; rw [hl]; rfl)
    have hN' := hN hl
    rw [hl] at hI
    clear hN hl h
    go_enter Try.func23, Try.ntmps23
    go_wp2_with fail
    go_ret
    rw [HR.out]
    exact ⟨rfl, rfl⟩
set_option maxHeartbeats 1000000 in
theorem rread_any {w : World} {k : RB} {A : St} (i : Int) (h : XD w k A) : Calls Try.prog 29 #[.pointer (some ⟨k.g, 0, none⟩), .int .i64 i] w fun e w' => e = .returned (readV (A.read i)) ∧ w = w' := by
  have h0 := h.c0
  have h5 := h.c5
  have hnb := h.nb
  cases hd : A.down
  · rw [hd] at h5
    by_cases ho : i < 0 ∨ (A.n : Int) ≤ i
    · have HR := Lib.hid (show A.read i = ([], 3) by unfold St.read; rw [if_neg (by simp [hd]), if_pos ho])
      clear h hd
      rcases ho with ho | ho
      · go_enter Try.func29, Try.ntmps29
        go_wp2_with fail
        go_ret2
        rw [HR.out]
        exact ⟨rfl, rfl⟩
      · by_cases h00 : i < 0
        · omega
        · go_enter Try.func29, Try.ntmps29
          go_wp2_with fail
          go_ret2
          rw [HR.out]
          exact ⟨rfl, rfl⟩
    · obtain ⟨n, rfl⟩ := Int.eq_ofNat_of_zero_le (show 0 ≤ i by omega)
      have HR := Lib.hid (show A.read (n : Int) = (A.at_ n, 0) by unfold St.read; rw [if_neg (by simp [hd]), if_neg ho, Int.toNat_natCast])
      have hlt : (n : Int) < (A.n : Int) := by omega
      have hlt2 : ¬ (n : Int) < 0 := by omega
      have HN := Lib.hid (rnow_any n h (by omega))
      clear h hd ho
      go_enter Try.func29, Try.ntmps29
      go_wp2_with fail
      refine HN.out.mono ?_
      rintro e w' ⟨rfl, rfl⟩
      go_wp2_with fail
      go_ret2
      rw [HR.out]
      exact ⟨rfl, rfl⟩
  · rw [hd] at h5
    have HR := Lib.hid (show A.read i = ([], 13) by unfold St.read; rw [if_pos hd])
    clear h hd
    go_enter Try.func29, Try.ntmps29
    go_wp2_with fail
    go_ret2
    rw [HR.out]
    exact ⟨rfl, rfl⟩
end Go.Proofs.Ytpjpncfoenadhaa
