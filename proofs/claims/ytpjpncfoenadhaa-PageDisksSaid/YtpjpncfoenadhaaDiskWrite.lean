/- The program's Write: what it does to the disk in memory. Conditions: the disk lies in memory as XDiskMem says. -/
import Derived.Test.YtpjpncfoenadhaaArr
namespace Go.Proofs.Ytpjpncfoenadhaa
open Go.RowKit Dk

attribute [local go_sem ↓] exec_loadA exec_storeA exec_zeroA
attribute [local go_sem] run_loadA run_storeA run_zeroA HasA.drew HasA.drewN rdA_drew rdA_drewN wrA_drew wrA_cell wrA_frozen wrA_size HasA.set HasA.wr zero_arr

set_option maxHeartbeats 1000000 in
theorem write_nil (i : Int) (s : ByteArray) (w : World) : Calls Try.prog 21 #[.pointer none, .int .i64 i, .string s] w fun e w' => e = .returned (.int .i64 1) ∧ w = w' := by
  go_enter Try.func21, Try.ntmps21
  go_wp2_with fail
  refine (at_nil i w).mono ?_
  rintro e w' ⟨rfl, rfl⟩
  go_wp2_with fail
  go_ret
  exact ⟨rfl, rfl⟩
set_option maxHeartbeats 1000000 in
theorem write_down {w : World} {k : DB} {A : St} (i : Int) (s : ByteArray) (h : PD w k A) (hd : A.down = true) :
    Calls Try.prog 21 #[.pointer (some ⟨k.g, 0, none⟩), .int .i64 i, .string s] w (Left w k (A.write i s.data.toList)) := by
  have HC := Lib.hid (at_down i h hd)
  have HR := Lib.hid (show A.write i s.data.toList = (13, A) by unfold St.write; rw [if_pos hd])
  have HP := Lib.hid h
  clear h hd
  go_enter Try.func21, Try.ntmps21
  go_wp2_with fail
  refine HC.out.mono ?_
  rintro e w' ⟨rfl, rfl⟩
  go_wp2_with fail
  go_ret
  unfold Left
  rw [HR.out]
  exact ⟨rfl, HP.out, Touch.refl _ _ _⟩
set_option maxHeartbeats 1000000 in
theorem write_out {w : World} {k : DB} {A : St} (i : Int) (s : ByteArray) (h : PD w k A) (hd : A.down = false) (ho : i < 0 ∨ (A.n : Int) ≤ i) :
    Calls Try.prog 21 #[.pointer (some ⟨k.g, 0, none⟩), .int .i64 i, .string s] w (Left w k (A.write i s.data.toList)) := by
  have HC := Lib.hid (at_out i h hd ho)
  have HR := Lib.hid (show A.write i s.data.toList = (3, A) by unfold St.write; rw [if_neg (by simp [hd]), if_pos ho])
  have HP := Lib.hid h
  clear h hd ho
  go_enter Try.func21, Try.ntmps21
  go_wp2_with fail
  refine HC.out.mono ?_
  rintro e w' ⟨rfl, rfl⟩
  go_wp2_with fail
  go_ret
  unfold Left
  rw [HR.out]
  exact ⟨rfl, HP.out, Touch.refl _ _ _⟩

/-- the sector's cells behind the zeros and the copy -/
theorem filled (L : List (List UInt8)) (h : ∀ x ∈ L, x.length = 64) (i : Nat) (hi : i < L.length) (s : List UInt8) :
    splice (splice (bs L.flatten) (i * 64) zero64.toList) (i * 64) (bs (s.take 64)) = bs (L.set i (fill s)).flatten := by
  have hz : zero64.toList = bs (List.replicate 64 0) := by simp [zero64, bs]
  have h1 := flat_splice L h i 0 hi (List.replicate 64 0) (by simp)
  have hl := h _ (List.getElem_mem hi)
  have e1 : splice L[i] 0 (List.replicate 64 0) = List.replicate 64 0 := by
    unfold splice
    rw [List.take_zero, List.nil_append, List.drop_of_length_le (by simp; omega), List.append_nil]
  rw [e1, Nat.add_zero, Nat.mul_comm] at h1
  rw [hz, bs_splice, h1, bs_splice]
  have h2 : ∀ x ∈ L.set i (List.replicate 64 0), x.length = 64 := fun x hx => by
    rcases List.mem_or_eq_of_mem_set hx with hx | rfl
    · exact h x hx
    · simp
  have h3 := flat_splice (L.set i (List.replicate 64 0)) h2 i 0 (by simpa using hi) (s.take 64) (by simp; omega)
  rw [Nat.add_zero, Nat.mul_comm] at h3
  rw [h3, List.set_set]
  congr 3
  rw [List.getElem_set_self]
  unfold splice fill
  rw [List.take_zero, List.nil_append, Nat.zero_add, List.drop_replicate, List.length_take]
  by_cases hs : s.length ≤ 64
  · rw [List.take_of_length_le hs, Nat.min_eq_right hs, List.take_append, List.take_of_length_le hs, List.take_replicate, Nat.min_eq_left (by omega)]
  · rw [Nat.min_eq_left (by omega), List.take_append_of_le_length (by omega)]
    simp

/-- what is still to do behind the first step -/
theorem sized {w w5 : World} {k : DB} {A : St} {i : Nat} {s : List UInt8} (h : PD w k A) (hh : Half w k A i s w5) : w5.heap[k.a]? = some (.cells (bs (nowL A).flatten).toArray 83 (0, 0)) := hh.now.trans h.now
theorem Half.hasA {w w5 : World} {k : DB} {A : St} {i : Nat} {s : List UInt8} (h : PD w k A) (hi : i < A.n) (hh : Half w k A i s w5) : HasA w5 k.a (i * 64) := by
  refine ⟨_, _, sized h hh, ?_⟩
  have hl := flat_length _ h.nowlen
  have : (nowL A).length = A.n := h.nowl
  simp [bs_length, hl, this]
  omega
theorem copied {w w5 : World} {k : DB} {A : St} {i : Nat} {s : ByteArray} (h : PD w k A) (hi : i < A.n) (hh : Half w k A i s.data.toList w5) :
    ∃ cur : List Value, (wrA w5 k.a (i * 64) zero64).heap[k.a]? = some (.cells cur.toArray 83 (0, 0)) ∧ i * 64 + min s.size 64 ≤ cur.length ∧
      PD ((wrA w5 k.a (i * 64) zero64).setRow k.a (splice cur (i * 64) (bs (s.data.toList.take 64))).toArray) k (A.put i s.data.toList) ∧
      Touch k.lo k.hi w ((wrA w5 k.a (i * 64) zero64).setRow k.a (splice cur (i * 64) (bs (s.data.toList.take 64))).toArray) := by
  have h5 := sized h hh
  have h6 := wrA_heap (off := i * 64) (vs := zero64) h5
  have hi' : i < (nowL A).length := by rw [h.nowl]; exact hi
  refine ⟨_, h6, ?_, ?_⟩
  · have hl := flat_length _ h.nowlen
    have hz : zero64.toList.length = 64 := by simp [zero64]
    have : (nowL A).length = A.n := h.nowl
    rw [length_splice _ _ _ (by simp [bs_length, hl, this, zero64]; omega)]
    simp [bs_length, hl, this]
    omega
  · have hh' := hh.done h hi (w6 := ((wrA w5 k.a (i * 64) zero64).setRow k.a (splice (splice (bs (nowL A).flatten).toArray.toList (i * 64) zero64.toList) (i * 64) (bs (s.data.toList.take 64))).toArray))
      ((Touch.wrA w5 ⟨Nat.le_refl _, Nat.lt_succ_self _⟩ _ _).trans (Touch.setRow _ ⟨Nat.le_refl _, Nat.lt_succ_self _⟩ _))
    refine hh' ?_
    rw [setRow_heap _ k.a _ _ _ _ h6]
    congr 3
    have := filled (nowL A) h.nowlen i hi' s.data.toList
    simpa using this

set_option maxRecDepth 100000 in
set_option maxHeartbeats 2000000 in
theorem write_in {w : World} {k : DB} {A : St} (i : Nat) (s : ByteArray) (h : PD w k A) (hd : A.down = false) (hi : i < A.n) :
    Calls Try.prog 21 #[.pointer (some ⟨k.g, 0, none⟩), .int .i64 (i : Int), .string s] w (Left w k (A.write i s.data.toList)) := by
  have h0 := h.c0
  have h1 := h.c1
  have h2 := h.c2
  have hn := h.nb
  have hI := h.is_ i hi
  have fI := h.fc i
  have HP := Lib.hid h
  have HC := Lib.hid (at_in (i : Int) h hd (by omega) (by omega))
  have hA := h.hasA i hi
  have hB := h.hasB i hi
  have hr := h.read i hi
  have h64 : Arr64 (bs (A.at_ i)).toArray := bs_arr _ (by
    unfold St.at_
    have : A.secs.getD i none_ ∈ A.secs := by
      rw [List.getD_eq_getElem?_getD, List.getElem?_eq_getElem (show i < A.secs.length from hi)]
      exact List.getElem_mem _
    exact now_len (h.good.len _ this))
  have ok := h.ok
  have nga := ok.ga
  have ngb := ok.gb
  have ngc := ok.gc
  have nab := ok.ab
  have nac := ok.ac
  have nbc := ok.bc
  have ncb := ok.bc.symm
  have nba := ok.ab.symm
  have nca := ok.ac.symm
  have HR := Lib.hid (show A.write i s.data.toList = (A.put i s.data.toList).count by unfold St.write; rw [if_neg (by simp [hd]), if_neg (by omega), Int.toNat_natCast])
  have HD := Lib.hid (show (A.put i s.data.toList).down = false from hd)
  have hlo : (A.secs.getD i none_).is = true ∨ (A.secs.getD i none_).is = false := by cases (A.secs.getD i none_).is <;> simp
  clear hd ok
  rcases hlo with hl | hl
  · obtain ⟨cur, hcur0, hfit0, hpd0, htt0⟩ := copied h hi (Half.was h i hi s.data.toList hl)
    have hcur := Lib.hid hcur0
    have hfit := Lib.hid hfit0
    have hpd := Lib.hid hpd0
    have htt := Lib.hid htt0
    rw [hl] at hI
    clear hl h hcur0 hfit0 hpd0 htt0
    go_enter Try.func21, Try.ntmps21
    go_wp2_with fail
    refine HC.out.mono ?_
    rintro e w' ⟨rfl, rfl⟩
    go_wp2_with (refine wpList_copy_text_at (o := ⟨some 56, _, _, _, _, _⟩) rfl (.tmp 54) (.tmp 55) 81 9 rfl 5 Try.underlying81 (by kernel_rfl) k.a (i * 64) 64 64 s rfl rfl cur 83 hcur.out hfit.out ?_)
    refine (counts_any hpd.out HD.out).mono ?_
    rintro e w6 ⟨rfl, hp6, ht6⟩
    have hp := Lib.hid hp6
    have ht := Lib.hid (htt.out.trans ht6)
    clear hp6 ht6
    go_wp2_with fail
    go_ret
    unfold Left
    rw [HR.out]
    exact ⟨rfl, hp.out, ht.out⟩
  · obtain ⟨w5, hw5⟩ : ∃ w5, w5 = ((wrA w k.b (i * 64) (bs (A.at_ i)).toArray).setCell ⟨k.c, i, none⟩ (.bool true)).drew := ⟨_, rfl⟩
    have hh0 := Half.new h i hi s.data.toList hl
    rw [← hw5] at hh0
    have hh := Lib.hid hh0
    obtain ⟨cur, hcur0, hfit0, hpd0, htt0⟩ := copied h hi hh0
    have hcur := Lib.hid hcur0
    have hfit := Lib.hid hfit0
    have hpd := Lib.hid hpd0
    have htt := Lib.hid htt0
    have HW5 := Lib.hid hw5
    rw [hl] at hI
    clear hl h hcur0 hfit0 hpd0 htt0 hh0 hw5
    go_enter Try.func21, Try.ntmps21
    go_wp2_with fail
    refine HC.out.mono ?_
    rintro e w' ⟨rfl, rfl⟩
    go_wp2_with fail
    go_region
    rw [← HW5.out]
    have h0' : w5.cell? ⟨k.g, 0, none⟩ = some (Value.slice (some ⟨k.a, 0, none⟩) A.n A.n) := (World.cell?_of_block (w := w) hh.out.head).trans h0
    have hA5 := hh.out.hasA HP.out hi
    clear h0 h1 h2 hI fI hA hB hr h64
    go_wp2_with (refine wpList_copy_text_at (o := ⟨some 56, _, _, _, _, _⟩) rfl (.tmp 54) (.tmp 55) 81 9 rfl 5 Try.underlying81 (by kernel_rfl) k.a (i * 64) 64 64 s rfl rfl cur 83 hcur.out hfit.out ?_)
    refine (counts_any hpd.out HD.out).mono ?_
    rintro e w6 ⟨rfl, hp6, ht6⟩
    have hp := Lib.hid hp6
    have ht := Lib.hid (htt.out.trans ht6)
    clear hp6 ht6
    go_wp2_with fail
    go_ret
    unfold Left
    rw [HR.out]
    exact ⟨rfl, hp.out, ht.out⟩
end Go.Proofs.Ytpjpncfoenadhaa
