/- The program's Read and Sync: what they answer and do. Conditions: the disk lies in memory as XDiskMem says. -/
import Derived.Test.YtpjpncfoenadhaaArr
import Derived.Laws.IdiomStrings
namespace Go.Proofs.Ytpjpncfoenadhaa
open Go.RowKit Dk

attribute [local go_sem ↓] exec_loadA exec_storeA exec_zeroA
attribute [local go_sem] run_loadA run_storeA run_zeroA HasA.drew HasA.drewN rdA_drew rdA_drewN wrA_drew wrA_cell wrA_frozen wrA_size HasA.set HasA.wr zero_arr

set_option maxHeartbeats 1000000 in
theorem read_nil (i : Int) (w : World) : Calls Try.prog 18 #[.pointer none, .int .i64 i] w fun e w' => e = .returned (.tuple #[.string ⟨#[]⟩, .int .i64 1]) ∧ w = w' := by
  go_enter Try.func18, Try.ntmps18
  go_wp2_with fail
  refine (at_nil i w).mono ?_
  rintro e w' ⟨rfl, rfl⟩
  go_wp2_with fail
  go_ret2
  exact ⟨rfl, rfl⟩
set_option maxHeartbeats 1000000 in
theorem read_down {w : World} {k : DB} {A : St} (i : Int) (h : PD w k A) (hd : A.down = true) :
    Calls Try.prog 18 #[.pointer (some ⟨k.g, 0, none⟩), .int .i64 i] w fun e w' => e = .returned (.tuple #[.string ⟨#[]⟩, .int .i64 13]) ∧ w = w' := by
  have HC := Lib.hid (at_down i h hd)
  clear h hd
  go_enter Try.func18, Try.ntmps18
  go_wp2_with fail
  refine HC.out.mono ?_
  rintro e w' ⟨rfl, rfl⟩
  go_wp2_with fail
  go_ret2
  exact ⟨rfl, rfl⟩
set_option maxHeartbeats 1000000 in
theorem read_out {w : World} {k : DB} {A : St} (i : Int) (h : PD w k A) (hd : A.down = false) (ho : i < 0 ∨ (A.n : Int) ≤ i) :
    Calls Try.prog 18 #[.pointer (some ⟨k.g, 0, none⟩), .int .i64 i] w fun e w' => e = .returned (.tuple #[.string ⟨#[]⟩, .int .i64 3]) ∧ w = w' := by
  have HC := Lib.hid (at_out i h hd ho)
  clear h hd ho
  go_enter Try.func18, Try.ntmps18
  go_wp2_with fail
  refine HC.out.mono ?_
  rintro e w' ⟨rfl, rfl⟩
  go_wp2_with fail
  go_ret2
  exact ⟨rfl, rfl⟩
theorem PD.at_len {w : World} {k : DB} {A : St} (h : PD w k A) (i : Nat) (hi : i < A.n) : (A.at_ i).length = 64 := by
  unfold St.at_
  have : A.secs.getD i none_ ∈ A.secs := by
    rw [List.getD_eq_getElem?_getD, List.getElem?_eq_getElem (show i < A.secs.length from hi)]
    exact List.getElem_mem _
  exact now_len (h.good.len _ this)
theorem PD.text {w : World} {k : DB} {A : St} (h : PD w k A) (i : Nat) (hi : i < A.n) :
    (convert 81 9 (.slice (some ⟨k.a, i * 64, none⟩) 64 64)).run Try.prog w = .ok (.string ⟨(A.at_ i).toArray⟩) w := by
  have hl := h.at_len i hi
  have hc := run_convert_bytes_back (P := Try.prog) w 81 9 5 ⟨k.a, i * 64, none⟩ 64 (A.at_ i) Try.underlying81 Try.underlying5 Try.underlying9 (fun j hj => by
    have e : (⟨k.a, i * 64, none⟩ : Addr).add j = ⟨k.a, i * 64 + j, none⟩ := by unfold Addr.add; split <;> simp_all
    have hi' : i < (nowL A).length := by rw [h.nowl]; exact hi
    rw [e, cell_of_row w k.a _ _ _ (0, 0) h.now]
    have hf := flat_get (nowL A) h.nowlen i j hi' (by omega)
    have hn : (nowL A)[i] = A.at_ i := by
      simp [nowL, St.at_, List.getD_eq_getElem?_getD, show i < A.secs.length from hi]
    rw [hn, Nat.mul_comm] at hf
    rw [List.getElem?_toArray, bs_at, hf, List.getElem?_eq_getElem hj]
    rfl)
  rw [hl] at hc
  exact hc
set_option maxHeartbeats 1000000 in
theorem read_in {w : World} {k : DB} {A : St} (i : Nat) (h : PD w k A) (hd : A.down = false) (hi : i < A.n) :
    Calls Try.prog 18 #[.pointer (some ⟨k.g, 0, none⟩), .int .i64 (i : Int)] w fun e w' => e = .returned (.tuple #[.string ⟨(A.at_ i).toArray⟩, .int .i64 0]) ∧ w = w' := by
  have HC := Lib.hid (at_in (i : Int) h hd (by omega) (by omega))
  have h0 := h.c0
  have hn := h.nb
  have hcv := h.text i hi
  clear h hd
  go_enter Try.func18, Try.ntmps18
  go_wp2_with fail
  refine HC.out.mono ?_
  rintro e w' ⟨rfl, rfl⟩
  go_wp2_with fail
  go_ret2
  exact ⟨rfl, rfl⟩

/-- all of Read -/
def readV (r : List UInt8 × Int) : Value := .tuple #[.string ⟨r.1.toArray⟩, .int .i64 r.2]
theorem read_any {w : World} {k : DB} {A : St} (i : Int) (h : PD w k A) :
    Calls Try.prog 18 #[.pointer (some ⟨k.g, 0, none⟩), .int .i64 i] w fun e w' => e = .returned (readV (A.read i)) ∧ w = w' := by
  cases hd : A.down
  · by_cases ho : i < 0 ∨ (A.n : Int) ≤ i
    · have : A.read i = ([], 3) := by unfold St.read; rw [if_neg (by simp [hd]), if_pos ho]
      rw [this]
      exact read_out i h hd ho
    · obtain ⟨n, rfl⟩ := Int.eq_ofNat_of_zero_le (show 0 ≤ i by omega)
      have : A.read (n : Int) = (A.at_ n, 0) := by unfold St.read; rw [if_neg (by simp [hd]), if_neg ho, Int.toNat_natCast]
      rw [this]
      exact read_in n h hd (by omega)
  · have : A.read i = ([], 13) := by unfold St.read; rw [if_pos hd]
    rw [this]
    exact read_down i h hd

/-! Sync -/
theorem clear_bools (w : World) (k : DB) (n : Nat) (cs : Array Value) (hs : cs.size = n) (hg : w.heap[k.c]? = some (.cells cs 4 (0, 0))) :
    (Builtin.clear_ #[23] 0 #[.slice (some ⟨k.c, 0, none⟩) n n]).run Try.prog w = .ok (.tuple #[]) (w.setRow k.c (Array.replicate n (.bool false))) := by
  rcases Nat.eq_zero_or_pos n with h0 | h0
  · subst h0
    have e : cs = #[] := Array.eq_empty_of_size_eq_zero hs
    subst e
    rw [Array.replicate_zero, setRow_self w k.c #[] _ _ hg]
    simp [Builtin.clear_, run_underlying Try.underlying23]
  · obtain ⟨m, rfl⟩ : ∃ m, n = m + 1 := ⟨n - 1, by omega⟩
    have hz : (zeroValue 4).run Try.prog w = .ok (.bool false) w := by kernel_rfl
    have hzc : (Builtin.zeroCells (Value.bool false).cells (m + 1)).toList = List.replicate (m + 1) (.bool false) := by
      apply List.ext_getElem
      · simp [Builtin.zeroCells, Value.cells]
      · intro i h1 h2
        simp [Builtin.zeroCells, Value.cells, Nat.mod_one]
    have hst := run_storeCells_at Try.prog k.c 0 4 (List.replicate (m + 1) (.bool false)) 0 cs w hg (by simp [hs]) (fun v hv => by rw [List.eq_of_mem_replicate hv]; rfl)
    have e2 : (cs.toList.take (0 + 0) ++ List.replicate (m + 1) (Value.bool false) ++ cs.toList.drop (0 + 0 + (List.replicate (m + 1) (Value.bool false)).length)).toArray = Array.replicate (m + 1) (.bool false) := by
      apply Array.ext'
      simp [hs]
    rw [e2] at hst
    simp only [Builtin.clear_, Sem.run_bind, run_underlying Try.underlying23, Result.andThen_ok, hz, hzc, hst, Sem.run_pure, List.getElem?_toArray, List.getElem?_cons_zero]
theorem PD.settled {w : World} {k : DB} {A : St} (h : PD w k A) : PD (w.setRow k.c (Array.replicate A.n (.bool false))) k A.settle ∧ Touch k.lo k.hi w (w.setRow k.c (Array.replicate A.n (.bool false))) := by
  have ok := h.ok
  have ht := Touch.setRow w ok.c (Array.replicate A.n (.bool false))
  have st : ∀ i, i ≠ k.c → (w.setRow k.c (Array.replicate A.n (.bool false))).heap[i]? = w.heap[i]? := fun i hi => setRow_other w k.c i _ hi
  obtain ⟨L, h1, h2⟩ := h.old
  have hnow : nowL A.settle = nowL A := by
    simp only [nowL, St.settle, List.map_map]
    apply List.map_congr_left
    intro x _
    rfl
  refine ⟨⟨ok, Nat.le_trans h.inn ht.size, Good.settle h.good, ?_, ?_, ⟨L, ⟨h1.1.trans (n_settle A).symm, h1.2.1, fun i x hx hxi => ?_⟩, (st _ ok.bc).trans h2⟩, ?_⟩, ht⟩
  · rw [st _ ok.gc, h.head]
    unfold headV
    rw [n_settle]
    rfl
  · rw [st _ ok.ac, h.now, hnow]
  · simp only [St.settle, List.getElem?_map] at hx
    cases hy : A.secs[i]? with
    | none => rw [hy] at hx; cases hx
    | some y =>
      rw [hy] at hx
      have := Option.some.inj hx
      rw [← this] at hxi
      cases hxi
  · rw [setRow_heap w k.c _ _ _ _ h.loose]
    congr 2
    apply Array.ext'
    apply List.ext_getElem
    · simp [St.settle, St.n]
    · intro i h3 h4
      simp [St.settle, Dk.settle]
set_option maxRecDepth 100000 in
set_option maxHeartbeats 1000000 in
theorem sync_any {w : World} {k : DB} {A : St} (h : PD w k A) : Calls Try.prog 27 #[.pointer (some ⟨k.g, 0, none⟩)] w (Left w k A.sync) := by
  cases hd : A.down
  · have HC := Lib.hid (works_any false h hd)
    have HK := Lib.hid (counts_any h hd)
    have HP := Lib.hid h
    by_cases h0 : A.count.1 = 0
    · have HR := Lib.hid (show A.sync = (0, A.count.2.settle) by unfold St.sync; rw [if_neg (by simp [hd]), if_neg (by simp [h0])])
      have H0 := Lib.hid h0
      clear h hd h0
      go_enter Try.func27, Try.ntmps27
      go_wp2_with fail
      refine HC.out.mono ?_
      rintro e w' ⟨rfl, rfl⟩
      go_wp2_with fail
      refine HK.out.mono ?_
      rintro e w1 ⟨rfl, hp0, ht0⟩
      have hp := Lib.hid hp0
      have ht := Lib.hid ht0
      have h2 := hp0.c2
      have hcl := clear_bools w1 k A.count.2.n _ (by simp [St.n]) hp0.loose
      clear hp0 ht0
      rw [H0.out]
      go_wp2_with fail
      go_ret
      unfold Left
      rw [HR.out]
      exact ⟨rfl, hp.out.settled.1, ht.out.trans hp.out.settled.2⟩
    · have h13 : A.count.1 = 13 := by
        unfold St.count at h0 ⊢
        split
        · rename_i h; rw [if_pos h] at h0; exact absurd rfl h0
        · rename_i h
          rw [if_neg h] at h0
          split
          · rfl
          · rename_i h'; rw [if_neg h'] at h0; exact absurd rfl h0
      have HR := Lib.hid (show A.sync = A.count by unfold St.sync; rw [if_neg (by simp [hd]), if_pos h0])
      have H0 := Lib.hid h13
      clear h hd h0 h13
      go_enter Try.func27, Try.ntmps27
      go_wp2_with fail
      refine HC.out.mono ?_
      rintro e w' ⟨rfl, rfl⟩
      go_wp2_with fail
      refine HK.out.mono ?_
      rintro e w1 ⟨rfl, hp0, ht0⟩
      have hp := Lib.hid hp0
      have ht := Lib.hid ht0
      clear hp0 ht0
      rw [H0.out]
      go_wp2_with fail
      go_ret
      unfold Left
      rw [HR.out, H0.out]
      exact ⟨rfl, hp.out, ht.out⟩
  · have HC := Lib.hid (works_any true h hd)
    have HR := Lib.hid (show A.sync = (13, A) by unfold St.sync; rw [if_pos hd])
    have HP := Lib.hid h
    clear h hd
    go_enter Try.func27, Try.ntmps27
    go_wp2_with fail
    refine HC.out.mono ?_
    rintro e w' ⟨rfl, rfl⟩
    go_wp2_with fail
    go_ret
    unfold Left
    rw [HR.out]
    exact ⟨rfl, HP.out, Touch.refl _ _ _⟩
set_option maxHeartbeats 1000000 in
theorem sync_nil (w : World) : Calls Try.prog 27 #[.pointer none] w fun e w' => e = .returned (.int .i64 1) ∧ w = w' := by
  go_enter Try.func27, Try.ntmps27
  go_wp2_with fail
  refine (works_nil w).mono ?_
  rintro e w' ⟨rfl, rfl⟩
  go_wp2_with fail
  go_ret
  exact ⟨rfl, rfl⟩
/-- all of Write -/
theorem write_any_of {w : World} {k : DB} {A : St} (i : Int) (s : ByteArray) (h : PD w k A)
    (hdown : A.down = true → Calls Try.prog 21 #[.pointer (some ⟨k.g, 0, none⟩), .int .i64 i, .string s] w (Left w k (A.write i s.data.toList)))
    (hout : A.down = false → (i < 0 ∨ (A.n : Int) ≤ i) → Calls Try.prog 21 #[.pointer (some ⟨k.g, 0, none⟩), .int .i64 i, .string s] w (Left w k (A.write i s.data.toList)))
    (hin : A.down = false → ∀ n : Nat, i = (n : Int) → n < A.n → Calls Try.prog 21 #[.pointer (some ⟨k.g, 0, none⟩), .int .i64 i, .string s] w (Left w k (A.write i s.data.toList))) :
    Calls Try.prog 21 #[.pointer (some ⟨k.g, 0, none⟩), .int .i64 i, .string s] w (Left w k (A.write i s.data.toList)) := by
  have _ := h
  cases hd : A.down
  · by_cases ho : i < 0 ∨ (A.n : Int) ≤ i
    · exact hout hd ho
    · obtain ⟨n, rfl⟩ := Int.eq_ofNat_of_zero_le (show 0 ≤ i by omega)
      exact hin hd n rfl (by omega)
  · exact hdown hd
end Go.Proofs.Ytpjpncfoenadhaa
