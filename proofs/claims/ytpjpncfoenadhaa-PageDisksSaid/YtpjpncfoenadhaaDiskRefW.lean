/- The reference's Loose, Write, Sync. No condition but that the disk lies in memory. -/
import Derived.Test.YtpjpncfoenadhaaDiskRef
import Derived.StillTailTactics
namespace Go.Proofs.Ytpjpncfoenadhaa
open Go.RowKit Dk

theorem looseL_le (l : List Sec) : looseL l ≤ l.length := List.countP_le_length
set_option maxHeartbeats 2000000 in
theorem rloose_any {w : World} {k : RB} {A : St} (h : XD w k A) : Calls Try.prog 31 #[.pointer (some ⟨k.g, 0, none⟩)] w fun e w' => e = .returned (.int .i64 (A.loose : Nat)) ∧ w = w' := by
  have h2 := h.c2
  have hnb := h.nb
  have HP := Lib.hid h
  clear h
  go_enter Try.func31, Try.ntmps31
  go_wp2_with fail
  go_loop [3, 4] (fun c i => ∃ n : Nat, n ≤ A.n ∧ i = .int .i64 n ∧ c = .int .i64 (upTo A n : Nat)) (fun _ i => 5000 - (intOf i).toNat)
  case atStart => exact ⟨0, Nat.zero_le _, rfl, rfl⟩
  case round =>
    obtain ⟨i, hi, rfl, rfl⟩ := hrel
    have hu := upTo_le A i
    by_cases hlt : i < A.n
    · have hI := HP.out.is_ i hlt
      have hsec := HP.out.sec i hlt
      have hs := upTo_succ A i _ hsec
      cases hv : (A.secs.getD i none_).is
      · rw [hv] at hI hs
        have HS := Lib.hid hs
        clear hs hsec hv
        go_wp2_with fail
        go_round
        case rel => exact ⟨i + 1, by omega, by go_num, by rw [HS.out]; rfl⟩
        case measure => simp [intOf]; omega
      · rw [hv] at hI hs
        have HS := Lib.hid hs
        clear hs hsec hv
        go_wp2_with fail
        go_round
        case rel => exact ⟨i + 1, by omega, by go_num, by rw [HS.out]; go_num⟩
        case measure => simp [intOf]; omega
    · obtain rfl : i = A.n := by omega
      have HE := Lib.hid (show upTo A A.n = A.loose by unfold upTo St.loose St.n; rw [List.take_length])
      go_wp2_with fail
      go_ret
      rw [HE.out]
      exact ⟨rfl, rfl⟩

/-! Write -/
theorem XD.put {w w' : World} {k : RB} {A : St} {i : Nat} {s : List UInt8} (h : XD w k A) (hi : i < A.n) (hb : Below w.heap.size w w') :
    XD ((w'.setCell ⟨k.n, i, none⟩ (str (fill s))).setCell ⟨k.b, i, none⟩ (.bool true)) k (A.put i s) ∧ Touch k.lo k.hi w ((w'.setCell ⟨k.n, i, none⟩ (str (fill s))).setCell ⟨k.b, i, none⟩ (.bool true)) := by
  have hx := h.below hb
  have ok := hx.ok
  have ht : Touch k.lo k.hi w ((w'.setCell ⟨k.n, i, none⟩ (str (fill s))).setCell ⟨k.b, i, none⟩ (.bool true)) :=
    ((Touch.of_below hb).trans (Touch.setCell w' (p := ⟨k.n, i, none⟩) ok.n _)).trans (Touch.setCell _ (p := ⟨k.b, i, none⟩) ok.b _)
  have st : ∀ j, j ≠ k.n → j ≠ k.b → ((w'.setCell ⟨k.n, i, none⟩ (str (fill s))).setCell ⟨k.b, i, none⟩ (.bool true)).heap[j]? = w'.heap[j]? := fun j h1 h2 => (Below.heap_setCell _ _ _ _ h2).trans (Below.heap_setCell _ _ _ _ h1)
  obtain ⟨L, h1, h2⟩ := hx.new
  have hL : i < L.length := by rw [h1.1]; exact hi
  refine ⟨⟨ok, Nat.le_trans h.inn ht.size, Good.put h.good i s, ?_, ?_, ⟨L.set i (str (fill s)), ⟨by rw [List.length_set]; exact h1.1.trans (n_put A i s).symm, fun j x hxj hxi => ?_⟩, (h2.set i hL _).keep (Below.heap_setCell _ _ _ _ ok.nb)⟩, ?_⟩, ht⟩
  · rw [st _ ok.gn ok.gb, hx.head]
    unfold headR
    rw [n_put]
    rfl
  · have e : ((A.put i s).secs.map fun x => str x.safe) = A.secs.map fun x => str x.safe := by
      apply List.ext_getElem?
      intro j
      simp only [St.put, List.getElem?_map, modify_at]
      by_cases e : i = j
      · rw [if_pos e]
        cases A.secs[j]? <;> rfl
      · rw [if_neg e]
    rw [e]
    exact hx.safe.keep (st _ ok.sn ok.sb)
  · obtain ⟨y, hy, hne, he⟩ := put_get A i s j x hxj
    by_cases e : i = j
    · rw [he e]
      subst e
      rw [List.getElem?_set_self hL]
      rfl
    · rw [hne e] at hxi ⊢
      rw [List.getElem?_set_ne e]
      exact h1.2 j y hy hxi
  · have e : ((A.put i s).secs.map fun x => Value.bool x.is) = (A.secs.map fun x => Value.bool x.is).set i (.bool true) := by
      rw [put_loose]
      apply List.ext_getElem?
      intro j
      rw [modify_at]
      by_cases e : i = j
      · subst e
        rw [List.getElem?_set_self (by simpa [St.n] using hi), if_pos rfl, List.getElem?_map, hx.sec i hi]
        rfl
      · rw [List.getElem?_set_ne e, if_neg e]
    rw [e]
    exact (hx.is.keep (Below.heap_setCell _ _ _ _ ok.nb.symm)).set i (by simpa [St.n] using hi) _
theorem XD.ncell {w : World} {k : RB} {A : St} (h : XD w k A) (i : Nat) (hi : i < A.n) : ∃ v, w.cell? ⟨k.n, i, none⟩ = some v := by
  obtain ⟨L, h1, h2⟩ := h.new
  have hl : i < L.length := by rw [h1.1]; exact hi
  exact ⟨_, h2.cell i _ (List.getElem?_eq_getElem hl)⟩
set_option maxHeartbeats 1000000 in
theorem rwrite_out {w : World} {k : RB} {A : St} (i : Int) (s : ByteArray) (h : XD w k A) (ho : A.down = true ∨ i < 0 ∨ (A.n : Int) ≤ i) :
    Calls Try.prog 22 #[.pointer (some ⟨k.g, 0, none⟩), .int .i64 i, .string s] w (LeftR w k (A.write i s.data.toList)) := by
  have h0 := h.c0
  have h5 := h.c5
  have HP := Lib.hid h
  cases hd : A.down
  · have ho : i < 0 ∨ (A.n : Int) ≤ i := by simpa [hd] using ho
    have HR := Lib.hid (show A.write i s.data.toList = (3, A) by unfold St.write; rw [if_neg (by simp [hd]), if_pos ho])
    rw [hd] at h5
    clear hd h
    rcases ho with ho | ho
    · go_enter Try.func22, Try.ntmps22
      go_wp2_with fail
      go_ret
      unfold LeftR
      rw [HR.out]
      exact ⟨rfl, HP.out, Touch.refl _ _ _⟩
    · by_cases h00 : i < 0
      · have := h0; omega
      · go_enter Try.func22, Try.ntmps22
        go_wp2_with fail
        go_ret
        unfold LeftR
        rw [HR.out]
        exact ⟨rfl, HP.out, Touch.refl _ _ _⟩
  · have HR := Lib.hid (show A.write i s.data.toList = (13, A) by unfold St.write; rw [if_pos hd])
    rw [hd] at h5
    clear hd h ho
    go_enter Try.func22, Try.ntmps22
    go_wp2_with fail
    go_ret
    unfold LeftR
    rw [HR.out]
    exact ⟨rfl, HP.out, Touch.refl _ _ _⟩
set_option maxRecDepth 100000 in
set_option maxHeartbeats 2000000 in
theorem rwrite_in {w : World} {k : RB} {A : St} (i : Nat) (s : ByteArray) (h : XD w k A) (hd : A.down = false) (hi : i < A.n) (hs : s.size ≤ 600) :
    Calls Try.prog 22 #[.pointer (some ⟨k.g, 0, none⟩), .int .i64 i, .string s] w (LeftR w k (A.write i s.data.toList)) := by
  have h0 := h.c0
  have h1 := h.c1
  have h5 := h.c5
  rw [hd] at h5
  have hlt : (i : Int) < (A.n : Int) := by omega
  have hlt2 : ¬ (i : Int) < 0 := by omega
  have hnb := h.nb
  have HP := Lib.hid h
  have HR := Lib.hid (show A.write i s.data.toList = (A.put i s.data.toList).count by unfold St.write; rw [if_neg (by simp [hd]), if_neg (by omega), Int.toNat_natCast])
  have HD := Lib.hid (show (A.put i s.data.toList).down = false from hd)
  have HI := Lib.hid hi
  have HF := Lib.hid (fun w => fill_any s w hs)
  clear h hd hs hi
  go_enter Try.func22, Try.ntmps22
  go_wp2_with fail
  go_region_with ((with_reducible refine (HF.out _).mono ?_); rintro e w' ⟨rfl, hb⟩; have hq := (HP.out.below (below_drewN (Below.refl _ _) 1)).below hb; have q1 := hq.c1; have q3 := hq.fn i; obtain ⟨q4, q5⟩ := hq.ncell i HI.out)
  all_goals
    have hb2 : Below w.heap.size w w' := (below_drewN (Below.refl _ w) 1).trans hb
    have q2 := hq.c2
    have q6 := hq.fb i
    have q7 := hq.is_ i HI.out
    have ok := hq.ok
    have n1 := ok.gn
    have n2 := ok.nb.symm
    have hp := HP.out.put (s := s.data.toList) HI.out hb2
    have HC := Lib.hid (rcount_any hp.1 HD.out)
    have HT := Lib.hid hp.2
    clear hp hb hb2 q1 ok
    unfold str at HC HT
    go_wp2_with fail
    refine HC.out.mono ?_
    rintro e w6 ⟨rfl, hp6, ht6⟩
    have hp := Lib.hid hp6
    have ht := Lib.hid (HT.out.trans ht6)
    clear hp6 ht6 HT HC
    go_wp2_with fail
    go_ret
    unfold LeftR
    rw [HR.out]
    exact ⟨rfl, hp.out, ht.out⟩
theorem rwrite_any {w : World} {k : RB} {A : St} (i : Int) (s : ByteArray) (h : XD w k A) (hs : s.size ≤ 600) :
    Calls Try.prog 22 #[.pointer (some ⟨k.g, 0, none⟩), .int .i64 i, .string s] w (LeftR w k (A.write i s.data.toList)) := by
  by_cases ho : A.down = true ∨ i < 0 ∨ (A.n : Int) ≤ i
  · exact rwrite_out i s h ho
  · obtain ⟨n, rfl⟩ := Int.eq_ofNat_of_zero_le (show 0 ≤ i by omega)
    exact rwrite_in n s h (by cases hd : A.down <;> simp_all) (by omega) hs

/-! Sync -/
theorem XD.settleAt {w : World} {k : RB} {A : St} {i : Nat} (h : XD w k A) (hi : i < A.n) (B : St) (hB : B = { A with secs := A.secs.modify i Dk.settle }) :
    XD ((w.setCell ⟨k.s, i, none⟩ (str (A.at_ i))).setCell ⟨k.b, i, none⟩ (.bool false)) k B ∧ Touch k.lo k.hi w ((w.setCell ⟨k.s, i, none⟩ (str (A.at_ i))).setCell ⟨k.b, i, none⟩ (.bool false)) := by
  subst hB
  have ok := h.ok
  have hx := h.sec i hi
  have hat : A.at_ i = (A.secs.getD i none_).now := rfl
  rw [hat]
  generalize A.secs.getD i none_ = x at *
  have hxl := h.good.len x (List.mem_of_getElem? hx)
  have hmi : ∀ j y, (A.secs.modify i Dk.settle)[j]? = some y → (i ≠ j ∧ A.secs[j]? = some y) ∨ (i = j ∧ y = Dk.settle x) := by
    intro j y hy
    rw [modify_at] at hy
    by_cases e : i = j
    · subst e
      rw [if_pos rfl, hx] at hy
      exact .inr ⟨rfl, (Option.some.inj hy).symm⟩
    · rw [if_neg e] at hy
      exact .inl ⟨e, hy⟩
  have ht : Touch k.lo k.hi w ((w.setCell ⟨k.s, i, none⟩ (str x.now)).setCell ⟨k.b, i, none⟩ (.bool false)) :=
    (Touch.setCell w (p := ⟨k.s, i, none⟩) ok.s _).trans (Touch.setCell _ (p := ⟨k.b, i, none⟩) ok.b _)
  have st : ∀ j, j ≠ k.s → j ≠ k.b → ((w.setCell ⟨k.s, i, none⟩ (str x.now)).setCell ⟨k.b, i, none⟩ (.bool false)).heap[j]? = w.heap[j]? := fun j h1 h2 => (Below.heap_setCell _ _ _ _ h2).trans (Below.heap_setCell _ _ _ _ h1)
  obtain ⟨L, h1, h2⟩ := h.new
  refine ⟨⟨ok, Nat.le_trans h.inn ht.size, ⟨?_, h.good.arm0, h.good.arm1, by simpa using h.good.big⟩, ?_, ?_, ⟨L, ⟨h1.1.trans (by simp [St.n]), fun j y hy hyi => ?_⟩, h2.keep (st _ ok.sn.symm ok.nb)⟩, ?_⟩, ht⟩
  · intro y hy
    obtain ⟨j, hj⟩ := List.mem_iff_getElem?.1 hy
    rcases hmi j y hj with ⟨_, h3⟩ | ⟨_, rfl⟩
    · exact h.good.len y (List.mem_of_getElem? h3)
    · exact ⟨now_len hxl, hxl.2⟩
  · rw [st _ ok.gs ok.gb, h.head]
    simp [headR, St.n]
  · have e : ((A.secs.modify i Dk.settle).map fun x => str x.safe) = (A.secs.map fun x => str x.safe).set i (str x.now) := by
      apply List.ext_getElem?
      intro j
      simp only [List.getElem?_map, modify_at]
      by_cases e : i = j
      · subst e
        rw [List.getElem?_set_self (by simpa [St.n] using hi), if_pos rfl, hx]
        rfl
      · rw [List.getElem?_set_ne e, if_neg e, List.getElem?_map]
    show Rw _ _ _ ((A.secs.modify i Dk.settle).map fun x => str x.safe)
    rw [e]
    exact (h.safe.set i (by simpa [St.n] using hi) _).keep (Below.heap_setCell _ _ _ _ ok.sb)
  · rcases hmi j y hy with ⟨_, h3⟩ | ⟨_, rfl⟩
    · exact h1.2 j y h3 hyi
    · cases hyi
  · have e : ((A.secs.modify i Dk.settle).map fun x => Value.bool x.is) = (A.secs.map fun x => Value.bool x.is).set i (.bool false) := by
      apply List.ext_getElem?
      intro j
      simp only [List.getElem?_map, modify_at]
      by_cases e : i = j
      · subst e
        rw [List.getElem?_set_self (by simpa [St.n] using hi), if_pos rfl, hx]
        rfl
      · rw [List.getElem?_set_ne e, if_neg e, List.getElem?_map]
    show Rw _ _ _ ((A.secs.modify i Dk.settle).map fun x => Value.bool x.is)
    rw [e]
    exact (h.is.keep (Below.heap_setCell _ _ _ _ ok.sb.symm)).set i (by simpa [St.n] using hi) _
/-- a part of the settling -/
def Dk.St.sPart (A : St) (i : Nat) : St := { A with secs := (A.secs.take i).map Dk.settle ++ A.secs.drop i }
theorem sPart_zero (A : St) : A.sPart 0 = A := by simp [Dk.St.sPart]
theorem sPart_all (A : St) : A.sPart A.n = A.settle := by simp [Dk.St.sPart, St.settle, St.n]
theorem n_sPart (A : St) (i : Nat) : (A.sPart i).n = A.n := by
  simp only [Dk.St.sPart, St.n, List.length_append, List.length_map, List.length_take, List.length_drop]
  omega
theorem sPart_succ (A : St) (i : Nat) (hi : i < A.n) : A.sPart (i + 1) = { A.sPart i with secs := (A.sPart i).secs.modify i Dk.settle } := by
  have hi' : i < A.secs.length := hi
  have ht : A.secs.take (i + 1) = A.secs.take i ++ [A.secs[i]] := List.take_succ_eq_append_getElem hi'
  have hd : A.secs.drop i = A.secs[i] :: A.secs.drop (i + 1) := List.drop_eq_getElem_cons hi'
  have hl : ((A.secs.take i).map Dk.settle).length = i := by rw [List.length_map, List.length_take]; omega
  have hm := modify_mid A.secs[i] (A.secs.drop (i + 1)) Dk.settle ((A.secs.take i).map Dk.settle)
  rw [hl] at hm
  simp only [Dk.St.sPart, ht, hd, hm, List.map_append, List.map_cons, List.map_nil, List.append_assoc]
  rfl
theorem sPart_at (A : St) (i : Nat) (hi : i < A.n) : (A.sPart i).secs.getD i none_ = A.secs.getD i none_ := by
  have hi' : i < A.secs.length := hi
  simp only [Dk.St.sPart, List.getD_eq_getElem?_getD]
  rw [List.getElem?_append_right (by rw [List.length_map, List.length_take]; omega), List.length_map, List.length_take, List.getElem?_drop]
  congr 2
  omega
structure SyncR (w : World) (k : RB) (A : St) (i : Nat) (wr : World) : Prop where
  xd : XD wr k (A.sPart i)
  t : Touch k.lo k.hi w wr
set_option maxRecDepth 100000 in
set_option maxHeartbeats 4000000 in
theorem rsync_any {w : World} {k : RB} {A : St} (h : XD w k A) : Calls Try.prog 46 #[.pointer (some ⟨k.g, 0, none⟩)] w (LeftR w k A.sync) := by
  have h5 := h.c5
  cases hd : A.down
  · have HK := Lib.hid (rcount_any h hd)
    rw [hd] at h5
    by_cases h0 : A.count.1 = 0
    · have HR := Lib.hid (show A.sync = (0, A.count.2.settle) by unfold St.sync; rw [if_neg (by simp [hd]), if_neg (by simp [h0])])
      have H0 := Lib.hid h0
      clear h hd h0
      go_enter Try.func46, Try.ntmps46
      go_wp2_with fail
      refine HK.out.mono ?_
      rintro e w1 ⟨rfl, hp0, ht0⟩
      have HI := Lib.hid (show SyncR w k A.count.2 0 w1 from ⟨by rw [sPart_zero]; exact hp0, ht0⟩)
      have hnb := hp0.nb
      rw [H0.out]
      clear hp0 ht0 h5
      generalize A.count.2 = C at *
      go_wp2_with fail
      go_loopw [4] (fun i wr => ∃ m : Nat, m ≤ C.n ∧ i = .int .i64 m ∧ Hid (SyncR w k C m wr)) (fun i _ => 5000 - (intOf i).toNat)
      case atStart => exact ⟨0, Nat.zero_le _, rfl, HI⟩
      case round =>
        obtain ⟨i, hi, rfl, hR⟩ := hrel
        have q0 := hR.out.xd.c0
        have q2 := hR.out.xd.c2
        rw [n_sPart] at q0 q2
        by_cases hlt : i < C.n
        · have hltI : (i : Int) < (C.n : Int) := by omega
          have HN := Lib.hid (same_of (rnow_any i (hR.out.xd.below (below_drewN (Below.refl _ wr) 1)) (by rw [n_sPart]; exact hlt)))
          go_wp2_with fail
          go_still_tail 9, (by kernel_rfl)
          still_call HN.out
          repeat still_step
          refine wpStill_nil ?_
          change wpList _ _ _ _ _ wr.drew
          have hd : Below wr.heap.size wr wr.drew := below_drewN (Below.refl _ _) 1
          have hR2 := Lib.hid (show SyncR w k C i wr.drew from ⟨hR.out.xd.below hd, hR.out.t.trans (Touch.of_below hd)⟩)
          clear hd hR q0 q2 HN
          generalize wr.drew = w2 at *
          have hx := hR2.out.xd
          have ok := hx.ok
          have n1 := ok.gs
          have n2 := ok.sb.symm
          have n3 := ok.gb
          have fs := hx.fs i
          have fb := hx.fb i
          have hin : i < (C.sPart i).n := by rw [n_sPart]; exact hlt
          have hs := hx.sf i hin
          have hb := hx.is_ i hin
          have c2 := hx.c2
          rw [n_sPart] at c2
          have hp := hx.settleAt hin (C.sPart (i + 1)) (sPart_succ C i hlt)
          have HR3 := Lib.hid (show SyncR w k C (i + 1) ((w2.setCell ⟨k.s, i, none⟩ (str ((C.sPart i).at_ i))).setCell ⟨k.b, i, none⟩ (.bool false)) from ⟨hp.1, hR2.out.t.trans hp.2⟩)
          clear hp hx ok hin
          unfold str at HR3 hs
          unfold str
          generalize (List.toArray ((C.sPart i).at_ i)) = V at *
          go_wp2_with fail
          go_roundw
          case rel => exact ⟨i + 1, by omega, by go_num, HR3⟩
          case measure => simp [intOf]; omega
        · obtain rfl : i = C.n := by omega
          have hx := hR.out.xd
          rw [sPart_all] at hx
          have HX := Lib.hid hx
          clear hx
          go_wp2_with fail
          go_ret
          unfold LeftR
          rw [HR.out]
          exact ⟨rfl, HX.out, hR.out.t⟩
    · have h13 : A.count.1 = 13 := by
        unfold St.count at h0 ⊢
        split
        · rename_i h; rw [if_pos h] at h0; exact absurd rfl h0
        · rename_i h
          rw [if_neg h] at h0
          split
          · rfl
          · rename_i h'; rw [if_neg h'] at h0; exact absurd rfl h0
      have HR := Lib.hid (show A.sync = A.count by unfold St.sync; rw [if_neg (by simp [hd]), if_pos h0])
      have H0 := Lib.hid h13
      clear h hd h0 h13
      go_enter Try.func46, Try.ntmps46
      go_wp2_with fail
      refine HK.out.mono ?_
      rintro e w1 ⟨rfl, hp0, ht0⟩
      have hp := Lib.hid hp0
      have ht := Lib.hid ht0
      clear hp0 ht0
      rw [H0.out]
      go_wp2_with fail
      go_ret
      unfold LeftR
      rw [HR.out, H0.out]
      exact ⟨rfl, hp.out, ht.out⟩
  · have HR := Lib.hid (show A.sync = (13, A) by unfold St.sync; rw [if_pos hd])
    have HP := Lib.hid h
    rw [hd] at h5
    clear h hd
    go_enter Try.func46, Try.ntmps46
    go_wp2_with fail
    go_ret
    unfold LeftR
    rw [HR.out]
    exact ⟨rfl, HP.out, Touch.refl _ _ _⟩
end Go.Proofs.Ytpjpncfoenadhaa
