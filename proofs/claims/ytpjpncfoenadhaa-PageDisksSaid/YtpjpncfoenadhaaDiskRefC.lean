/- The reference's Crash. Conditions: the disk lies in memory; the crash's list of bools lies below it. -/
import Derived.Test.YtpjpncfoenadhaaDiskRefW
import Derived.Deep.DeepCutAuto
namespace Go.Proofs.Ytpjpncfoenadhaa
open Go.RowKit Dk

/-- one loose sector -/
theorem XD.mixAt {w : World} {k : RB} {A : St} {i kk : Nat} (h : XD w k A) (hi : i < A.n) (hkk : kk ≤ 64) (V : Value) (hV : V = str (mix kk (A.secs.getD i none_)).safe) :
    XD ((w.setCell ⟨k.s, i, none⟩ V).setCell ⟨k.b, i, none⟩ (.bool false)) k (A.mixAt i kk) ∧ Touch k.lo k.hi w ((w.setCell ⟨k.s, i, none⟩ V).setCell ⟨k.b, i, none⟩ (.bool false)) := by
  subst hV
  have ok := h.ok
  have hx := h.sec i hi
  generalize A.secs.getD i none_ = x at *
  have hxl := h.good.len x (List.mem_of_getElem? hx)
  have hmi : ∀ j y, (A.secs.modify i (mix kk))[j]? = some y → (i ≠ j ∧ A.secs[j]? = some y) ∨ (i = j ∧ y = mix kk x) := by
    intro j y hy
    rw [modify_at] at hy
    by_cases e : i = j
    · subst e
      rw [if_pos rfl, hx] at hy
      exact .inr ⟨rfl, (Option.some.inj hy).symm⟩
    · rw [if_neg e] at hy
      exact .inl ⟨e, hy⟩
  have ht : Touch k.lo k.hi w ((w.setCell ⟨k.s, i, none⟩ (str (mix kk x).safe)).setCell ⟨k.b, i, none⟩ (.bool false)) :=
    (Touch.setCell w (p := ⟨k.s, i, none⟩) ok.s _).trans (Touch.setCell _ (p := ⟨k.b, i, none⟩) ok.b _)
  have st : ∀ j, j ≠ k.s → j ≠ k.b → ((w.setCell ⟨k.s, i, none⟩ (str (mix kk x).safe)).setCell ⟨k.b, i, none⟩ (.bool false)).heap[j]? = w.heap[j]? := fun j h1 h2 => (Below.heap_setCell _ _ _ _ h2).trans (Below.heap_setCell _ _ _ _ h1)
  obtain ⟨L, h1, h2⟩ := h.new
  refine ⟨⟨ok, Nat.le_trans h.inn ht.size, ⟨?_, h.good.arm0, h.good.arm1, by simpa [Dk.St.mixAt] using h.good.big⟩, ?_, ?_, ⟨L, ⟨h1.1.trans (n_mixAt A i kk).symm, fun j y hy hyi => ?_⟩, h2.keep (st _ ok.sn.symm ok.nb)⟩, ?_⟩, ht⟩
  · intro y hy
    obtain ⟨j, hj⟩ := List.mem_iff_getElem?.1 hy
    rcases hmi j y hj with ⟨_, h3⟩ | ⟨_, rfl⟩
    · exact h.good.len y (List.mem_of_getElem? h3)
    · exact mix_len kk x hxl hkk
  · rw [st _ ok.gs ok.gb, h.head]
    unfold headR
    rw [n_mixAt]
    rfl
  · have e : ((A.secs.modify i (mix kk)).map fun x => str x.safe) = (A.secs.map fun x => str x.safe).set i (str (mix kk x).safe) := by
      apply List.ext_getElem?
      intro j
      simp only [List.getElem?_map, modify_at]
      by_cases e : i = j
      · subst e
        rw [List.getElem?_set_self (by simpa [St.n] using hi), if_pos rfl, hx]
        rfl
      · rw [List.getElem?_set_ne e, if_neg e, List.getElem?_map]
    show Rw _ _ _ ((A.secs.modify i (mix kk)).map fun x => str x.safe)
    rw [e]
    exact (h.safe.set i (by simpa [St.n] using hi) _).keep (Below.heap_setCell _ _ _ _ ok.sb)
  · rcases hmi j y hy with ⟨_, h3⟩ | ⟨_, rfl⟩
    · exact h1.2 j y h3 hyi
    · cases hyi
  · have e : ((A.secs.modify i (mix kk)).map fun x => Value.bool x.is) = (A.secs.map fun x => Value.bool x.is).set i (.bool false) := by
      apply List.ext_getElem?
      intro j
      simp only [List.getElem?_map, modify_at]
      by_cases e : i = j
      · subst e
        rw [List.getElem?_set_self (by simpa [St.n] using hi), if_pos rfl, hx]
        rfl
      · rw [List.getElem?_set_ne e, if_neg e, List.getElem?_map]
    show Rw _ _ _ ((A.secs.modify i (mix kk)).map fun x => Value.bool x.is)
    rw [e]
    exact (h.is.keep (Below.heap_setCell _ _ _ _ ok.sb.symm)).set i (by simpa [St.n] using hi) _
theorem slice_to (a : ByteArray) (kk : Nat) (w : World) (h : (kk : Int) ≤ (a.size : Int)) : (Instr.slice 9 (.string a) none (some (.int .i64 kk)) none).run Try.prog w = .ok (.string (a.extract 0 kk)) w := by
  have h0 : (0 : Int) ≤ (kk : Int) := by omega
  simp [Instr.slice, run_underlying Try.underlying9, Instr.sliceBounds, run_sliceBound, h, h0]
theorem slice_from (a : ByteArray) (kk : Nat) (w : World) (h : (kk : Int) ≤ (a.size : Int)) : (Instr.slice 9 (.string a) (some (.int .i64 kk)) none none).run Try.prog w = .ok (.string (a.extract kk a.size)) w := by
  have h0 : (0 : Int) ≤ (kk : Int) := by omega
  simp [Instr.slice, run_underlying Try.underlying9, Instr.sliceBounds, run_sliceBound, h, h0]
theorem slicesAt (a : ByteArray) (kk : Nat) (w : World) (h : (kk : Int) ≤ (a.size : Int)) :
    (Instr.sliceAt 9 (.string a) none (some (.int .i64 kk)) none).run Try.prog w = .ok (.string (a.extract 0 kk)) w ∧ (Instr.sliceAt 9 (.string a) (some (.int .i64 kk)) none none).run Try.prog w = .ok (.string (a.extract kk a.size)) w :=
  ⟨(run_sliceAt_string w 9 _ _ _ _ Try.underlying9).trans (slice_to a kk w h), (run_sliceAt_string w 9 _ _ _ _ Try.underlying9).trans (slice_from a kk w h)⟩
theorem mixed_text (x : Sec) (h : x.safe.length = 64 ∧ x.new.length = 64) (kk : Nat) (_hk : kk ≤ 64) :
    (ByteArray.mk x.new.toArray).extract 0 kk ++ (ByteArray.mk x.safe.toArray).extract kk 64 = ⟨(mix kk x).safe.toArray⟩ := by
  have e1 : (ByteArray.mk x.new.toArray).extract 0 kk = ⟨(x.new.take kk).toArray⟩ := by simp [ByteArray.extract_mk]
  have e2 : (ByteArray.mk x.safe.toArray).extract kk 64 = ⟨(x.safe.drop kk).toArray⟩ := by
    simp only [ByteArray.extract_mk]
    rw [List.take_of_length_le (by rw [List.length_drop, h.1]; omega)]
  rw [e1, e2]
  apply ByteArray.ext
  rw [ByteArray.data_append]
  simp [mix]
structure RCrashR (w : World) (k : RB) (A : St) (P : Option Addr) (len cap : Nat) (c : Cr) (i : Nat) (wr : World) : Prop where
  xd : XD wr k (A.part c i)
  t : Touch k.lo k.hi w wr
  box : Box wr w.heap.size P len cap c
def kpre (c : Cr) (j : Nat) : Nat := if c.keep.getD j false then 64 else 0
theorem k_torn (c : Cr) (j : Nat) (h : (j : Int) = c.torn) (hb : 0 < c.bytes) : ((c.k j : Nat) : Int) = c.bytes % 65 := by
  unfold Cr.k
  rw [if_pos h]
  omega
theorem k_torn0 (c : Cr) (j : Nat) (h : (j : Int) = c.torn) (hb : ¬ 0 < c.bytes) : c.k j = 0 := by
  unfold Cr.k
  rw [if_pos h]
  omega
theorem k_pre (c : Cr) (j : Nat) (h : ¬ (j : Int) = c.torn) : c.k j = kpre c j := by
  unfold Cr.k kpre
  rw [if_neg h]
set_option maxRecDepth 100000 in
set_option maxHeartbeats 4000000 in
theorem rcrash_any {w : World} {k : RB} {A : St} {P : Option Addr} {len cap : Nat} {c : Cr} (h : XD w k A) (hk : Bools k.lo w P len c.keep) :
    Calls Try.prog 47 #[.pointer (some ⟨k.g, 0, none⟩), .agg #[.slice P len cap, .int .i64 c.torn, .int .i64 c.bytes]] w fun e w' => e = .returned (.tuple #[]) ∧ XD w' k (A.crash c) ∧ Touch k.lo k.hi w w' := by
  have hb0 : Below w.heap.size w (w.alloc (boxV P len cap c.torn c.bytes)) := (Below.refl _ w).alloc (Nat.le_refl _) _
  have HP := Lib.hid h
  have HK := Lib.hid hk
  have hn := h.nb
  have hinv : RCrashR w k A P len cap c 0 (w.alloc (.cells #[.slice P len cap, .int .i64 c.torn, .int .i64 c.bytes] 25 (0, 0))) :=
    ⟨by rw [part_zero]; exact h.below hb0, Touch.of_below hb0, Box.new w P len cap c⟩
  have HI := Lib.hid hinv
  clear h hk hb0 hinv
  go_enter Try.func47, Try.ntmps47
  go_wp2_with fail
  go_loopw [4, 5] (fun j i wr => ∃ n : Nat, n ≤ A.n ∧ i = .int .i64 n ∧ j = .int .i64 (upTo A n : Nat) ∧ Hid (RCrashR w k A P len cap c n wr)) (fun _ i _ => 5000 - (intOf i).toNat)
  case atStart => exact ⟨0, Nat.zero_le _, rfl, rfl, HI⟩
  case round =>
    obtain ⟨i, hi, rfl, rfl, hR⟩ := hrel
    have hu := upTo_le A i
    have hnp := n_part A c i
    have q0 := hR.out.xd.c0
    have q1 := hR.out.xd.c1
    have q2 := hR.out.xd.c2
    rw [hnp] at q0 q1 q2
    by_cases hlt : i < A.n
    · have hltI : (i : Int) < (A.n : Int) := by omega
      have hx := hR.out.xd.is_ i (by rw [hnp]; exact hlt)
      rw [part_at A c i hlt] at hx
      have hsec := HP.out.sec i hlt
      cases hv : (A.secs.getD i none_).is
      · have hs2 := Lib.hid (show RCrashR w k A P len cap c (i + 1) wr from ⟨by rw [part_keep A c i _ hsec hv]; exact hR.out.xd, hR.out.t, hR.out.box⟩)
        have hs3 := Lib.hid (show upTo A (i + 1) = upTo A i by rw [upTo_succ A i _ hsec, hv]; rfl)
        rw [hv] at hx
        clear hsec hv
        go_wp2_with fail
        go_roundw
        case rel => exact ⟨i + 1, by omega, by go_num, by rw [hs3.out], hs2⟩
        case measure => simp [intOf]; omega
      · rw [hv] at hx
        have HV := Lib.hid hv
        have HS := Lib.hid hsec
        clear hv hsec
        have b0 := hR.out.box.c0
        have b1 := hR.out.box.c1
        have b2 := hR.out.box.c2
        go_upto_region 7 with (fail)
        go_cut [53] (fun s wx => s = .bool (c.keep.getD (upTo A i) false) ∧ wx = wr)
        case first =>
          have hB := HK.out.touch hR.out.t (Nat.le_refl _)
          obtain ⟨hl, hll, hcell⟩ := hB
          have hm : maxLen = 9223372036854775807 := rfl
          rw [hm] at hl
          clear hm
          by_cases hj : upTo A i < len
          · obtain ⟨ad, rfl, _, _, hc⟩ := hcell _ hj
            have hjI : ((upTo A i : Nat) : Int) < (len : Int) := by omega
            generalize c.keep.getD (upTo A i) false = kv at *
            clear hcell
            go_wp2_with fail
            go_meet
            exact ⟨rfl, rfl⟩
          · have hkv := Lib.hid (show c.keep.getD (upTo A i) false = false by rw [List.getD_eq_getElem?_getD, List.getElem?_eq_none (by omega)]; rfl)
            clear hcell
            go_wp2_with fail
            go_meet
            rw [hkv.out]
            exact ⟨rfl, rfl⟩
        case rest =>
          obtain ⟨rfl, rfl⟩ := hcut
          go_upto_if 53 with (fail)
          go_cut [6] (fun s wx => s = .int .i64 (kpre c (upTo A i) : Nat) ∧ wx = wc)
          case first =>
            cases hkv : c.keep.getD (upTo A i) false
            · have hk := Lib.hid (show kpre c (upTo A i) = 0 by unfold kpre; rw [hkv]; rfl)
              go_wp2_with fail
              go_meet
              rw [hk.out]
              exact ⟨rfl, rfl⟩
            · have hk := Lib.hid (show kpre c (upTo A i) = 64 by unfold kpre; rw [hkv]; rfl)
              go_wp2_with fail
              go_meet
              rw [hk.out]
              exact ⟨rfl, rfl⟩
          case rest =>
            obtain ⟨rfl, rfl⟩ := hcut
            go_upto_if 57 with (fail)
            go_cut [6] (fun s wx => s = .int .i64 (c.k (upTo A i) : Nat) ∧ wx = wc)
            case first =>
              by_cases ht : ((upTo A i : Nat) : Int) = c.torn
              · have e0 : (((upTo A i : Nat) : Int) == c.torn) = true := by rw [beq_iff_eq]; exact ht
                by_cases hb : 0 < c.bytes
                · have hk := Lib.hid (k_torn c _ ht hb)
                  clear ht
                  go_wp2_with fail
                  go_meet
                  rw [hk.out]
                  exact ⟨rfl, rfl⟩
                · have hk := Lib.hid (k_torn0 c _ ht hb)
                  clear ht
                  go_wp2_with fail
                  go_meet
                  rw [hk.out]
                  exact ⟨rfl, rfl⟩
              · have e0 : (((upTo A i : Nat) : Int) == c.torn) = false := by rw [beq_eq_false_iff_ne]; exact ht
                have hk := Lib.hid (k_pre c _ ht)
                clear ht
                go_wp2_with fail
                go_meet
                rw [hk.out]
                exact ⟨rfl, rfl⟩
            case rest =>
              obtain ⟨rfl, rfl⟩ := hcut
              have hkk := k_le c (upTo A i)
              generalize hk : c.k (upTo A i) = kk at *
              have HKK := Lib.hid hk
              have hin : i < (A.part c i).n := by rw [hnp]; exact hlt
              have hg := HP.out.good.len _ (List.mem_of_getElem? HS.out)
              have hs := hR.out.xd.sf i hin
              have hw := hR.out.xd.nw i hin (by rw [part_at A c i hlt]; exact HV.out)
              rw [part_at A c i hlt] at hs hw
              have HM := Lib.hid (mixed_text (A.secs.getD i none_) hg kk hkk)
              have HU := Lib.hid (show upTo A (i + 1) = upTo A i + 1 by rw [upTo_succ A i _ HS.out, HV.out]; rfl)
              have hz1 : (ByteArray.mk (A.secs.getD i none_).new.toArray).size = 64 := hg.2
              have hz2 : (ByteArray.mk (A.secs.getD i none_).safe.toArray).size = 64 := hg.1
              unfold str at hs hw
              generalize (ByteArray.mk (A.secs.getD i none_).new.toArray) = a at *
              generalize (ByteArray.mk (A.secs.getD i none_).safe.toArray) = b at *
              have hz1i : (a.size : Int) = 64 := by omega
              have hz2i : (b.size : Int) = 64 := by omega
              have hsl1 := (slicesAt a kk wc.drew (by omega)).1
              have hsl2 := (slicesAt b kk wc.drew (by omega)).2
              have hsl3 := slice_to a kk wc.drew (by omega)
              have hsl4 := slice_from b kk wc.drew (by omega)
              rw [hz2] at hsl2 hsl4
              clear hk hg b0 b1 b2
              go_wp2_with fail
              go_still_tail 25, (by kernel_rfl)
              change wpList _ _ _ _ _ wc.drew
              have hd : Below wc.heap.size wc wc.drew := below_drewN (Below.refl _ _) 1
              have hR2 := Lib.hid (show RCrashR w k A P len cap c i wc.drew from ⟨hR.out.xd.below hd, hR.out.t.trans (Touch.of_below hd), hR.out.box.touch (Touch.of_below (lo := 0) (hi := 0) hd) (Nat.zero_le _)⟩)
              clear hd hR q0 q1 q2 hx hs hw hsl1 hsl2 hsl3 hsl4 hz1 hz2 hz1i hz2i
              generalize wc.drew = w2 at *
              have hx := hR2.out.xd
              have ok := hx.ok
              have n1 := ok.gs
              have n2 := ok.sb.symm
              have n3 := ok.gb
              have fs := hx.fs i
              have fb := hx.fb i
              have hs := hx.sf i hin
              have hb := hx.is_ i hin
              have c2 := hx.c2
              rw [hnp] at c2
              generalize hV : a.extract 0 kk ++ b.extract kk 64 = V at *
              have hp := hx.mixAt hin hkk (.string V) (by rw [part_at A c i hlt, HM.out]; rfl)
              have HR3 := Lib.hid (show RCrashR w k A P len cap c (i + 1) ((w2.setCell ⟨k.s, i, none⟩ (.string V)).setCell ⟨k.b, i, none⟩ (.bool false)) from
                ⟨by rw [part_mix A c i _ HS.out HV.out, HKK.out]; exact hp.1, hR2.out.t.trans hp.2, hR2.out.box.touch hp.2 HP.out.inn⟩)
              clear hp hx ok hin hR2 hnp hV
              unfold str at hs
              go_wp2_with fail
              go_roundw
              case rel => exact ⟨i + 1, by omega, by go_num, by rw [HU.out]; go_num, HR3⟩
              case measure => simp [intOf]; omega
    · obtain rfl : i = A.n := by omega
      have hp := hR.out.xd
      have f3 := hp.fr 3
      have f5 := hp.fr 5
      have q3 := hp.c3
      have q5 := hp.c5
      have h1 := Lib.hid (headR_two (headR_one hp 5 (.bool false)) 3 (.int .i64 0))
      have hg := Good.crash HP.out.good c
      have HE := Lib.hid (hp.stores (A.crash c) (part_all A c).symm hg _ h1.out.1 (by rw [h1.out.2]; unfold headR; rw [n_part, n_crash]; rfl))
      clear hp h1 hg
      go_wp2_with fail
      go_end0
      exact ⟨rfl, HE.out.1, hR.out.t.trans HE.out.2⟩
end Go.Proofs.Ytpjpncfoenadhaa
