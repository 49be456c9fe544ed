/- Pages written to the reference's disk. Conditions: the disk lies in memory; the page's numbers are within an int. -/
import Derived.Test.YtpjpncfoenadhaaPageWrite
import Derived.StillTailTactics
namespace Go.Proofs.Ytpjpncfoenadhaa
open Go.RowKit Go.WideShapes Pg Dk

theorem cut_any (S : ByteArray) (a b : Nat) (h : a ≤ b) (hb : b ≤ S.size) (w : World) :
    (Instr.sliceAt 9 (.string S) (some (.int .i64 a)) (some (.int .i64 b)) none).run Try.prog w = .ok (.string (S.extract a b)) w := by
  refine (run_sliceAt_string w 9 _ _ _ _ Try.underlying9).trans ?_
  have h0 : (0 : Int) ≤ (a : Int) := by omega
  have h1 : (0 : Int) ≤ (b : Int) := by omega
  have h2 : (b : Int) ≤ (S.size : Int) := by omega
  have h3 : (a : Int) ≤ (b : Int) := by omega
  simp [Instr.slice, run_underlying Try.underlying9, Instr.sliceBounds, run_sliceBound, h0, h1, h2, h3]
/-- what is still to be written -/
structure WrX (w : World) (k : RB) (A : Dk.St) (p : Page) (b : Int) (C : List (List UInt8)) (m : Nat) (B : Dk.St) (wr : World) : Prop where
  d : XD wr k B
  t : Touch k.lo k.hi w wr
  x : PBox wr w.heap.size p
  hi : k.hi ≤ w.heap.size
  e : writes A b C = writes B (b + m) (C.drop m)
section
variable {w wr w2 : World} {k : RB} {A B : Dk.St} {p : Page} {b x : Int} {C r : List (List UInt8)} {c : List UInt8} {m : Nat}
theorem WrX.below (h : WrX w k A p b C m B wr) (hb : Below wr.heap.size wr w2) : WrX w k A p b C m B w2 :=
  ⟨h.d.below hb, h.t.trans (Touch.of_below hb), h.x.below hb (lt_of_block h.x), h.hi, h.e⟩
theorem WrX.last (h : WrX w k A p b C m B wr) (hx : b + (m : Int) = x) (hc : C.drop m = c :: r) (hp : XD w2 k (B.write x c).2) (ht : Touch k.lo k.hi wr w2) (hn : (B.write x c).1 ≠ 0) :
    LeftR w k (writes A b C) (.returned (.int .i64 (B.write x c).1)) w2 := by
  subst hx
  have e := h.e
  rw [hc, writes_bad _ _ _ _ hn] at e
  rw [e]
  exact ⟨rfl, hp, h.t.trans ht⟩
theorem WrX.next (h : WrX w k A p b C m B wr) (hx : b + (m : Int) = x) (hc : C.drop m = c :: r) (hp : XD w2 k (B.write x c).2) (ht : Touch k.lo k.hi wr w2) (hn : (B.write x c).1 = 0) :
    WrX w k A p b C (m + 1) (B.write x c).2 w2 := by
  subst hx
  refine ⟨hp, h.t.trans ht, (ht.block _ (lt_of_block h.x) (by have := h.hi; omega)).trans h.x, h.hi, ?_⟩
  rw [h.e, hc, writes_ok _ _ _ _ hn, show C.drop (m + 1) = r from by rw [← List.drop_drop, hc]; rfl]
  congr 1
  omega
theorem WrX.done (h : WrX w k A p b C m B wr) (hc : C.drop m = []) : LeftR w k (writes A b C) (.returned (.int .i64 0)) wr := by
  have e := h.e
  rw [hc] at e
  rw [e]
  exact ⟨rfl, h.d, h.t⟩
end
set_option maxRecDepth 100000 in
set_option maxHeartbeats 8000000 in
theorem rpwrite_in {w : World} {k : RB} {A : Dk.St} (i e kd : Nat) (s : List UInt8) (h : XD w k A) (he : e ≤ 1099511627776) (hk : kd ≤ 2147483647) (hs : s.length ≤ 232) (hi : i < many A.n) :
    Calls Try.prog 45 #[.pointer (some ⟨k.g, 0, none⟩), pageV ⟨i, e, kd, s⟩] w (LeftR w k (writes A (2 + 4 * (i : Int)) (chunks (Crc.lay (body ⟨i, e, kd, s⟩))))) := by
  have hnb := h.nb
  have hmany : many A.n ≤ 1100 := by unfold many; omega
  have HB0 := Lib.hid (PBox.new w ⟨i, e, kd, s⟩)
  have hb0 : Below w.heap.size w (w.alloc (.cells #[.int .i64 (i : Int), .int .i64 (e : Int), .int .i64 (kd : Int), .string ⟨s.toArray⟩] 56 (0, 0))) := (Below.refl _ _).alloc (Nat.le_refl _) _
  have HX0 := Lib.hid (h.below hb0)
  have HQ0 := Lib.hid hb0
  have HIn := Lib.hid h.inn
  have HPut := Lib.hid (fun w => rput_ok i e kd s (by omega) he hk hs w)
  have hlen : (Crc.lay (body ⟨i, e, kd, s⟩)).length = 256 := by rw [Crc.lay_length, body_length _ hs]
  have C4 := Lib.hid (cut4_of _ hlen)
  have HMa := Lib.hid (fun w => rmany_any A.n w hnb)
  clear hb0 h hlen
  unfold pageV
  simp only
  unfold pageV at HPut
  simp only at HPut
  generalize Crc.lay (body ⟨i, e, kd, s⟩) = D at *
  generalize (⟨D.toArray⟩ : ByteArray) = S at *
  go_enter Try.func45, Try.ntmps45
  go_wp2_with fail
  refine (HPut.out _).mono ?_
  rintro en w1 ⟨rfl, hb⟩
  have HB1 := Lib.hid (HB0.out.below hb (by simp))
  have HX1 := Lib.hid (HX0.out.below hb)
  have HQ1 := Lib.hid (HQ0.out.trans (hb.mono (by simp)))
  obtain ⟨c0, c1, c2, c3⟩ := HB1.out.q
  have x0 := HX1.out.c0
  clear hb HB0 HX0 HQ0 HPut
  have hiI : (i : Int) < (many A.n : Nat) := by omega
  go_wp2_with fail
  go_quiet ((go_at_call 44; exact Calls.quiet_of_same (same_of (HMa.out _))))
  have hd : Below w1.heap.size w1 (w1.drewN nq) := below_drewN (Below.refl _ _) nq
  have HI : Hid (WrX w k A ⟨i, e, kd, s⟩ (2 + 4 * (i : Int)) (chunks D) 0 A (w1.drewN nq)) :=
    ⟨HX1.out.below hd, (Touch.of_below HQ1.out).trans (Touch.of_below hd), HB1.out.below hd (lt_of_block HB1.out), HIn.out, by simp⟩
  clear hd HX1 HQ1 HB1 c0 c1 c2 c3 x0 HMa
  generalize w1.drewN nq = w2 at *
  have hS := C4.out.size
  have v4 : IntKind.i64.wrap (4 * (i : Int)) = 4 * (i : Int) := IntWalk.i64_in _ (by omega)
  have v0 : IntKind.i64.wrap (2 + 4 * (i : Int)) = 2 + 4 * (i : Int) := IntWalk.i64_in _ (by omega)
  have v1 : IntKind.i64.wrap (2 + 4 * (i : Int) + 1) = 2 + 4 * (i : Int) + 1 := IntWalk.i64_in _ (by omega)
  have v2 : IntKind.i64.wrap (2 + 4 * (i : Int) + 2) = 2 + 4 * (i : Int) + 2 := IntWalk.i64_in _ (by omega)
  have v3 : IntKind.i64.wrap (2 + 4 * (i : Int) + 3) = 2 + 4 * (i : Int) + 3 := IntWalk.i64_in _ (by omega)
  have hv := Lib.hid (And.intro v4 (And.intro v0 (And.intro v1 (And.intro v2 v3))))
  clear v4 v0 v1 v2 v3 hiI
  go_wp2_with fail
  rw [show decide (many A.n ≤ i) = false by rw [decide_eq_false_iff_not]; omega]
  go_loopw [7] (fun j wr => ∃ (m : Nat) (B : Dk.St), m ≤ 4 ∧ j = .int .i64 m ∧ Hid (WrX w k A ⟨i, e, kd, s⟩ (2 + 4 * (i : Int)) (chunks D) m B wr)) (fun j _ => 100 - (intOf j).toNat)
  case atStart => exact ⟨0, A, by omega, rfl, HI⟩
  case round =>
    obtain ⟨m, B, hm, rfl, hR⟩ := hrel
    clear HI
    match m, hm with
    | 0, _ =>
      rw [show ((0 : Nat) : Int) = 0 from rfl]
      have c0 := hR.out.x.q.1
      have hcut : (Instr.sliceAt 9 (.string S) (some (.int .i64 0)) (some (.int .i64 64)) none).run Try.prog wr.drew = .ok (.string (S.extract 0 64)) wr.drew := cut_any S 0 64 (by decide) (by omega) wr.drew
      have l1 : IntKind.i64.wrap 0 = 0 := by decide
      have l2 : IntKind.i64.wrap (0 + 64) = 64 := by decide
      have l3 : IntKind.i64.wrap 64 = 64 := by decide
      obtain ⟨v4, v0, v1, v2, v3⟩ := hv.out
      have hd1 : Below wr.heap.size wr wr.drew := below_drewN (Below.refl _ wr) 1
      have HR2 := Lib.hid (hR.out.below hd1)
      clear hd1
      clear hR
      by_cases hn : (B.write (2 + 4 * (i : Int)) (D.take 64)).1 = 0
      · have HN := Lib.hid hn
        clear hn
        go_wp2_with fail
        go_still_tail 14, (by kernel_rfl)
        change wpList _ _ _ _ _ wr.drew
        clear c0 hcut l1 l2 l3 v4 v0 v1 v2 v3
        generalize wr.drew = w3 at *
        have HW := Lib.hid (rwrite_any (2 + 4 * (i : Int)) (S.extract 0 64) HR2.out.d (by rw [ByteArray.size_extract]; omega))
        rw [C4.out.c0] at HW
        go_wp2_with fail
        refine HW.out.mono ?_
        rintro en w4 ⟨rfl, hp2, ht2⟩
        rw [HN.out]
        have H2 := Lib.hid (HR2.out.next (by simp) rfl hp2 ht2 HN.out)
        clear hp2 ht2 HW
        go_wp2_with fail
        go_roundw
        case rel => exact ⟨1, _, by omega, rfl, H2⟩
        case measure => simp [intOf]
      · have HN := Lib.hid hn
        have hnb : ((B.write (2 + 4 * (i : Int)) (D.take 64)).1 != 0) = true := by rw [bne_iff_ne]; exact hn
        clear hn
        go_wp2_with fail
        go_still_tail 14, (by kernel_rfl)
        change wpList _ _ _ _ _ wr.drew
        clear c0 hcut l1 l2 l3 v4 v0 v1 v2 v3
        generalize wr.drew = w3 at *
        have HW := Lib.hid (rwrite_any (2 + 4 * (i : Int)) (S.extract 0 64) HR2.out.d (by rw [ByteArray.size_extract]; omega))
        rw [C4.out.c0] at HW
        go_wp2_with fail
        refine HW.out.mono ?_
        rintro en w4 ⟨rfl, hp2, ht2⟩
        have H2 := Lib.hid (HR2.out.last (by simp) rfl hp2 ht2 HN.out)
        clear hp2 ht2 HW
        go_wp2_with fail
        go_ret
        exact H2.out
    | 1, _ =>
      rw [show ((1 : Nat) : Int) = 1 from rfl]
      have c0 := hR.out.x.q.1
      have hcut : (Instr.sliceAt 9 (.string S) (some (.int .i64 64)) (some (.int .i64 128)) none).run Try.prog wr.drew = .ok (.string (S.extract 64 128)) wr.drew := cut_any S 64 128 (by decide) (by omega) wr.drew
      have l1 : IntKind.i64.wrap 64 = 64 := by decide
      have l2 : IntKind.i64.wrap (64 + 64) = 128 := by decide
      have l3 : IntKind.i64.wrap 128 = 128 := by decide
      obtain ⟨v4, v0, v1, v2, v3⟩ := hv.out
      have hd1 : Below wr.heap.size wr wr.drew := below_drewN (Below.refl _ wr) 1
      have HR2 := Lib.hid (hR.out.below hd1)
      clear hd1
      clear hR
      by_cases hn : (B.write (2 + 4 * (i : Int) + 1) ((D.drop 64).take 64)).1 = 0
      · have HN := Lib.hid hn
        clear hn
        go_wp2_with fail
        go_still_tail 14, (by kernel_rfl)
        change wpList _ _ _ _ _ wr.drew
        clear c0 hcut l1 l2 l3 v4 v0 v1 v2 v3
        generalize wr.drew = w3 at *
        have HW := Lib.hid (rwrite_any (2 + 4 * (i : Int) + 1) (S.extract 64 128) HR2.out.d (by rw [ByteArray.size_extract]; omega))
        rw [C4.out.c1] at HW
        go_wp2_with fail
        refine HW.out.mono ?_
        rintro en w4 ⟨rfl, hp2, ht2⟩
        rw [HN.out]
        have H2 := Lib.hid (HR2.out.next (by simp) rfl hp2 ht2 HN.out)
        clear hp2 ht2 HW
        go_wp2_with fail
        go_roundw
        case rel => exact ⟨2, _, by omega, rfl, H2⟩
        case measure => simp [intOf]
      · have HN := Lib.hid hn
        have hnb : ((B.write (2 + 4 * (i : Int) + 1) ((D.drop 64).take 64)).1 != 0) = true := by rw [bne_iff_ne]; exact hn
        clear hn
        go_wp2_with fail
        go_still_tail 14, (by kernel_rfl)
        change wpList _ _ _ _ _ wr.drew
        clear c0 hcut l1 l2 l3 v4 v0 v1 v2 v3
        generalize wr.drew = w3 at *
        have HW := Lib.hid (rwrite_any (2 + 4 * (i : Int) + 1) (S.extract 64 128) HR2.out.d (by rw [ByteArray.size_extract]; omega))
        rw [C4.out.c1] at HW
        go_wp2_with fail
        refine HW.out.mono ?_
        rintro en w4 ⟨rfl, hp2, ht2⟩
        have H2 := Lib.hid (HR2.out.last (by simp) rfl hp2 ht2 HN.out)
        clear hp2 ht2 HW
        go_wp2_with fail
        go_ret
        exact H2.out
    | 2, _ =>
      rw [show ((2 : Nat) : Int) = 2 from rfl]
      have c0 := hR.out.x.q.1
      have hcut : (Instr.sliceAt 9 (.string S) (some (.int .i64 128)) (some (.int .i64 192)) none).run Try.prog wr.drew = .ok (.string (S.extract 128 192)) wr.drew := cut_any S 128 192 (by decide) (by omega) wr.drew
      have l1 : IntKind.i64.wrap 128 = 128 := by decide
      have l2 : IntKind.i64.wrap (128 + 64) = 192 := by decide
      have l3 : IntKind.i64.wrap 192 = 192 := by decide
      obtain ⟨v4, v0, v1, v2, v3⟩ := hv.out
      have hd1 : Below wr.heap.size wr wr.drew := below_drewN (Below.refl _ wr) 1
      have HR2 := Lib.hid (hR.out.below hd1)
      clear hd1
      clear hR
      by_cases hn : (B.write (2 + 4 * (i : Int) + 2) ((D.drop 128).take 64)).1 = 0
      · have HN := Lib.hid hn
        clear hn
        go_wp2_with fail
        go_still_tail 14, (by kernel_rfl)
        change wpList _ _ _ _ _ wr.drew
        clear c0 hcut l1 l2 l3 v4 v0 v1 v2 v3
        generalize wr.drew = w3 at *
        have HW := Lib.hid (rwrite_any (2 + 4 * (i : Int) + 2) (S.extract 128 192) HR2.out.d (by rw [ByteArray.size_extract]; omega))
        rw [C4.out.c2] at HW
        go_wp2_with fail
        refine HW.out.mono ?_
        rintro en w4 ⟨rfl, hp2, ht2⟩
        rw [HN.out]
        have H2 := Lib.hid (HR2.out.next (by simp) rfl hp2 ht2 HN.out)
        clear hp2 ht2 HW
        go_wp2_with fail
        go_roundw
        case rel => exact ⟨3, _, by omega, rfl, H2⟩
        case measure => simp [intOf]
      · have HN := Lib.hid hn
        have hnb : ((B.write (2 + 4 * (i : Int) + 2) ((D.drop 128).take 64)).1 != 0) = true := by rw [bne_iff_ne]; exact hn
        clear hn
        go_wp2_with fail
        go_still_tail 14, (by kernel_rfl)
        change wpList _ _ _ _ _ wr.drew
        clear c0 hcut l1 l2 l3 v4 v0 v1 v2 v3
        generalize wr.drew = w3 at *
        have HW := Lib.hid (rwrite_any (2 + 4 * (i : Int) + 2) (S.extract 128 192) HR2.out.d (by rw [ByteArray.size_extract]; omega))
        rw [C4.out.c2] at HW
        go_wp2_with fail
        refine HW.out.mono ?_
        rintro en w4 ⟨rfl, hp2, ht2⟩
        have H2 := Lib.hid (HR2.out.last (by simp) rfl hp2 ht2 HN.out)
        clear hp2 ht2 HW
        go_wp2_with fail
        go_ret
        exact H2.out
    | 3, _ =>
      rw [show ((3 : Nat) : Int) = 3 from rfl]
      have c0 := hR.out.x.q.1
      have hcut : (Instr.sliceAt 9 (.string S) (some (.int .i64 192)) (some (.int .i64 256)) none).run Try.prog wr.drew = .ok (.string (S.extract 192 256)) wr.drew := cut_any S 192 256 (by decide) (by omega) wr.drew
      have l1 : IntKind.i64.wrap 192 = 192 := by decide
      have l2 : IntKind.i64.wrap (192 + 64) = 256 := by decide
      have l3 : IntKind.i64.wrap 256 = 256 := by decide
      obtain ⟨v4, v0, v1, v2, v3⟩ := hv.out
      have hd1 : Below wr.heap.size wr wr.drew := below_drewN (Below.refl _ wr) 1
      have HR2 := Lib.hid (hR.out.below hd1)
      clear hd1
      clear hR
      by_cases hn : (B.write (2 + 4 * (i : Int) + 3) ((D.drop 192).take 64)).1 = 0
      · have HN := Lib.hid hn
        clear hn
        go_wp2_with fail
        go_still_tail 14, (by kernel_rfl)
        change wpList _ _ _ _ _ wr.drew
        clear c0 hcut l1 l2 l3 v4 v0 v1 v2 v3
        generalize wr.drew = w3 at *
        have HW := Lib.hid (rwrite_any (2 + 4 * (i : Int) + 3) (S.extract 192 256) HR2.out.d (by rw [ByteArray.size_extract]; omega))
        rw [C4.out.c3] at HW
        go_wp2_with fail
        refine HW.out.mono ?_
        rintro en w4 ⟨rfl, hp2, ht2⟩
        rw [HN.out]
        have H2 := Lib.hid (HR2.out.next (by simp) rfl hp2 ht2 HN.out)
        clear hp2 ht2 HW
        go_wp2_with fail
        go_roundw
        case rel => exact ⟨4, _, by omega, rfl, H2⟩
        case measure => simp [intOf]
      · have HN := Lib.hid hn
        have hnb : ((B.write (2 + 4 * (i : Int) + 3) ((D.drop 192).take 64)).1 != 0) = true := by rw [bne_iff_ne]; exact hn
        clear hn
        go_wp2_with fail
        go_still_tail 14, (by kernel_rfl)
        change wpList _ _ _ _ _ wr.drew
        clear c0 hcut l1 l2 l3 v4 v0 v1 v2 v3
        generalize wr.drew = w3 at *
        have HW := Lib.hid (rwrite_any (2 + 4 * (i : Int) + 3) (S.extract 192 256) HR2.out.d (by rw [ByteArray.size_extract]; omega))
        rw [C4.out.c3] at HW
        go_wp2_with fail
        refine HW.out.mono ?_
        rintro en w4 ⟨rfl, hp2, ht2⟩
        have H2 := Lib.hid (HR2.out.last (by simp) rfl hp2 ht2 HN.out)
        clear hp2 ht2 HW
        go_wp2_with fail
        go_ret
        exact H2.out
    | 4, _ =>
      rw [show ((4 : Nat) : Int) = 4 from rfl]
      go_wp2_with fail
      go_ret
      exact hR.out.done rfl
theorem leftR_same {w w' : World} {k : RB} {A : Dk.St} (h : XD w k A) (hb : Below w.heap.size w w') (r : Int) : LeftR w k (r, A) (.returned (.int .i64 r)) w' := ⟨rfl, h.below hb, Touch.of_below hb⟩
set_option maxRecDepth 100000 in
set_option maxHeartbeats 4000000 in
theorem rpwrite_bad {w : World} {k : RB} {A : Dk.St} (p : Page) (h : XD w k A) (hi : p.id ≤ 9223372036854775807) (hs : p.pay.length ≤ 9223372036854775807) (hn : (put p).2 ≠ 0) :
    Calls Try.prog 45 #[.pointer (some ⟨k.g, 0, none⟩), pageV p] w (LeftR w k ((put p).2, A)) := by
  have HPut := Lib.hid (fun w => rput_any p w hi hs)
  have hnb : ((put p).2 != 0) = true := by rw [bne_iff_ne]; exact hn
  have HH := Lib.hid h
  unfold putV at HPut
  generalize (put p).2 = r at *
  generalize (put p).1 = D at *
  have HN := Lib.hid hn
  clear hn h
  obtain ⟨i, e, kd, s⟩ := p
  unfold pageV at HPut ⊢
  simp only at HPut ⊢
  go_enter Try.func45, Try.ntmps45
  go_wp2_with fail
  refine (HPut.out _).mono ?_
  rintro en w1 ⟨rfl, hb⟩
  have HQ1 := Lib.hid (((Below.refl w.heap.size w).alloc (Nat.le_refl _) _).trans (hb.mono (by simp)))
  clear hb HPut
  go_wp2_with fail
  go_ret
  exact leftR_same HH.out HQ1.out r
set_option maxRecDepth 100000 in
set_option maxHeartbeats 4000000 in
theorem rpwrite_far {w : World} {k : RB} {A : Dk.St} (p : Page) (h : XD w k A) (hi : p.id ≤ 9223372036854775807) (hs : p.pay.length ≤ 9223372036854775807) (hn : (put p).2 = 0) (hf : (many A.n : Int) ≤ p.id) :
    Calls Try.prog 45 #[.pointer (some ⟨k.g, 0, none⟩), pageV p] w (LeftR w k (3, A)) := by
  have HPut := Lib.hid (fun w => rput_any p w hi hs)
  have HB0 := Lib.hid (PBox.new w p)
  have HMa := Lib.hid (fun w => rmany_any A.n w h.nb)
  have HH := Lib.hid h
  unfold putV at HPut
  rw [hn] at HPut
  generalize (put p).1 = D at *
  clear hn h
  obtain ⟨i, e, kd, s⟩ := p
  unfold pageV at HPut ⊢
  simp only at HPut hf hi ⊢
  go_enter Try.func45, Try.ntmps45
  go_wp2_with fail
  refine (HPut.out _).mono ?_
  rintro en w1 ⟨rfl, hb⟩
  have HB1 := Lib.hid (HB0.out.below hb (by simp))
  have HQ1 := Lib.hid (((Below.refl w.heap.size w).alloc (Nat.le_refl _) _).trans (hb.mono (by simp)))
  have HX1 := Lib.hid (HH.out.below HQ1.out)
  obtain ⟨c0, c1, c2, c3⟩ := HB1.out.q
  have x0 := HX1.out.c0
  clear hb HB0 HPut
  go_wp2_with fail
  go_quiet ((go_at_call 44; exact Calls.quiet_of_same (same_of (HMa.out _))))
  have HQ2 := Lib.hid (HQ1.out.trans ((below_drewN (Below.refl w1.heap.size w1) nq).mono HQ1.out.size))
  clear c0 c1 c2 c3 x0
  generalize w1.drewN nq = w2 at *
  go_wp2_with fail
  go_ret
  exact leftR_same HH.out HQ2.out 3
theorem rpwrite_any {w : World} {k : RB} {A : Dk.St} (p : Page) (h : XD w k A) (hi : p.id ≤ 9223372036854775807) (hs : p.pay.length ≤ 9223372036854775807) :
    Calls Try.prog 45 #[.pointer (some ⟨k.g, 0, none⟩), pageV p] w (LeftR w k (Pg.write A p)) := by
  by_cases hn : (put p).2 = 0
  · by_cases hf : (many A.n : Int) ≤ p.id
    · have e : Pg.write A p = (3, A) := by unfold Pg.write; rw [if_neg (by simp [hn]), if_pos hf]
      rw [e]
      exact rpwrite_far p h hi hs hn hf
    · have hr : right p = true := by
        cases hr : right p
        · unfold Pg.put at hn
          rw [if_pos hr] at hn
          cases hn
        · rfl
      have hl : ¬ 232 < p.pay.length := by
        intro hl
        unfold Pg.put at hn
        rw [if_neg (by simp [hr]), if_pos hl] at hn
        cases hn
      have e : Pg.write A p = writes A (2 + 4 * p.id) (chunks (Crc.lay (body p))) := by
        have e1 : put p = (Crc.lay (body p), 0) := by unfold Pg.put; rw [if_neg (by simp [hr]), if_neg hl]
        unfold Pg.write
        rw [e1, if_neg (by simp), if_neg hf]
      rw [e]
      obtain ⟨i, ep, kd, hpe, he, hk, hii⟩ := page_nat p hr
      generalize p.pay = s at *
      subst hpe
      simp only at *
      exact rpwrite_in i ep kd s h he hk (by omega) (by omega)
  · have e : Pg.write A p = ((put p).2, A) := by unfold Pg.write; rw [if_pos hn]
    rw [e]
    exact rpwrite_bad p h hi hs hn
end Go.Proofs.Ytpjpncfoenadhaa
