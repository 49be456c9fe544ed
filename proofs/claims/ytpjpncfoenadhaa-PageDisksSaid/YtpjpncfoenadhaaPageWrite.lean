/- Pages written to the program's disk. Conditions: the disk lies in memory; the page's numbers are within an int. -/
import Derived.Test.YtpjpncfoenadhaaPageSect
namespace Go.Proofs.Ytpjpncfoenadhaa
open Go.RowKit Go.WideShapes Pg Dk

theorem pwrite_nil (p : Page) (w : World) : Calls Try.prog 39 #[.pointer none, pageV p] w fun e w' => e = .returned (.int .i64 1) ∧ Below w.heap.size w w' := by
  obtain ⟨i, e, k, s⟩ := p
  unfold pageV
  simp only
  go_enter Try.func39, Try.ntmps39
  go_wp2_with fail
  go_ret
  exact ⟨rfl, (Below.refl _ _).alloc (Nat.le_refl _) _⟩
/-- four texts of one -/
structure Cut4 (S : ByteArray) (D : List UInt8) : Prop where
  size : S.size = 256
  c0 : (S.extract 0 64).data.toList = D.take 64
  c1 : (S.extract 64 128).data.toList = (D.drop 64).take 64
  c2 : (S.extract 128 192).data.toList = (D.drop 128).take 64
  c3 : (S.extract 192 256).data.toList = (D.drop 192).take 64
theorem cut4_of (D : List UInt8) (h : D.length = 256) : Cut4 ⟨D.toArray⟩ D := by
  refine ⟨h, ?_, ?_, ?_, ?_⟩ <;> rw [Lib.extract_data] <;> rfl
/-- what is still to be written -/
structure WrR (w : World) (k : DB) (A : Dk.St) (b : Int) (C : List (List UInt8)) (m : Nat) (B : Dk.St) (wr : World) : Prop where
  p : PD wr k B
  t : Touch k.lo k.hi w wr
  e : writes A b C = writes B (b + m) (C.drop m)
theorem writes_bad (B : Dk.St) (b : Int) (c : List UInt8) (r : List (List UInt8)) (h : (B.write b c).1 ≠ 0) : writes B b (c :: r) = B.write b c := by
  unfold writes
  rw [if_pos h]
theorem writes_ok (B : Dk.St) (b : Int) (c : List UInt8) (r : List (List UInt8)) (h : (B.write b c).1 = 0) : writes B b (c :: r) = writes (B.write b c).2 (b + 1) r := by
  rw [writes, if_neg (by simp [h])]
theorem WrR.last {w wr w2 : World} {k : DB} {A B : Dk.St} {b x : Int} {C r : List (List UInt8)} {c : List UInt8} {m : Nat} (h : WrR w k A b C m B wr) (hx : b + (m : Int) = x) (hc : C.drop m = c :: r) (hp : PD w2 k (B.write x c).2) (ht : Touch k.lo k.hi wr w2) (hn : (B.write x c).1 ≠ 0) :
    Left w k (writes A b C) (.returned (.int .i64 (B.write x c).1)) w2 := by
  subst hx
  have e := h.e
  rw [hc, writes_bad _ _ _ _ hn] at e
  rw [e]
  exact ⟨rfl, hp, h.t.trans ht⟩
theorem WrR.next {w wr w2 : World} {k : DB} {A B : Dk.St} {b x : Int} {C r : List (List UInt8)} {c : List UInt8} {m : Nat} (h : WrR w k A b C m B wr) (hx : b + (m : Int) = x) (hc : C.drop m = c :: r) (hp : PD w2 k (B.write x c).2) (ht : Touch k.lo k.hi wr w2) (hn : (B.write x c).1 = 0) :
    WrR w k A b C (m + 1) (B.write x c).2 w2 := by
  subst hx
  refine ⟨hp, h.t.trans ht, ?_⟩
  rw [h.e, hc, writes_ok _ _ _ _ hn, show C.drop (m + 1) = r from by rw [← List.drop_drop, hc]; rfl]
  congr 1
  omega
theorem WrR.done {w wr : World} {k : DB} {A B : Dk.St} {b : Int} {C : List (List UInt8)} {m : Nat} (h : WrR w k A b C m B wr) (hc : C.drop m = []) : Left w k (writes A b C) (.returned (.int .i64 0)) wr := by
  have e := h.e
  rw [hc] at e
  rw [e]
  exact ⟨rfl, h.p, h.t⟩
set_option maxRecDepth 100000 in
set_option maxHeartbeats 8000000 in
theorem pwrite_in {w : World} {k : DB} {A : Dk.St} (i e kd : Nat) (s : List UInt8) (h : PD w k A) (he : e ≤ 1099511627776) (hk : kd ≤ 2147483647) (hs : s.length ≤ 232) (hi : i < many A.n) :
    Calls Try.prog 39 #[.pointer (some ⟨k.g, 0, none⟩), pageV ⟨i, e, kd, s⟩] w (Left w k (writes A (2 + (i : Int) * 4) (chunks (Crc.lay (body ⟨i, e, kd, s⟩))))) := by
  have hnb := h.nb
  have hmany : many A.n ≤ 1100 := by unfold many; omega
  have HB0 := Lib.hid (PBox.new w ⟨i, e, kd, s⟩)
  have hb0 : Below w.heap.size w (w.alloc (.cells #[.int .i64 (i : Int), .int .i64 (e : Int), .int .i64 (kd : Int), .string ⟨s.toArray⟩] 56 (0, 0))) := (Below.refl _ _).alloc (Nat.le_refl _) _
  have HP0 := Lib.hid (h.below hb0)
  have HQ0 := Lib.hid hb0
  have HPut := Lib.hid (fun w => put_ok i e kd s (by omega) he hk hs w)
  have hlen : (Crc.lay (body ⟨i, e, kd, s⟩)).length = 256 := by rw [Crc.lay_length, body_length _ hs]
  have C4 := Lib.hid (cut4_of _ hlen)
  clear hb0 h hlen
  unfold pageV
  simp only
  unfold pageV at HPut
  simp only at HPut
  generalize Crc.lay (body ⟨i, e, kd, s⟩) = D at *
  generalize (⟨D.toArray⟩ : ByteArray) = S at *
  go_enter Try.func39, Try.ntmps39
  go_wp2_with fail
  refine (HPut.out _).mono ?_
  rintro en w1 ⟨rfl, hb⟩
  have HB1 := Lib.hid (HB0.out.below hb (by simp))
  have HP1 := Lib.hid (HP0.out.below hb)
  have HQ1 := Lib.hid (HQ0.out.trans (hb.mono (by simp)))
  obtain ⟨c0, c1, c2, c3⟩ := HB1.out.q
  clear hb HB0 HP0 HQ0 HPut
  have hiI : (i : Int) < (many A.n : Nat) := by omega
  go_wp2_with fail
  go_quiet ((go_at_call 42; exact Calls.quiet_of_same (same_of (many_any (HP1.out.below (below_drewN (Below.refl _ _) _))))))
  have hd : Below w1.heap.size w1 (w1.drewN nq) := below_drewN (Below.refl _ _) nq
  have HP2 := Lib.hid (HP1.out.below hd)
  have HQ2 := Lib.hid (HQ1.out.trans (hd.mono HQ1.out.size))
  have HB2 := Lib.hid (HB1.out.below hd (lt_of_block HB1.out))
  clear hd HP1 HQ1 HB1 c0 c1 c2 c3
  generalize w1.drewN nq = w2 at *
  obtain ⟨c0, c1, c2, c3⟩ := HB2.out.q
  go_wp2_with fail
  refine (sects_any i _ (by omega)).mono ?_
  rintro en w3 ⟨rfl, hb⟩
  have HI : Hid (WrR w k A (2 + (i : Int) * 4) (chunks D) 0 A w3) :=
    ⟨HP2.out.below hb, (Touch.of_below HQ2.out).trans (Touch.of_below (hb.mono HQ2.out.size |> fun _ => hb)), by simp⟩
  clear hb HP2 HQ2 c0 c1 c2 c3 hiI
  have i0 : ∀ w, (Instr.index 92 (.agg #[.int .i64 (2 + (i : Int) * 4), .int .i64 (2 + (i : Int) * 4 + 1), .int .i64 (2 + (i : Int) * 4 + 2), .int .i64 (2 + (i : Int) * 4 + 3)]) (.int .i64 0)).run Try.prog w = .ok (.int .i64 (2 + (i : Int) * 4)) w := fun _ => by kernel_rfl
  have i1 : ∀ w, (Instr.index 92 (.agg #[.int .i64 (2 + (i : Int) * 4), .int .i64 (2 + (i : Int) * 4 + 1), .int .i64 (2 + (i : Int) * 4 + 2), .int .i64 (2 + (i : Int) * 4 + 3)]) (.int .i64 1)).run Try.prog w = .ok (.int .i64 (2 + (i : Int) * 4 + 1)) w := fun _ => by kernel_rfl
  have i2 : ∀ w, (Instr.index 92 (.agg #[.int .i64 (2 + (i : Int) * 4), .int .i64 (2 + (i : Int) * 4 + 1), .int .i64 (2 + (i : Int) * 4 + 2), .int .i64 (2 + (i : Int) * 4 + 3)]) (.int .i64 2)).run Try.prog w = .ok (.int .i64 (2 + (i : Int) * 4 + 2)) w := fun _ => by kernel_rfl
  have i3 : ∀ w, (Instr.index 92 (.agg #[.int .i64 (2 + (i : Int) * 4), .int .i64 (2 + (i : Int) * 4 + 1), .int .i64 (2 + (i : Int) * 4 + 2), .int .i64 (2 + (i : Int) * 4 + 3)]) (.int .i64 3)).run Try.prog w = .ok (.int .i64 (2 + (i : Int) * 4 + 3)) w := fun _ => by kernel_rfl
  have hS := C4.out.size
  go_wp2_with fail
  go_loopw [30] (fun j wr => ∃ (m : Nat) (B : Dk.St), m ≤ 4 ∧ j = .int .i64 m ∧ Hid (WrR w k A (2 + (i : Int) * 4) (chunks D) m B wr)) (fun j _ => 100 - (intOf j).toNat)
  case atStart => exact ⟨0, A, by omega, rfl, HI⟩
  case round =>
    obtain ⟨m, B, hm, rfl, hR⟩ := hrel
    clear HI
    match m, hm with
    | 0, _ =>
      rw [show ((0 : Nat) : Int) = 0 from rfl]
      have HW := Lib.hid (write_any (2 + (i : Int) * 4) (S.extract 0 64) hR.out.p)
      rw [C4.out.c0] at HW
      by_cases hn : (B.write (2 + (i : Int) * 4) (D.take 64)).1 = 0
      · have HN := Lib.hid hn
        clear hn
        go_wp2_with fail
        refine HW.out.mono ?_
        rintro en w2 ⟨rfl, hp2, ht2⟩
        rw [HN.out]
        have H2 := Lib.hid (hR.out.next (by simp) rfl hp2 ht2 HN.out)
        clear hp2 ht2 HW
        go_wp2_with fail
        go_roundw
        case rel => exact ⟨1, _, by omega, rfl, H2⟩
        case measure => simp [intOf]
      · have HN := Lib.hid hn
        have hnb : ((B.write (2 + (i : Int) * 4) (D.take 64)).1 != 0) = true := by rw [bne_iff_ne]; exact hn
        clear hn
        go_wp2_with fail
        refine HW.out.mono ?_
        rintro en w2 ⟨rfl, hp2, ht2⟩
        have H2 := Lib.hid (hR.out.last (by simp) rfl hp2 ht2 HN.out)
        clear hp2 ht2 HW
        go_wp2_with fail
        go_ret
        exact H2.out
    | 1, _ =>
      rw [show ((1 : Nat) : Int) = 1 from rfl]
      have HW := Lib.hid (write_any (2 + (i : Int) * 4 + 1) (S.extract 64 128) hR.out.p)
      rw [C4.out.c1] at HW
      by_cases hn : (B.write (2 + (i : Int) * 4 + 1) ((D.drop 64).take 64)).1 = 0
      · have HN := Lib.hid hn
        clear hn
        go_wp2_with fail
        refine HW.out.mono ?_
        rintro en w2 ⟨rfl, hp2, ht2⟩
        rw [HN.out]
        have H2 := Lib.hid (hR.out.next (by simp) rfl hp2 ht2 HN.out)
        clear hp2 ht2 HW
        go_wp2_with fail
        go_roundw
        case rel => exact ⟨2, _, by omega, rfl, H2⟩
        case measure => simp [intOf]
      · have HN := Lib.hid hn
        have hnb : ((B.write (2 + (i : Int) * 4 + 1) ((D.drop 64).take 64)).1 != 0) = true := by rw [bne_iff_ne]; exact hn
        clear hn
        go_wp2_with fail
        refine HW.out.mono ?_
        rintro en w2 ⟨rfl, hp2, ht2⟩
        have H2 := Lib.hid (hR.out.last (by simp) rfl hp2 ht2 HN.out)
        clear hp2 ht2 HW
        go_wp2_with fail
        go_ret
        exact H2.out
    | 2, _ =>
      rw [show ((2 : Nat) : Int) = 2 from rfl]
      have HW := Lib.hid (write_any (2 + (i : Int) * 4 + 2) (S.extract 128 192) hR.out.p)
      rw [C4.out.c2] at HW
      by_cases hn : (B.write (2 + (i : Int) * 4 + 2) ((D.drop 128).take 64)).1 = 0
      · have HN := Lib.hid hn
        clear hn
        go_wp2_with fail
        refine HW.out.mono ?_
        rintro en w2 ⟨rfl, hp2, ht2⟩
        rw [HN.out]
        have H2 := Lib.hid (hR.out.next (by simp) rfl hp2 ht2 HN.out)
        clear hp2 ht2 HW
        go_wp2_with fail
        go_roundw
        case rel => exact ⟨3, _, by omega, rfl, H2⟩
        case measure => simp [intOf]
      · have HN := Lib.hid hn
        have hnb : ((B.write (2 + (i : Int) * 4 + 2) ((D.drop 128).take 64)).1 != 0) = true := by rw [bne_iff_ne]; exact hn
        clear hn
        go_wp2_with fail
        refine HW.out.mono ?_
        rintro en w2 ⟨rfl, hp2, ht2⟩
        have H2 := Lib.hid (hR.out.last (by simp) rfl hp2 ht2 HN.out)
        clear hp2 ht2 HW
        go_wp2_with fail
        go_ret
        exact H2.out
    | 3, _ =>
      rw [show ((3 : Nat) : Int) = 3 from rfl]
      have HW := Lib.hid (write_any (2 + (i : Int) * 4 + 3) (S.extract 192 256) hR.out.p)
      rw [C4.out.c3] at HW
      by_cases hn : (B.write (2 + (i : Int) * 4 + 3) ((D.drop 192).take 64)).1 = 0
      · have HN := Lib.hid hn
        clear hn
        go_wp2_with fail
        refine HW.out.mono ?_
        rintro en w2 ⟨rfl, hp2, ht2⟩
        rw [HN.out]
        have H2 := Lib.hid (hR.out.next (by simp) rfl hp2 ht2 HN.out)
        clear hp2 ht2 HW
        go_wp2_with fail
        go_roundw
        case rel => exact ⟨4, _, by omega, rfl, H2⟩
        case measure => simp [intOf]
      · have HN := Lib.hid hn
        have hnb : ((B.write (2 + (i : Int) * 4 + 3) ((D.drop 192).take 64)).1 != 0) = true := by rw [bne_iff_ne]; exact hn
        clear hn
        go_wp2_with fail
        refine HW.out.mono ?_
        rintro en w2 ⟨rfl, hp2, ht2⟩
        have H2 := Lib.hid (hR.out.last (by simp) rfl hp2 ht2 HN.out)
        clear hp2 ht2 HW
        go_wp2_with fail
        go_ret
        exact H2.out
    | 4, _ =>
      rw [show ((4 : Nat) : Int) = 4 from rfl]
      go_wp2_with fail
      go_ret
      exact hR.out.done rfl
theorem left_same {w w' : World} {k : DB} {A : Dk.St} (h : PD w k A) (hb : Below w.heap.size w w') (r : Int) : Left w k (r, A) (.returned (.int .i64 r)) w' := ⟨rfl, h.below hb, Touch.of_below hb⟩
set_option maxRecDepth 100000 in
set_option maxHeartbeats 4000000 in
theorem pwrite_bad {w : World} {k : DB} {A : Dk.St} (p : Page) (h : PD w k A) (hi : p.id ≤ 9223372036854775807) (hs : p.pay.length ≤ 9223372036854775807) (hn : (put p).2 ≠ 0) :
    Calls Try.prog 39 #[.pointer (some ⟨k.g, 0, none⟩), pageV p] w (Left w k ((put p).2, A)) := by
  have HPut := Lib.hid (fun w => put_any p w hi hs)
  have hnb : ((put p).2 != 0) = true := by rw [bne_iff_ne]; exact hn
  have HH := Lib.hid h
  unfold putV at HPut
  generalize (put p).2 = r at *
  generalize (put p).1 = D at *
  have HN := Lib.hid hn
  clear hn h
  obtain ⟨i, e, kd, s⟩ := p
  unfold pageV at HPut ⊢
  simp only at HPut ⊢
  go_enter Try.func39, Try.ntmps39
  go_wp2_with fail
  refine (HPut.out _).mono ?_
  rintro en w1 ⟨rfl, hb⟩
  have HQ1 := Lib.hid (((Below.refl w.heap.size w).alloc (Nat.le_refl _) _).trans (hb.mono (by simp)))
  clear hb HPut
  go_wp2_with fail
  go_ret
  exact left_same HH.out HQ1.out r
set_option maxRecDepth 100000 in
set_option maxHeartbeats 4000000 in
theorem pwrite_far {w : World} {k : DB} {A : Dk.St} (p : Page) (h : PD w k A) (hi : p.id ≤ 9223372036854775807) (hs : p.pay.length ≤ 9223372036854775807) (hn : (put p).2 = 0) (hf : (many A.n : Int) ≤ p.id) :
    Calls Try.prog 39 #[.pointer (some ⟨k.g, 0, none⟩), pageV p] w (Left w k (3, A)) := by
  have HPut := Lib.hid (fun w => put_any p w hi hs)
  have HB0 := Lib.hid (PBox.new w p)
  have HH := Lib.hid h
  unfold putV at HPut
  rw [hn] at HPut
  generalize (put p).1 = D at *
  clear hn h
  obtain ⟨i, e, kd, s⟩ := p
  unfold pageV at HPut ⊢
  simp only at HPut hf hi ⊢
  go_enter Try.func39, Try.ntmps39
  go_wp2_with fail
  refine (HPut.out _).mono ?_
  rintro en w1 ⟨rfl, hb⟩
  have HB1 := Lib.hid (HB0.out.below hb (by simp))
  have HQ1 := Lib.hid (((Below.refl w.heap.size w).alloc (Nat.le_refl _) _).trans (hb.mono (by simp)))
  have HP1 := Lib.hid (HH.out.below HQ1.out)
  obtain ⟨c0, c1, c2, c3⟩ := HB1.out.q
  clear hb HB0 HPut
  go_wp2_with fail
  go_quiet ((go_at_call 42; exact Calls.quiet_of_same (same_of (many_any (HP1.out.below (below_drewN (Below.refl _ _) _))))))
  have HQ2 := Lib.hid (HQ1.out.trans ((below_drewN (Below.refl w1.heap.size w1) nq).mono HQ1.out.size))
  clear c0 c1 c2 c3
  generalize w1.drewN nq = w2 at *
  go_wp2_with fail
  go_ret
  exact left_same HH.out HQ2.out 3
theorem pwrite_any {w : World} {k : DB} {A : Dk.St} (p : Page) (h : PD w k A) (hi : p.id ≤ 9223372036854775807) (hs : p.pay.length ≤ 9223372036854775807) :
    Calls Try.prog 39 #[.pointer (some ⟨k.g, 0, none⟩), pageV p] w (Left w k (Pg.write A p)) := by
  by_cases hn : (put p).2 = 0
  · by_cases hf : (many A.n : Int) ≤ p.id
    · have e : Pg.write A p = (3, A) := by unfold Pg.write; rw [if_neg (by simp [hn]), if_pos hf]
      rw [e]
      exact pwrite_far p h hi hs hn hf
    · have hr : right p = true := by
        cases hr : right p
        · unfold Pg.put at hn
          rw [if_pos hr] at hn
          cases hn
        · rfl
      have hl : ¬ 232 < p.pay.length := by
        intro hl
        unfold Pg.put at hn
        rw [if_neg (by simp [hr]), if_pos hl] at hn
        cases hn
      have e : Pg.write A p = writes A (2 + 4 * p.id) (chunks (Crc.lay (body p))) := by
        have e1 : put p = (Crc.lay (body p), 0) := by unfold Pg.put; rw [if_neg (by simp [hr]), if_neg hl]
        unfold Pg.write
        rw [e1, if_neg (by simp), if_neg hf]
      rw [e]
      obtain ⟨i, ep, kd, hpe, he, hk, hii⟩ := page_nat p hr
      generalize p.pay = s at *
      subst hpe
      simp only at *
      rw [show (2 + 4 * (i : Int)) = 2 + (i : Int) * 4 by omega]
      exact pwrite_in i ep kd s h he hk (by omega) (by omega)
  · have e : Pg.write A p = ((put p).2, A) := by unfold Pg.write; rw [if_pos hn]
    rw [e]
    exact pwrite_bad p h hi hs hn
end Go.Proofs.Ytpjpncfoenadhaa
