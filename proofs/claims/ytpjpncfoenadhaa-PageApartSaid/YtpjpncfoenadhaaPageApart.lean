/- PageApart: what is written to one page changes no other one. No condition. -/
import Derived.Test.YtpjpncfoenadhaaPageOpen
import Derived.Deep.DeepCutAuto
namespace Go.Proofs.Ytpjpncfoenadhaa
open Go.ChangeShapes Go.WideShapes Go.ChangeAt Go.RowKit Go.ChangeMaps Pg Dk

theorem PBox.put0 {w : World} {b : Nat} {p : Page} (h : PBox w b p) (i : Int) : PBox (w.setCell ⟨b, 0, none⟩ (.int .i64 i)) b ⟨i, p.epoch, p.kind, p.pay⟩ := by
  unfold PBox
  rw [heap_setCell_same _ b 0 _ _ _ h]
  rfl
theorem PBox.fr {w : World} {b : Nat} {p : Page} (h : PBox w b p) (j : Nat) : w.frozen? ⟨b, j, none⟩ = false := frozen_of_row w b j _ _ h
structure Ap (w : World) (k : DB) (A : Dk.St) (p q : Page) (wr : World) : Prop where
  d : PD wr k A
  p : PBox wr w.heap.size p
  q : PBox wr (w.heap.size + 1) q
  lo : w.heap.size + 2 ≤ k.lo
  b : Below w.heap.size w wr
section
variable {w : World} {k : DB} {A : Dk.St} {p q : Page} {wr : World}
theorem Ap.ins (h : Ap w k A p q wr) : w.heap.size + 2 ≤ wr.heap.size := by
  have := h.d.inn
  have := h.d.ok
  have := lt_of_block h.q
  omega
theorem Ap.below {wr' : World} (h : Ap w k A p q wr) (hb : Below wr.heap.size wr wr') : Ap w k A p q wr' :=
  ⟨h.d.below hb, h.p.below hb (lt_of_block h.p), h.q.below hb (lt_of_block h.q), h.lo, h.b.trans (hb.mono h.b.size)⟩
theorem Ap.ids (h : Ap w k A p q wr) (i j : Int) : Ap w k A ⟨i, p.epoch, p.kind, p.pay⟩ ⟨j, q.epoch, q.kind, q.pay⟩ ((wr.setCell ⟨w.heap.size, 0, none⟩ (.int .i64 i)).setCell ⟨w.heap.size + 1, 0, none⟩ (.int .i64 j)) := by
  have t1 : Touch w.heap.size (w.heap.size + 2) wr ((wr.setCell ⟨w.heap.size, 0, none⟩ (.int .i64 i)).setCell ⟨w.heap.size + 1, 0, none⟩ (.int .i64 j)) :=
    (Touch.setCell wr (p := ⟨w.heap.size, 0, none⟩) (by simp) _).trans (Touch.setCell _ (p := ⟨w.heap.size + 1, 0, none⟩) (by simp) _)
  refine ⟨h.d.far t1 (.inr h.lo), ?_, ?_, h.lo, h.b.trans (t1.below (Nat.le_refl _) h.b.size)⟩
  · exact (Below.heap_setCell _ _ _ _ (by simp)).trans (h.p.put0 i)
  · have hq : PBox (wr.setCell ⟨w.heap.size, 0, none⟩ (.int .i64 i)) (w.heap.size + 1) q := (Below.heap_setCell _ _ _ _ (by simp)).trans h.q
    exact hq.put0 j
theorem Ap.wrote {wr' : World} {B : Dk.St} (h : Ap w k A p q wr) (hd : PD wr' k B) (ht : Touch k.lo k.hi wr wr') : Ap w k B p q wr' := by
  have hl := h.lo
  have z1 := lt_of_block h.p
  have z2 := lt_of_block h.q
  exact ⟨hd, (ht.block _ z1 (by omega)).trans h.p, (ht.block _ z2 (by omega)).trans h.q, hl, h.b.trans (ht.below (by omega) h.b.size)⟩
end
set_option maxRecDepth 100000 in
set_option maxHeartbeats 8000000 in
theorem papart_any (p q : Page) (w : World) (okp : PageOk p) (okq : PageOk q) :
    Calls Try.prog 12 #[pageV p, pageV q] w fun e w' => e = .returned (.bool true) ∧ Below w.heap.size w w' := by
  have al1 : Below w.heap.size w (w.alloc (.cells #[.int .i64 p.id, .int .i64 p.epoch, .int .i64 p.kind, .string ⟨p.pay.toArray⟩] 56 (0, 0))) := (Below.refl _ _).alloc (Nat.le_refl _) _
  have al2 := Below.alloc (B := (w.alloc (.cells #[.int .i64 p.id, .int .i64 p.epoch, .int .i64 p.kind, .string ⟨p.pay.toArray⟩] 56 (0, 0))).heap.size) (Below.refl _ _) (Nat.le_refl _) (.cells #[.int .i64 q.id, .int .i64 q.epoch, .int .i64 q.kind, .string ⟨q.pay.toArray⟩] 56 (0, 0))
  have HP0 := Lib.hid ((PBox.new w p).below al2 (by simp))
  have HQ0 := Lib.hid (PBox.new (w.alloc (.cells #[.int .i64 p.id, .int .i64 p.epoch, .int .i64 p.kind, .string ⟨p.pay.toArray⟩] 56 (0, 0))) q)
  have HW0 := Lib.hid (al1.trans (al2.mono (by simp)))
  have HKp := Lib.hid okp
  have HKq := Lib.hid okq
  clear al1 al2 okp okq
  unfold pageV
  go_enter Try.func12, Try.ntmps12
  go_wp2_with fail
  refine (new_in 50 _ (by decide) (by decide)).mono ?_
  rintro e w1 ⟨k, rfl, hd, hlo, hb⟩
  have HA1 : Hid (Ap w k (Dk.made 50) p q w1) := ⟨hd, HP0.out.below hb (lt_of_block HP0.out), by have := HQ0.out.below hb (lt_of_block HQ0.out); simpa using this, by rw [hlo]; simp, HW0.out.trans (hb.mono HW0.out.size)⟩
  clear hd hlo hb HP0 HQ0 HW0
  have HA2 := Lib.hid (HA1.out.ids 3 7)
  obtain ⟨c0, c1, c2, c3⟩ := HA1.out.p.q
  obtain ⟨d0, d1, d2, d3⟩ := HA1.out.q.q
  have f0 := HA1.out.p.fr 0
  have g0 := HA1.out.q.fr 0
  clear HA1
  go_wp2_with fail
  generalize (w1.setCell ⟨w.heap.size, 0, none⟩ (.int .i64 3)).setCell ⟨w.heap.size + 1, 0, none⟩ (.int .i64 7) = w2 at *
  clear c0 c1 c2 c3 d0 d1 d2 d3 f0 g0
  have HWr := Lib.hid (pwrite_any (⟨3, p.epoch, p.kind, p.pay⟩ : Page) HA2.out.d (show (3 : Int) ≤ _ by decide) HKp.out.s)
  have HG1 := Lib.hid (fun hr hl => write_wrote (up_made 50) (⟨3, p.epoch, p.kind, p.pay⟩ : Page) 3 rfl hr hl (by rw [Pg.n_made]; decide))
  generalize Pg.write (Dk.made 50) ⟨3, p.epoch, p.kind, p.pay⟩ = R1 at *
  obtain ⟨r1, A1⟩ := R1
  unfold pageV at HWr
  simp only at HWr HG1
  refine HWr.out.mono ?_
  rintro e w3 ⟨rfl, hd, ht⟩
  have HA3 := Lib.hid (HA2.out.wrote hd ht)
  obtain ⟨d0, d1, d2, d3⟩ := HA3.out.q.q
  clear hd ht HA2 HWr
  go_wp2_with fail
  have HWr := Lib.hid (pwrite_any (⟨7, q.epoch, q.kind, q.pay⟩ : Page) HA3.out.d (show (7 : Int) ≤ _ by decide) HKq.out.s)
  have HG2 := Lib.hid (fun h1 h2 hr hl => write_wrote (A := A1) h1 (⟨7, q.epoch, q.kind, q.pay⟩ : Page) 7 rfl hr hl h2)
  simp only at HWr HG2
  generalize Pg.write A1 ⟨7, q.epoch, q.kind, q.pay⟩ = R2 at *
  obtain ⟨r2, A2⟩ := R2
  unfold pageV at HWr
  simp only at HWr HG2
  refine HWr.out.mono ?_
  rintro e w4 ⟨rfl, hd, ht⟩
  have HA4 := Lib.hid (HA3.out.wrote hd ht)
  clear hd ht HA3 HWr d0 d1 d2 d3
  obtain ⟨c0, c1, c2, c3⟩ := HA4.out.p.q
  simp only at c0 c1 c2 c3
  have HRp := Lib.hid (fun w' => rright_any ⟨3, p.epoch, p.kind, p.pay⟩ w')
  have HRq := Lib.hid (fun w' => rright_any ⟨7, q.epoch, q.kind, q.pay⟩ w')
  unfold pageV at HRp HRq
  simp only at HRp HRq
  by_cases hlp : p.pay.length ≤ 232
  · have hlpI : ¬ (232 : Int) < (p.pay.length : Int) := by omega
    go_wp2_with fail
    refine (HRp.out _).mono ?_
    rintro e w5 ⟨rfl, hb⟩
    have HA5 := Lib.hid (HA4.out.below hb)
    clear hb HA4 HRp c0 c1 c2 c3
    obtain ⟨d0, d1, d2, d3⟩ := HA5.out.q.q
    simp only at d0 d1 d2 d3
    cases hrp : right ⟨3, p.epoch, p.kind, p.pay⟩
    · clear hrp HG1 HG2
      go_wp2_with fail
      refine (pawake_any _).mono ?_
      rintro e w9 ⟨rfl, hb⟩
      have HA9 := Lib.hid (HA5.out.below hb)
      clear hb HA5
      go_wp2_with fail
      go_ret
      exact ⟨rfl, HA9.out.b⟩
    · have HE1 := HG1.out hrp hlp
      have HE1' := Lib.hid HE1.2
      obtain ⟨rfl, _⟩ := HE1
      clear HG1
      by_cases hlq : q.pay.length ≤ 232
      · have hlqI : ¬ (232 : Int) < (q.pay.length : Int) := by omega
        have hrpH := Lib.hid hrp
        clear hrp
        go_wp2_with fail
        refine (HRq.out _).mono ?_
        rintro e w6 ⟨rfl, hb⟩
        have HA6 := Lib.hid (HA5.out.below hb)
        clear hb HA5 HRq d0 d1 d2 d3
        cases hrq : right ⟨7, q.epoch, q.kind, q.pay⟩
        · clear hrq HG2
          go_wp2_with fail
          refine (pawake_any _).mono ?_
          rintro e w9 ⟨rfl, hb⟩
          have HA9 := Lib.hid (HA6.out.below hb)
          clear hb HA6
          go_wp2_with fail
          go_ret
          exact ⟨rfl, HA9.out.b⟩
        · have HE2 := HG2.out HE1'.out.up (by rw [HE1'.out.n, Pg.n_made]; decide) hrq hlq
          have HE2' := Lib.hid HE2.2
          obtain ⟨rfl, _⟩ := HE2
          have HV3 : Hid (Pg.read A2 3 = (⟨3, p.epoch, p.kind, full p.pay⟩, 0)) :=
            (read_other (j := 3) HE2'.out HE1'.out.up (by decide)).trans (read_wrote (i := 3) HE1'.out rfl hrpH.out hlp (by rw [Pg.n_made]; decide) (show (3 : Int) ≤ _ by decide))
          have HV7 : Hid (Pg.read A2 7 = (⟨7, q.epoch, q.kind, full q.pay⟩, 0)) :=
            read_wrote (i := 7) HE2'.out rfl hrq hlq (by rw [HE1'.out.n, Pg.n_made]; decide) (show (7 : Int) ≤ _ by decide)
          have HFp := Lib.hid (fun w' => full_any ⟨p.pay.toArray⟩ w' (show p.pay.length ≤ 600 by omega))
          have HFq := Lib.hid (fun w' => full_any ⟨q.pay.toArray⟩ w' (show q.pay.length ≤ 600 by omega))
          rw [show (⟨p.pay.toArray⟩ : ByteArray).data.toList = p.pay from rfl] at HFp
          rw [show (⟨q.pay.toArray⟩ : ByteArray).data.toList = q.pay from rfl] at HFq
          have HR3 := Lib.hid (pread_any 3 HA6.out.d)
          have HR7 := Lib.hid (fun w' (h : Ap w k A2 ⟨3, p.epoch, p.kind, p.pay⟩ ⟨7, q.epoch, q.kind, q.pay⟩ w') => pread_any 7 h.d)
          rw [HV3.out] at HR3
          rw [HV7.out] at HR7
          unfold readPV pageV at HR3 HR7
          simp only at HR3 HR7
          generalize (⟨(full p.pay).toArray⟩ : ByteArray) = Fp at *
          generalize (⟨(full q.pay).toArray⟩ : ByteArray) = Fq at *
          clear HE2' hrq HG2 hrpH HE1' hlqI hlpI HV3 HV7 HKp HKq
          go_wp2_with fail
          refine HR3.out.mono ?_
          rintro e w7 ⟨rfl, hb⟩
          have HA7 := Lib.hid (HA6.out.below hb)
          have hal : Below w7.heap.size w7 (w7.alloc (.cells #[.int .i64 3, .int .i64 p.epoch, .int .i64 p.kind, .string Fp] 56 (0, 0))) := (Below.refl _ _).alloc (Nat.le_refl _) _
          have HX7 : Hid ((w7.alloc (.cells #[.int .i64 3, .int .i64 p.epoch, .int .i64 p.kind, .string Fp] 56 (0, 0))).heap[w7.heap.size]? = some (.cells #[.int .i64 3, .int .i64 p.epoch, .int .i64 p.kind, .string Fp] 56 (0, 0))) := World.alloc_heap_new w7 _
          have HA8 := Lib.hid (HA7.out.below hal)
          clear hb hal HA6 HR3 HA7
          go_wp2_with fail
          generalize w7.alloc (.cells #[.int .i64 3, .int .i64 p.epoch, .int .i64 p.kind, .string Fp] 56 (0, 0)) = w8 at *
          generalize w7.heap.size = b7 at *
          refine (HR7.out _ HA8.out).mono ?_
          rintro e w9 ⟨rfl, hb⟩
          have hx9 := (hb.block b7 (lt_of_block HX7.out)).trans HX7.out
          have HA9 := HA8.out.below hb
          have hal : Below w9.heap.size w9 (w9.alloc (.cells #[.int .i64 7, .int .i64 q.epoch, .int .i64 q.kind, .string Fq] 56 (0, 0))) := (Below.refl _ _).alloc (Nat.le_refl _) _
          have HX9 : Hid ((w9.alloc (.cells #[.int .i64 7, .int .i64 q.epoch, .int .i64 q.kind, .string Fq] 56 (0, 0))).heap[w9.heap.size]? = some (.cells #[.int .i64 7, .int .i64 q.epoch, .int .i64 q.kind, .string Fq] 56 (0, 0))) := World.alloc_heap_new w9 _
          have HX10 := Lib.hid ((hal.block b7 (lt_of_block hx9)).trans hx9)
          have HA10 := Lib.hid (HA9.below hal)
          clear hb hal HA8 HR7 HA9 hx9 HX7
          go_wp2_with fail
          generalize w9.alloc (.cells #[.int .i64 7, .int .i64 q.epoch, .int .i64 q.kind, .string Fq] 56 (0, 0)) = w10 at *
          generalize w9.heap.size = b9 at *
          have c3 := HA10.out.p.q.2.2.2
          have d3 := HA10.out.q.q.2.2.2
          simp only at c3 d3
          have q1 := fun d os => cell_regrown c3 d os
          have q2 := fun d os => cell_regrown d3 d os
          have x1 := fun d os => cell_regrown (cell_of_row w10 b7 3 _ _ (0, 0) HX10.out) d os
          have x2 := fun d os => cell_regrown (cell_of_row w10 b9 3 _ _ (0, 0) HX9.out) d os
          clear c3 d3
          refine wp_region_quiet_below (by kernel_rfl) (by kernel_rfl) ?_
          quiet_step (exact Calls.regrown_of (pawake_any _))
          repeat (quiet_step (fail))
          quiet_step (exact Calls.regrown_of (HFp.out _))
          repeat (quiet_step (fail))
          quiet_step (exact Calls.regrown_of (HFq.out _))
          repeat (quiet_step (fail))
          refine wpQuiet_nil ?_
          intro _ hw'
          obtain ⟨⟨dq, osq⟩, hw''⟩ := hw'
          subst hw''
          have HA11 := Lib.hid (HA10.out.below (below_regrown w10 dq osq))
          go_wp2_with fail
          go_ret
          exact ⟨by simp, HA11.out.b⟩
      · have hlqI : (232 : Int) < (q.pay.length : Int) := by omega
        clear hrp HG2
        go_wp2_with fail
        refine (pawake_any _).mono ?_
        rintro e w9 ⟨rfl, hb⟩
        have HA9 := Lib.hid (HA5.out.below hb)
        clear hb HA5
        go_wp2_with fail
        go_ret
        exact ⟨rfl, HA9.out.b⟩
  · have hlpI : (232 : Int) < (p.pay.length : Int) := by omega
    clear HG1 HG2
    go_wp2_with fail
    refine (pawake_any _).mono ?_
    rintro e w9 ⟨rfl, hb⟩
    have HA9 := Lib.hid (HA4.out.below hb)
    clear hb HA4
    go_wp2_with fail
    go_ret
    exact ⟨rfl, HA9.out.b⟩
set_option maxRecDepth 100000 in
theorem papart_law : Frame.LawCalls 12 Try.f12 := by
  intro H enc W base args ds p hval hA _ _ _
  rw [Try.params12] at hA hval
  obtain ⟨v0, vs0, d0, ds0, p0, q0, hargs, rfl, rfl, h0, r0⟩ := trodAll_cons hA
  obtain ⟨v1, vs1, d1, ds1, p1, q1, rfl, rfl, rfl, h1, r1⟩ := trodAll_cons r0
  obtain ⟨rfl, rfl, rfl⟩ := trodAll_nil r1
  obtain rfl : args = #[v0, v1] := by cases args; simp_all
  obtain ⟨p, rfl, okp⟩ := page_args (hval 0 56 v0 rfl rfl) h0
  obtain ⟨q, rfl, okq⟩ := page_args (hval 1 56 v1 rfl rfl) h1
  exact papart_any p q W okp okq
set_option maxRecDepth 100000 in
theorem papart_lifted (os : Os) (started : os.Started) (H : Type) (enc : TypeId × Value → H) :
    ReturnsInHanded {} Try.checked os 12 .any (Rows.pageApartSpec.pre6 enc Try.prog Try.f12 Rows.pageApartRow.domain false) (Rows.pageApartSpec.post enc Try.prog Try.f12 false true false false) :=
  Frame.lifted (s := Rows.pageApartSpec) (by kernel_rfl) Try.func12 (by kernel_rfl) rfl (tb := 4) (by kernel_rfl) Try.underlying4
    (fun H ds h => by
      obtain ⟨d, e, rfl⟩ := two_data ds h
      rfl) papart_law os started H enc
    (ChangeSpec.witness6 (enc := enc) (C := Try.checked) false ⟨#[], #[.agg #[.int .i64 0, .int .i64 0, .int .i64 0, .string ⟨#[]⟩], .agg #[.int .i64 0, .int .i64 0, .int .i64 0, .string ⟨#[]⟩]], []⟩ 8 (by kernel_rfl) (by kernel_rfl) (by kernel_rfl) (by kernel_rfl))
theorem papart_holds : Rows.PageApartSaid :=
  OpenClaim.holds_of_wide 12 Try.f12 rfl rfl rfl rfl rfl rfl rfl ⟨rfl, rfl, rfl, rfl, rfl⟩ rfl rfl rfl rfl rfl (by kernel_rfl) Try.func12 (by kernel_rfl)
    (of_decide_eq_true (by kernel_rfl)) (by unfold Func.isWrapper; first | (rw [if_pos (by decide +kernel)]; kernel_rfl) | (rw [if_neg (by decide +kernel)]; exact ⟨rfl, rfl⟩))
    (fun os started H enc _ => papart_lifted os started H enc)
#print axioms papart_holds
end Go.Proofs.Ytpjpncfoenadhaa
