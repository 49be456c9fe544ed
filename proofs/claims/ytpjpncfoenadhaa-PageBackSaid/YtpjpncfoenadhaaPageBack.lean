/- PageBack: what was put is got as it was, its payload filled up; what was got is put as the very bytes. No condition. -/
import Derived.Test.YtpjpncfoenadhaaPageOpen
import Derived.Deep.DeepCutAuto
namespace Go.Proofs.Ytpjpncfoenadhaa
open Go.ChangeShapes Go.WideShapes Go.ChangeAt Go.RowKit Go.ChangeMaps Pg Dk

theorem put_zero (p : Page) (h : (Pg.put p).2 = 0) : right p = true ∧ p.pay.length ≤ 232 ∧ Pg.put p = (Crc.lay (body p), 0) := by
  unfold Pg.put at h ⊢
  cases hr : right p
  · rw [if_pos hr] at h
    cases h
  · rw [if_neg (by simp [hr])] at h ⊢
    by_cases hl : 232 < p.pay.length
    · rw [if_pos hl] at h
      cases h
    · rw [if_neg hl]
      exact ⟨rfl, by omega, rfl⟩
theorem of_ok (s : List UInt8) (h : (Pg.get s).2 = 0) : PageOk (Pg.get s).1 := by
  rcases get_cases s with ⟨h1, _⟩ | ⟨h1, h2, h3, h4⟩
  · exact absurd h h1
  · rw [h1]
    have k1 : ((s.drop 4).take 8).length = 8 := by rw [List.length_take, List.length_drop]; omega
    have hb := Pk.decI_bounds _ k1
    refine ⟨hb.1, hb.2, ?_⟩
    show (s.drop 24).length ≤ _
    rw [List.length_drop]
    omega
set_option maxRecDepth 100000 in
set_option maxHeartbeats 8000000 in
theorem back_any (p : Page) (s : ByteArray) (w : World) (ok : PageOk p) (h1 : p.pay.length ≤ 600) (h2 : s.size ≤ 600) :
    Calls Try.prog 11 #[pageV p, .string s] w fun e w' => e = .returned (.bool true) ∧ Below w.heap.size w w' := by
  have HB0 := Lib.hid (PBox.new w p)
  have hb0 : Below w.heap.size w (w.alloc (.cells #[.int .i64 p.id, .int .i64 p.epoch, .int .i64 p.kind, .string ⟨p.pay.toArray⟩] 56 (0, 0))) := (Below.refl _ _).alloc (Nat.le_refl _) _
  have HW0 := Lib.hid hb0
  have HK := Lib.hid ok
  have h1I : ¬ (600 : Int) < (p.pay.length : Int) := by omega
  have h2I : ¬ (600 : Int) < (s.size : Int) := by omega
  have HP := Lib.hid (fun w' => put_any p w' ok.i1 ok.s)
  clear hb0 ok
  unfold pageV putV at HP
  unfold pageV
  have HG2 := Lib.hid (fun w' => pget_any s w')
  unfold getV at HG2
  have HZ := Lib.hid (get_cases s.data.toList)
  have HPG := Lib.hid (Pg.put_get s.data.toList)
  have HOF := Lib.hid (of_ok s.data.toList)
  have hpg := page_guard
  have hpe := fun w' => page_eql 0 0 0 ⟨#[]⟩ w'
  generalize Pg.get s.data.toList = G at *
  obtain ⟨x, gr⟩ := G
  simp only at HG2 HZ HPG HOF
  go_enter Try.func11, Try.ntmps11
  go_wp2_with fail
  refine (HP.out _).mono ?_
  rintro e w1 ⟨rfl, hb⟩
  have HB1 := Lib.hid (HB0.out.below hb (by simp))
  have HW1 := Lib.hid (HW0.out.trans (hb.mono (by simp)))
  clear hb HB0 HW0 HP
  go_upto_if 29 with (fail)
  go_cut [5, 6] (fun _ _ wx => Hid (Below w.heap.size w wx))
  case first =>
    by_cases hz : (Pg.put p).2 = 0
    · have hp := put_zero p hz
      have HG := Lib.hid (fun w' => pget_any ⟨(Crc.lay (body p)).toArray⟩ w')
      rw [show (⟨(Crc.lay (body p)).toArray⟩ : ByteArray).data.toList = Crc.lay (body p) from rfl] at HG
      unfold getV at HG
      rw [get_put p hp.1 hp.2.1 HK.out.i1] at HG
      unfold pageV at HG
      simp only at HG
      have HF := Lib.hid (fun w' => full_any ⟨p.pay.toArray⟩ w' (show p.pay.length ≤ 600 by omega))
      rw [show (⟨p.pay.toArray⟩ : ByteArray).data.toList = p.pay from rfl] at HF
      rw [hp.2.2]
      clear hz hp
      generalize (⟨(Crc.lay (body p)).toArray⟩ : ByteArray) = D at *
      generalize (⟨(full p.pay).toArray⟩ : ByteArray) = F at *
      go_wp2_with fail
      refine (HG.out _).mono ?_
      rintro e w2 ⟨rfl, hb⟩
      have hx2 := HB1.out.below hb (lt_of_block HB1.out)
      have hW2 := HW1.out.trans (hb.mono HW1.out.size)
      have hal : Below w2.heap.size w2 (w2.alloc (.cells #[.int .i64 p.id, .int .i64 p.epoch, .int .i64 p.kind, .string F] 56 (0, 0))) := (Below.refl _ _).alloc (Nat.le_refl _) _
      have hx3 : (w2.alloc (.cells #[.int .i64 p.id, .int .i64 p.epoch, .int .i64 p.kind, .string F] 56 (0, 0))).heap[w2.heap.size]? = some (.cells #[.int .i64 p.id, .int .i64 p.epoch, .int .i64 p.kind, .string F] 56 (0, 0)) := World.alloc_heap_new w2 _
      have HX2 := Lib.hid (hx2.below hal (lt_of_block hx2))
      have HX3 := Lib.hid hx3
      have HW3 := Lib.hid (hW2.trans (hal.mono hW2.size))
      clear hb hx2 hW2 hal hx3 HB1 HW1 HG
      go_wp2_with fail
      generalize w2.alloc (.cells #[.int .i64 p.id, .int .i64 p.epoch, .int .i64 p.kind, .string F] 56 (0, 0)) = w3 at *
      generalize w2.heap.size = b2 at *
      obtain ⟨c0, c1, c2, c3⟩ := HX2.out.q
      have q0 := fun d os => cell_regrown c0 d os
      have q1 := fun d os => cell_regrown c1 d os
      have q2 := fun d os => cell_regrown c2 d os
      have q3 := fun d os => cell_regrown c3 d os
      have x0 := fun d os => cell_regrown (cell_of_row w3 b2 0 _ _ (0, 0) HX3.out) d os
      have x1 := fun d os => cell_regrown (cell_of_row w3 b2 1 _ _ (0, 0) HX3.out) d os
      have x2 := fun d os => cell_regrown (cell_of_row w3 b2 2 _ _ (0, 0) HX3.out) d os
      have x3 := fun d os => cell_regrown (cell_of_row w3 b2 3 _ _ (0, 0) HX3.out) d os
      clear c0 c1 c2 c3
      refine wp_region_quiet_below (by kernel_rfl) (by kernel_rfl) ?_
      repeat (quiet_step (exact Calls.regrown_of (HF.out _)))
      refine wpQuiet_nil ?_
      intro _ hw'
      obtain ⟨⟨dq, osq⟩, hw''⟩ := hw'
      subst hw''
      have HB6 := Lib.hid (HW3.out.trans ((below_regrown w3 dq osq).mono HW3.out.size))
      go_wp2_with fail
      go_meet
      exact HB6
    · have hzb : ((Pg.put p).2 == 0) = false := by rw [beq_eq_false_iff_ne]; exact hz
      clear hz
      go_wp2_with fail
      go_meet
      exact HW1
  case rest =>
    clear HB1 HW1 h1I h2I
    by_cases hr : gr = 0
    · subst hr
      have hpk := HOF.out rfl
      have HP2 := Lib.hid (fun w' => put_any x w' hpk.i1 hpk.s)
      unfold putV at HP2
      rw [HPG.out rfl] at HP2
      simp only at HP2
      rw [show (⟨s.data.toList.toArray⟩ : ByteArray) = s from by cases s; rfl] at HP2
      clear hpk HPG HOF HZ hpe
      obtain ⟨gi, ge, gk, gs⟩ := x
      unfold pageV at HG2 HP2
      simp only at HG2 HP2
      go_wp2_with fail
      refine (HG2.out _).mono ?_
      rintro e w2 ⟨rfl, hb⟩
      have hW2 := hcut.out.trans (hb.mono hcut.out.size)
      have hal : Below w2.heap.size w2 (w2.alloc (.cells #[.int .i64 gi, .int .i64 ge, .int .i64 gk, .string ⟨gs.toArray⟩] 56 (0, 0))) := (Below.refl _ _).alloc (Nat.le_refl _) _
      have HW3 := Lib.hid (hW2.trans (hal.mono hW2.size))
      clear hb hW2 hal hcut HG2
      go_wp2_with fail
      refine (HP2.out _).mono ?_
      rintro e w4 ⟨rfl, hb⟩
      have HW4 := Lib.hid (HW3.out.trans (hb.mono HW3.out.size))
      clear hb HW3 HP2
      go_wp2_with fail
      refine (pawake_any _).mono ?_
      rintro e w5 ⟨rfl, hb⟩
      have HW5 := Lib.hid (HW4.out.trans (hb.mono HW4.out.size))
      clear hb HW4
      go_wp2_with fail
      go_ret
      exact ⟨by simp, HW5.out⟩
    · have hx : x = zero := by
        rcases HZ.out with h | h
        · exact h.2
        · have := congrArg Prod.snd h.1
          exact absurd this hr
      subst hx
      have hrb : (gr != 0) = true := by rw [bne_iff_ne]; exact hr
      clear hr HPG HOF HZ
      unfold pageV zero at HG2
      simp only at HG2
      go_wp2_with fail
      refine (HG2.out _).mono ?_
      rintro e w2 ⟨rfl, hb⟩
      have hW2 := hcut.out.trans (hb.mono hcut.out.size)
      have hal : Below w2.heap.size w2 (w2.alloc (.cells #[.int .i64 0, .int .i64 0, .int .i64 0, .string ⟨#[]⟩] 56 (0, 0))) := (Below.refl _ _).alloc (Nat.le_refl _) _
      have HW3 := Lib.hid (hW2.trans (hal.mono hW2.size))
      have HZ2 := Lib.hid (ZBox.new w2)
      clear hb hW2 hal hcut HG2
      go_wp2_with fail
      refine (pawake_any _).mono ?_
      rintro e w5 ⟨rfl, hb⟩
      have HW5 := Lib.hid (HW3.out.trans (hb.mono HW3.out.size))
      obtain ⟨z0, z1, z2, z3, _, _, _, _⟩ := (HZ2.out.below hb (by simp)).q
      clear hb HW3 HZ2
      go_wp2_with fail
      go_ret
      exact ⟨rfl, HW5.out⟩
set_option maxRecDepth 100000 in
set_option maxHeartbeats 8000000 in
theorem back_big (p : Page) (s : ByteArray) (w : World) (hs : s.size ≤ 9223372036854775807) (hp : p.pay.length ≤ 9223372036854775807) (h : 600 < p.pay.length ∨ 600 < s.size) :
    Calls Try.prog 11 #[pageV p, .string s] w fun e w' => e = .returned (.bool true) ∧ Below w.heap.size w w' := by
  have HW0 := Lib.hid ((Below.refl w.heap.size w).alloc (Nat.le_refl _) (.cells #[.int .i64 p.id, .int .i64 p.epoch, .int .i64 p.kind, .string ⟨p.pay.toArray⟩] 56 (0, 0)))
  unfold pageV
  by_cases h1 : 600 < p.pay.length
  · have h1I : (600 : Int) < (p.pay.length : Int) := by omega
    clear h
    go_enter Try.func11, Try.ntmps11
    go_wp2_with fail
    refine (pawake_any _).mono ?_
    rintro e w1 ⟨rfl, hb⟩
    have HW1 := Lib.hid (HW0.out.trans (hb.mono HW0.out.size))
    clear hb
    go_wp2_with fail
    go_ret
    exact ⟨rfl, HW1.out⟩
  · have h1I : ¬ (600 : Int) < (p.pay.length : Int) := by omega
    have h2I : (600 : Int) < (s.size : Int) := by omega
    clear h
    go_enter Try.func11, Try.ntmps11
    go_wp2_with fail
    refine (pawake_any _).mono ?_
    rintro e w1 ⟨rfl, hb⟩
    have HW1 := Lib.hid (HW0.out.trans (hb.mono HW0.out.size))
    clear hb
    go_wp2_with fail
    go_ret
    exact ⟨rfl, HW1.out⟩
set_option maxRecDepth 100000 in
theorem back_law : Frame.LawCalls 11 Try.f11 := by
  intro H enc W base args ds p hval hA _ _ _
  rw [Try.params11] at hA hval
  obtain ⟨v0, vs0, d0, ds0, p0, q0, hargs, rfl, rfl, h0, r0⟩ := trodAll_cons hA
  obtain ⟨v1, vs1, d1, ds1, p1, q1, rfl, rfl, rfl, h1, r1⟩ := trodAll_cons r0
  obtain ⟨rfl, rfl, rfl⟩ := trodAll_nil r1
  obtain rfl : args = #[v0, v1] := by cases args; simp_all
  obtain ⟨q, rfl, ok⟩ := page_args (hval 0 56 v0 rfl rfl) h0
  obtain ⟨s, rfl, rfl, rfl, ws⟩ := open_string Try.underlying9 (hval 1 9 v1 rfl rfl) h1
  rw [max_is] at ws
  by_cases hb : 600 < q.pay.length ∨ 600 < s.size
  · exact back_big q s W ws ok.s hb
  · exact back_any q s W ok (by omega) (by omega)
set_option maxRecDepth 100000 in
theorem back_lifted (os : Os) (started : os.Started) (H : Type) (enc : TypeId × Value → H) :
    ReturnsInHanded {} Try.checked os 11 .any (Rows.pageBackSpec.pre6 enc Try.prog Try.f11 Rows.pageBackRow.domain false) (Rows.pageBackSpec.post enc Try.prog Try.f11 false true false false) :=
  Frame.lifted (s := Rows.pageBackSpec) (by kernel_rfl) Try.func11 (by kernel_rfl) rfl (tb := 4) (by kernel_rfl) Try.underlying4
    (fun H ds h => by
      obtain ⟨d, e, rfl⟩ := two_data ds h
      rfl) back_law os started H enc
    (ChangeSpec.witness6 (enc := enc) (C := Try.checked) false ⟨#[], #[.agg #[.int .i64 0, .int .i64 0, .int .i64 0, .string ⟨#[]⟩], .string ⟨#[]⟩], []⟩ 8 (by kernel_rfl) (by kernel_rfl) (by kernel_rfl) (by kernel_rfl))
theorem back_holds : Rows.PageBackSaid :=
  OpenClaim.holds_of_wide 11 Try.f11 rfl rfl rfl rfl rfl rfl rfl ⟨rfl, rfl, rfl, rfl, rfl⟩ rfl rfl rfl rfl rfl (by kernel_rfl) Try.func11 (by kernel_rfl)
    (of_decide_eq_true (by kernel_rfl)) (by unfold Func.isWrapper; first | (rw [if_pos (by decide +kernel)]; kernel_rfl) | (rw [if_neg (by decide +kernel)]; exact ⟨rfl, rfl⟩))
    (fun os started H enc _ => back_lifted os started H enc)
#print axioms back_holds
end Go.Proofs.Ytpjpncfoenadhaa
