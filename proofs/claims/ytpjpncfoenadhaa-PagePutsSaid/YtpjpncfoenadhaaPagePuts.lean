/- PagePuts: every page's bytes, or that it may not be. No condition. -/
import Derived.Test.YtpjpncfoenadhaaPageOpen
import Derived.Deep.DeepCutAuto
namespace Go.Proofs.Ytpjpncfoenadhaa
open Go.ChangeShapes Go.WideShapes Go.ChangeAt Go.RowKit Go.ChangeMaps Pg Dk

theorem cut_take (l : List UInt8) (n : Nat) : (⟨l.toArray⟩ : ByteArray).extract 0 n = ⟨(l.take n).toArray⟩ := by
  apply bytes_inj
  rw [Lib.extract_data, List.drop_zero, Nat.sub_zero]
set_option maxRecDepth 100000 in
set_option maxHeartbeats 4000000 in
theorem puts_any (p : Page) (w : World) (ok : PageOk p) :
    Calls Try.prog 9 #[pageV p] w fun e w' => e = .returned (.bool true) ∧ Below w.heap.size w w' := by
  have HB0 := Lib.hid (PBox.new w p)
  have hb0 : Below w.heap.size w (w.alloc (.cells #[.int .i64 p.id, .int .i64 p.epoch, .int .i64 p.kind, .string ⟨p.pay.toArray⟩] 56 (0, 0))) := (Below.refl _ _).alloc (Nat.le_refl _) _
  have HW0 := Lib.hid hb0
  have hs := ok.s
  have HK := Lib.hid ok
  clear hb0 ok
  unfold pageV
  go_enter Try.func9, Try.ntmps9
  go_upto_if 10 with (fail)
  go_cut [] (fun wx => ∃ q : Page, PageOk q ∧ PBox wx w.heap.size q ∧ Hid (Below w.heap.size w wx))
  case first =>
    by_cases h6 : p.pay.length ≤ 600
    · have h6I : ¬ (600 : Int) < (p.pay.length : Int) := by omega
      go_wp2_with fail
      go_meet
      exact ⟨p, HK.out, HB0.out, HW0⟩
    · have h6I : (600 : Int) < (p.pay.length : Int) := by omega
      go_wp2_with fail
      go_meet
      refine ⟨⟨p.id, p.epoch, p.kind, p.pay.take 600⟩, ⟨HK.out.i0, HK.out.i1, by show (p.pay.take 600).length ≤ _; rw [List.length_take]; omega⟩, ?_, (Below.refl _ _).alloc (Nat.le_refl _) _⟩
      rw [cut_take]
      exact PBox.new w ⟨p.id, p.epoch, p.kind, p.pay.take 600⟩
  case rest =>
    obtain ⟨q, hk, hbx, hw⟩ := hcut
    have HP := Lib.hid (fun w' => put_any q w' hk.i1 hk.s)
    have HR := Lib.hid (fun w' => rput_any q w' hk.i1 hk.s)
    have HX := Lib.hid hbx
    obtain ⟨c0, c1, c2, c3⟩ := hbx.q
    clear HK HB0 HW0 hs hbx hk
    unfold pageV putV at HP HR
    generalize (⟨(Pg.put q).1.toArray⟩ : ByteArray) = S at *
    generalize (Pg.put q).2 = r at *
    go_wp2_with fail
    refine (HP.out _).mono ?_
    rintro e w1 ⟨rfl, hb⟩
    have hz := lt_of_block HX.out
    have HX1 := Lib.hid (HX.out.below hb hz)
    have HW1 := Lib.hid (hw.out.trans (hb.mono hw.out.size))
    clear hb HX hw HP c0 c1 c2 c3
    obtain ⟨c0, c1, c2, c3⟩ := HX1.out.q
    go_wp2_with fail
    refine (HR.out _).mono ?_
    rintro e w2 ⟨rfl, hb⟩
    have HW2 := Lib.hid (HW1.out.trans (hb.mono HW1.out.size))
    clear hb HX1 HW1 HR c0 c1 c2 c3
    go_wp2_with fail
    refine (pawake_any _).mono ?_
    rintro e w3 ⟨rfl, hb⟩
    have HW3 := Lib.hid (HW2.out.trans (hb.mono HW2.out.size))
    clear hb HW2
    go_wp2_with fail
    go_ret
    exact ⟨by simp, HW3.out⟩
set_option maxRecDepth 100000 in
theorem puts_law : Frame.LawCalls 9 Try.f9 := by
  intro H enc W base args ds p hval hA _ _ _
  rw [Try.params9] at hA hval
  obtain ⟨v0, vs0, d0, ds0, p0, q0, hargs, rfl, rfl, h0, r0⟩ := trodAll_cons hA
  obtain ⟨rfl, rfl, rfl⟩ := trodAll_nil r0
  obtain rfl : args = #[v0] := by cases args; simp_all
  obtain ⟨q, rfl, ok⟩ := page_args (hval 0 56 v0 rfl rfl) h0
  exact puts_any q W ok
set_option maxRecDepth 100000 in
theorem puts_lifted (os : Os) (started : os.Started) (H : Type) (enc : TypeId × Value → H) :
    ReturnsInHanded {} Try.checked os 9 .any (Rows.pagePutsSpec.pre6 enc Try.prog Try.f9 Rows.pagePutsRow.domain false) (Rows.pagePutsSpec.post enc Try.prog Try.f9 false true false false) :=
  Frame.lifted (s := Rows.pagePutsSpec) (by kernel_rfl) Try.func9 (by kernel_rfl) rfl (tb := 4) (by kernel_rfl) Try.underlying4
    (fun H ds h => by
      obtain ⟨d, rfl⟩ := one_datum ds h
      rfl) puts_law os started H enc
    (ChangeSpec.witness6 (enc := enc) (C := Try.checked) false ⟨#[], #[.agg #[.int .i64 0, .int .i64 0, .int .i64 0, .string ⟨#[]⟩]], []⟩ 8 (by kernel_rfl) (by kernel_rfl) (by kernel_rfl) (by kernel_rfl))
theorem puts_holds : Rows.PagePutsSaid :=
  OpenClaim.holds_of_wide 9 Try.f9 rfl rfl rfl rfl rfl rfl rfl ⟨rfl, rfl, rfl, rfl, rfl⟩ rfl rfl rfl rfl rfl (by kernel_rfl) Try.func9 (by kernel_rfl)
    (of_decide_eq_true (by kernel_rfl)) (by unfold Func.isWrapper; first | (rw [if_pos (by decide +kernel)]; kernel_rfl) | (rw [if_neg (by decide +kernel)]; exact ⟨rfl, rfl⟩))
    (fun os started H enc _ => puts_lifted os started H enc)
#print axioms puts_holds
end Go.Proofs.Ytpjpncfoenadhaa
