/- PageNone: without a disk nothing is written, or read. No condition. -/
import Derived.Test.YtpjpncfoenadhaaPageOpen
namespace Go.Proofs.Ytpjpncfoenadhaa
open Go.ChangeShapes Go.WideShapes Go.ChangeAt Go.RowKit Go.ChangeMaps Pg Dk

set_option maxRecDepth 100000 in
set_option maxHeartbeats 4000000 in
theorem none_any (p : Page) (id : Int) (w : World) :
    Calls Try.prog 13 #[pageV p, .int .i64 id] w fun e w' => e = .returned (.bool true) ∧ Below w.heap.size w w' := by
  have HB0 := Lib.hid (PBox.new w p)
  have hb0 : Below w.heap.size w (w.alloc (.cells #[.int .i64 p.id, .int .i64 p.epoch, .int .i64 p.kind, .string ⟨p.pay.toArray⟩] 56 (0, 0))) := (Below.refl _ _).alloc (Nat.le_refl _) _
  have HW0 := Lib.hid hb0
  have HWr := Lib.hid (fun w' => pwrite_nil p w')
  have hg := page_guard
  have he := fun w' => page_eql 0 0 0 ⟨#[]⟩ w'
  clear hb0
  unfold pageV at HWr ⊢
  go_enter Try.func13, Try.ntmps13
  go_wp2_with fail
  refine (pread_nil id _).mono ?_
  rintro e w1 ⟨rfl, hb⟩
  unfold readPV pageV zero
  simp only
  have HB1 := Lib.hid (HB0.out.below hb (by simp))
  have HW1 := Lib.hid (HW0.out.trans (hb.mono (by simp)))
  have HZ1 := Lib.hid (ZBox.new w1)
  have hal : Below w1.heap.size w1 (w1.alloc (.cells #[.int .i64 0, .int .i64 0, .int .i64 0, .string ⟨#[]⟩] 56 (0, 0))) := (Below.refl _ _).alloc (Nat.le_refl _) _
  have HA1 := Lib.hid hal
  clear hb HB0 HW0 hal
  go_wp2_with fail
  refine (pawake_any _).mono ?_
  rintro e w2 ⟨rfl, hb⟩
  have hz1 := lt_of_block HB1.out
  have HB2 := Lib.hid ((HB1.out.below HA1.out hz1).below hb (by simp; omega))
  have HZ2 := Lib.hid (HZ1.out.below hb (by simp))
  have HW2 := Lib.hid ((HW1.out.trans (HA1.out.mono HW1.out.size)).trans (hb.mono (by simp; exact Nat.le_succ_of_le HW1.out.size)))
  clear hb HB1 HW1 HZ1 HA1
  obtain ⟨c0, c1, c2, c3⟩ := HB2.out.q
  obtain ⟨z0, z1, z2, z3, _, _, _, _⟩ := HZ2.out.q
  go_wp2_with fail
  refine (HWr.out _).mono ?_
  rintro e w3 ⟨rfl, hb⟩
  have HW3 := Lib.hid (HW2.out.trans (hb.mono HW2.out.size))
  clear hb HW2 HWr c0 c1 c2 c3 z0 z1 z2 z3
  go_wp2_with fail
  refine (many_nil _).mono ?_
  rintro e w' ⟨rfl, rfl⟩
  go_wp2_with fail
  go_ret
  exact ⟨rfl, HW3.out⟩
set_option maxRecDepth 100000 in
theorem pnone_law : Frame.LawCalls 13 Try.f13 := by
  intro H enc W base args ds p hval hA _ _ _
  rw [Try.params13] at hA hval
  obtain ⟨v0, vs0, d0, ds0, p0, q0, hargs, rfl, rfl, h0, r0⟩ := trodAll_cons hA
  obtain ⟨v1, vs1, d1, ds1, p1, q1, rfl, rfl, rfl, h1, r1⟩ := trodAll_cons r0
  obtain ⟨rfl, rfl, rfl⟩ := trodAll_nil r1
  obtain rfl : args = #[v0, v1] := by cases args; simp_all
  obtain ⟨q, rfl, _⟩ := page_args (hval 0 56 v0 rfl rfl) h0
  obtain ⟨i, rfl, rfl, rfl, _⟩ := open_int Try.underlying3 (hval 1 3 v1 rfl rfl) h1
  exact none_any q i W
set_option maxRecDepth 100000 in
theorem pnone_lifted (os : Os) (started : os.Started) (H : Type) (enc : TypeId × Value → H) :
    ReturnsInHanded {} Try.checked os 13 .any (Rows.pageNoneSpec.pre6 enc Try.prog Try.f13 Rows.pageNoneRow.domain false) (Rows.pageNoneSpec.post enc Try.prog Try.f13 false true false false) :=
  Frame.lifted (s := Rows.pageNoneSpec) (by kernel_rfl) Try.func13 (by kernel_rfl) rfl (tb := 4) (by kernel_rfl) Try.underlying4
    (fun H ds h => by
      obtain ⟨d, e, rfl⟩ := two_data ds h
      rfl) pnone_law os started H enc
    (ChangeSpec.witness6 (enc := enc) (C := Try.checked) false ⟨#[], #[.agg #[.int .i64 0, .int .i64 0, .int .i64 0, .string ⟨#[]⟩], .int .i64 0], []⟩ 8 (by kernel_rfl) (by kernel_rfl) (by kernel_rfl) (by kernel_rfl))
theorem pnone_holds : Rows.PageNoneSaid :=
  OpenClaim.holds_of_wide 13 Try.f13 rfl rfl rfl rfl rfl rfl rfl ⟨rfl, rfl, rfl, rfl, rfl⟩ rfl rfl rfl rfl rfl (by kernel_rfl) Try.func13 (by kernel_rfl)
    (of_decide_eq_true (by kernel_rfl)) (by unfold Func.isWrapper; first | (rw [if_pos (by decide +kernel)]; kernel_rfl) | (rw [if_neg (by decide +kernel)]; exact ⟨rfl, rfl⟩))
    (fun os started H enc _ => pnone_lifted os started H enc)
#print axioms pnone_holds
end Go.Proofs.Ytpjpncfoenadhaa
