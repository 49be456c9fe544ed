/- PageGets: what any bytes are, read as a page. No condition. -/
import Derived.Test.YtpjpncfoenadhaaPageOpen
import Derived.Deep.DeepCutAuto
namespace Go.Proofs.Ytpjpncfoenadhaa
open Go.ChangeShapes Go.WideShapes Go.ChangeAt Go.RowKit Go.ChangeMaps Pg Dk

set_option maxRecDepth 100000 in
set_option maxHeartbeats 4000000 in
theorem gets_any (s : ByteArray) (w : World) (hs : s.size ≤ 9223372036854775807) :
    Calls Try.prog 10 #[.string s] w fun e w' => e = .returned (.bool true) ∧ Below w.heap.size w w' := by
  go_enter Try.func10, Try.ntmps10
  go_upto_if 9 with (fail)
  go_cut [0] (fun v wx => ∃ t : ByteArray, v = .string t ∧ wx = w)
  case first =>
    by_cases h6 : s.size ≤ 600
    · have h6I : ¬ (600 : Int) < (s.size : Int) := by omega
      go_wp2_with fail
      go_meet
      exact ⟨s, rfl, rfl⟩
    · have h6I : (600 : Int) < (s.size : Int) := by omega
      go_wp2_with fail
      go_meet
      exact ⟨s.extract 0 600, rfl, rfl⟩
  case rest =>
    obtain ⟨t, rfl, rfl⟩ := hcut
    clear hs
    have HP := Lib.hid (fun w' => pget_any t w')
    have HR := Lib.hid (fun w' => rpget_any t w')
    unfold getV pageV at HP HR
    generalize Pg.get t.data.toList = G at *
    obtain ⟨⟨gi, ge, gk, gs⟩, gr⟩ := G
    simp only at HP HR
    generalize (⟨gs.toArray⟩ : ByteArray) = S at *
    have hg := page_guard
    have he := fun w' => page_eql gi ge gk S w'
    go_wp2_with fail
    refine (HP.out _).mono ?_
    rintro e w1 ⟨rfl, hb⟩
    have hal : Below w1.heap.size w1 (w1.alloc (.cells #[.int .i64 gi, .int .i64 ge, .int .i64 gk, .string S] 56 (0, 0))) := (Below.refl _ _).alloc (Nat.le_refl _) _
    have hx1 : (w1.alloc (.cells #[.int .i64 gi, .int .i64 ge, .int .i64 gk, .string S] 56 (0, 0))).heap[w1.heap.size]? = some (.cells #[.int .i64 gi, .int .i64 ge, .int .i64 gk, .string S] 56 (0, 0)) := World.alloc_heap_new w1 _
    have HA1 := Lib.hid hal
    have HX1 := Lib.hid hx1
    have HW1 := Lib.hid hb
    clear hb hal hx1 HP
    go_wp2_with fail
    refine (HR.out _).mono ?_
    rintro e w2 ⟨rfl, hb⟩
    have hx2 := (hb.block w1.heap.size (by simp)).trans HX1.out
    have hW2 := (HW1.out.trans (HA1.out.mono HW1.out.size)).trans (hb.mono (by simp; exact Nat.le_succ_of_le HW1.out.size))
    have hal : Below w2.heap.size w2 (w2.alloc (.cells #[.int .i64 gi, .int .i64 ge, .int .i64 gk, .string S] 56 (0, 0))) := (Below.refl _ _).alloc (Nat.le_refl _) _
    have hx3 : (w2.alloc (.cells #[.int .i64 gi, .int .i64 ge, .int .i64 gk, .string S] 56 (0, 0))).heap[w2.heap.size]? = some (.cells #[.int .i64 gi, .int .i64 ge, .int .i64 gk, .string S] 56 (0, 0)) := World.alloc_heap_new w2 _
    have HX2 := Lib.hid ((hal.block w1.heap.size (lt_of_block hx2)).trans hx2)
    have HX3 := Lib.hid hx3
    have HW3 := Lib.hid (hW2.trans (hal.mono hW2.size))
    clear hb hx2 hW2 hal hx3 HA1 HX1 HW1 HR
    go_wp2_with fail
    generalize w2.alloc (.cells #[.int .i64 gi, .int .i64 ge, .int .i64 gk, .string S] 56 (0, 0)) = w3 at *
    generalize w1.heap.size = b1 at *
    generalize w2.heap.size = b2 at *
    refine (pawake_any _).mono ?_
    rintro e w4 ⟨rfl, hb⟩
    have x1 := (hb.block b1 (lt_of_block HX2.out)).trans HX2.out
    have x2 := (hb.block b2 (lt_of_block HX3.out)).trans HX3.out
    have HW4 := Lib.hid (HW3.out.trans (hb.mono HW3.out.size))
    clear hb HX2 HX3 HW3
    have p0 := cell_of_row w4 b1 0 _ _ (0, 0) x1
    have p1 := cell_of_row w4 b1 1 _ _ (0, 0) x1
    have p2 := cell_of_row w4 b1 2 _ _ (0, 0) x1
    have p3 := cell_of_row w4 b1 3 _ _ (0, 0) x1
    have r0 := cell_of_row w4 b2 0 _ _ (0, 0) x2
    have r1 := cell_of_row w4 b2 1 _ _ (0, 0) x2
    have r2 := cell_of_row w4 b2 2 _ _ (0, 0) x2
    have r3 := cell_of_row w4 b2 3 _ _ (0, 0) x2
    clear x1 x2
    go_wp2_with fail
    go_ret
    exact ⟨by simp, HW4.out⟩
set_option maxRecDepth 100000 in
theorem gets_law : Frame.LawCalls 10 Try.f10 := by
  intro H enc W base args ds p hval hA _ _ _
  rw [Try.params10] at hA hval
  obtain ⟨v0, vs0, d0, ds0, p0, q0, hargs, rfl, rfl, h0, r0⟩ := trodAll_cons hA
  obtain ⟨rfl, rfl, rfl⟩ := trodAll_nil r0
  obtain rfl : args = #[v0] := by cases args; simp_all
  obtain ⟨s, rfl, rfl, rfl, ws⟩ := open_string Try.underlying9 (hval 0 9 v0 rfl rfl) h0
  rw [max_is] at ws
  exact gets_any s W ws
set_option maxRecDepth 100000 in
theorem gets_lifted (os : Os) (started : os.Started) (H : Type) (enc : TypeId × Value → H) :
    ReturnsInHanded {} Try.checked os 10 .any (Rows.pageGetsSpec.pre6 enc Try.prog Try.f10 Rows.pageGetsRow.domain false) (Rows.pageGetsSpec.post enc Try.prog Try.f10 false true false false) :=
  Frame.lifted (s := Rows.pageGetsSpec) (by kernel_rfl) Try.func10 (by kernel_rfl) rfl (tb := 4) (by kernel_rfl) Try.underlying4
    (fun H ds h => by
      obtain ⟨d, rfl⟩ := one_datum ds h
      rfl) gets_law os started H enc
    (ChangeSpec.witness6 (enc := enc) (C := Try.checked) false ⟨#[], #[.string ⟨#[]⟩], []⟩ 8 (by kernel_rfl) (by kernel_rfl) (by kernel_rfl) (by kernel_rfl))
theorem gets_holds : Rows.PageGetsSaid :=
  OpenClaim.holds_of_wide 10 Try.f10 rfl rfl rfl rfl rfl rfl rfl ⟨rfl, rfl, rfl, rfl, rfl⟩ rfl rfl rfl rfl rfl (by kernel_rfl) Try.func10 (by kernel_rfl)
    (of_decide_eq_true (by kernel_rfl)) (by unfold Func.isWrapper; first | (rw [if_pos (by decide +kernel)]; kernel_rfl) | (rw [if_neg (by decide +kernel)]; exact ⟨rfl, rfl⟩))
    (fun os started H enc _ => gets_lifted os started H enc)
#print axioms gets_holds
end Go.Proofs.Ytpjpncfoenadhaa
