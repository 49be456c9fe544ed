/- DiskNone: a nil disk has nothing, whatever is asked of it. No condition. -/
import Derived.Test.YtpjpncfoenadhaaDiskOpen
namespace Go.Proofs.Ytpjpncfoenadhaa
open Go.ChangeShapes Go.WideShapes Go.ChangeAt Go.RowKit Dk

set_option maxRecDepth 100000 in
set_option maxHeartbeats 4000000 in
theorem none_walk (a : Act) (P : Option Addr) (len cap : Nat) (w : World) : Calls Try.prog 7 #[actV a P len cap] w fun e w' => e = .returned (.bool true) ∧ Below w.heap.size w w' := by
  obtain ⟨kd, i, s, ⟨kp, t, b⟩⟩ := a
  unfold actV
  have hb0 : Below w.heap.size w (w.alloc (.cells #[.int .i64 kd, .int .i64 i, .string s, .slice P len cap, .int .i64 t, .int .i64 b] 45 (0, 0))) := (Below.refl _ w).alloc (Nat.le_refl _) _
  go_enter Try.func7, Try.ntmps7
  go_wp2_with fail
  refine (read_nil i _).mono ?_
  rintro e w1 ⟨rfl, rfl⟩
  go_wp2_with fail
  refine (awake_any _).mono ?_
  rintro e w2 ⟨rfl, hb⟩
  have g0 := hb.block w.heap.size (by simp)
  rw [World.alloc_heap_new] at g0
  have q1 := cell_of_row w2 w.heap.size 1 _ _ (0, 0) g0
  have q2 := cell_of_row w2 w.heap.size 2 _ _ (0, 0) g0
  have q3 := cell_of_row w2 w.heap.size 3 _ _ (0, 0) g0
  have q4 := cell_of_row w2 w.heap.size 4 _ _ (0, 0) g0
  have q5 := cell_of_row w2 w.heap.size 5 _ _ (0, 0) g0
  have HB := Lib.hid (hb0.trans (hb.mono hb0.size))
  clear hb hb0 g0
  simp only [List.getElem?_toArray, List.getElem?_cons_succ, List.getElem?_cons_zero] at q1 q2 q3 q4 q5
  go_wp2_with fail
  refine (write_nil i s _).mono ?_
  rintro e w' ⟨rfl, rfl⟩
  go_wp2_with fail
  refine (sync_nil _).mono ?_
  rintro e w' ⟨rfl, rfl⟩
  go_wp2_with fail
  refine (arm_nil i _).mono ?_
  rintro e w' ⟨rfl, rfl⟩
  go_wp2_with fail
  refine (crash_nil _ P len cap t b).mono ?_
  rintro e w3 ⟨rfl, hb⟩
  have HB3 := Lib.hid (HB.out.trans (hb.mono HB.out.size))
  clear hb HB
  go_wp2_with fail
  refine (sectors_nil _).mono ?_
  rintro e w' ⟨rfl, rfl⟩
  go_wp2_with fail
  refine (loose_nil _).mono ?_
  rintro e w' ⟨rfl, rfl⟩
  go_wp2_with fail
  refine (calls_nil _).mono ?_
  rintro e w' ⟨rfl, rfl⟩
  go_wp2_with fail
  refine (down_nil _).mono ?_
  rintro e w' ⟨rfl, rfl⟩
  go_wp2_with fail
  go_ret
  exact ⟨rfl, HB3.out⟩
set_option maxRecDepth 100000 in
theorem none_law : Frame.LawCalls 7 Try.f7 := by
  intro H enc W base args ds p hval hA _ _ _
  rw [Try.params7] at hA hval
  obtain ⟨v0, vs0, d0, ds0, p0, q0, hargs, rfl, rfl, h0, r0⟩ := trodAll_cons hA
  obtain ⟨rfl, rfl, rfl⟩ := trodAll_nil r0
  obtain rfl : args = #[v0] := by cases args; simp_all
  obtain ⟨a, P, len, cap, rfl, _⟩ := act_args (hval 0 45 v0 rfl rfl) h0
  exact none_walk a P len cap W
set_option maxRecDepth 100000 in
theorem none_lifted (os : Os) (started : os.Started) (H : Type) (enc : TypeId × Value → H) :
    ReturnsInHanded {} Try.checked os 7 .any (Rows.diskNoneSpec.pre6 enc Try.prog Try.f7 Rows.diskNoneRow.domain false) (Rows.diskNoneSpec.post enc Try.prog Try.f7 false true false false) :=
  Frame.lifted (s := Rows.diskNoneSpec) (by kernel_rfl) Try.func7 (by kernel_rfl) rfl (tb := 4) (by kernel_rfl) Try.underlying4
    (fun H ds h => by
      obtain ⟨d, rfl⟩ := one_datum ds h
      rfl) none_law os started H enc
    (ChangeSpec.witness6 (enc := enc) (C := Try.checked) false ⟨#[], #[.agg #[.int .i64 0, .int .i64 0, .string ⟨#[]⟩, .slice none 0 0, .int .i64 0, .int .i64 0]], []⟩ 8 (by kernel_rfl) (by kernel_rfl) (by kernel_rfl) (by kernel_rfl))
theorem none_holds : Rows.DiskNoneSaid :=
  OpenClaim.holds_of_wide 7 Try.f7 rfl rfl rfl rfl rfl rfl rfl ⟨rfl, rfl, rfl, rfl, rfl⟩ rfl rfl rfl rfl rfl (by kernel_rfl) Try.func7 (by kernel_rfl)
    (of_decide_eq_true (by kernel_rfl)) (by unfold Func.isWrapper; first | (rw [if_pos (by decide +kernel)]; kernel_rfl) | (rw [if_neg (by decide +kernel)]; exact ⟨rfl, rfl⟩))
    (fun os started H enc _ => none_lifted os started H enc)
#print axioms none_holds
end Go.Proofs.Ytpjpncfoenadhaa
