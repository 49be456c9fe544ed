/- How many pages a disk has, and where a page lies. No condition but that the disk lies in memory. -/
import Derived.Test.YtpjpncfoenadhaaPageRGet
import Derived.Test.YtpjpncfoenadhaaDiskLaw
namespace Go.Proofs.Ytpjpncfoenadhaa
open Go.RowKit Go.WideShapes Pg Dk

set_option maxRecDepth 100000 in
set_option maxHeartbeats 1000000 in
theorem many_nil (w : World) : Calls Try.prog 42 #[.pointer none] w fun e w' => e = .returned (.int .i64 0) ∧ w = w' := by
  go_enter Try.func42, Try.ntmps42
  go_wp2_with fail
  refine (sectors_nil w).mono ?_
  rintro e w' ⟨rfl, rfl⟩
  go_wp2_with fail
  go_ret
  exact ⟨rfl, rfl⟩
set_option maxRecDepth 100000 in
set_option maxHeartbeats 1000000 in
theorem many_any {w : World} {k : DB} {A : Dk.St} (h : PD w k A) : Calls Try.prog 42 #[.pointer (some ⟨k.g, 0, none⟩)] w fun e w' => e = .returned (.int .i64 (many A.n : Nat)) ∧ w = w' := by
  have HC := Lib.hid (sectors_any h)
  have hn := h.nb
  generalize A.n = n at *
  clear h
  by_cases h2 : n < 2
  · have h2I : (n : Int) - 2 < 0 := by omega
    have HM := Lib.hid (show ((many n : Nat) : Int) = 0 by unfold many; omega)
    go_enter Try.func42, Try.ntmps42
    go_wp2_with fail
    refine HC.out.mono ?_
    rintro e w' ⟨rfl, rfl⟩
    go_wp2_with fail
    go_ret
    exact ⟨ret_int HM.out.symm, rfl⟩
  · have h2I : (0 : Int) ≤ (n : Int) - 2 := by omega
    have HM := Lib.hid (show ((many n : Nat) : Int) = ((n : Int) - 2) / 4 by unfold many; omega)
    go_enter Try.func42, Try.ntmps42
    go_wp2_with fail
    refine HC.out.mono ?_
    rintro e w' ⟨rfl, rfl⟩
    go_wp2_with fail
    go_ret
    exact ⟨ret_int HM.out.symm, rfl⟩
set_option maxRecDepth 100000 in
set_option maxHeartbeats 1000000 in
theorem rmany_any (n : Nat) (w : World) (hn : n ≤ 4096) : Calls Try.prog 44 #[.int .i64 (n : Int)] w fun e w' => e = .returned (.int .i64 (many n : Nat)) ∧ w = w' := by
  by_cases h2 : n < 2
  · have h2I : (n : Int) < 2 := by omega
    have HM := Lib.hid (show (0 : Int) = ((many n : Nat) : Int) by unfold many; omega)
    go_enter Try.func44, Try.ntmps44
    go_wp2_with fail
    go_ret
    exact ⟨ret_int HM.out, rfl⟩
  · have h2I : ¬ (n : Int) < 2 := by omega
    have HM := Lib.hid (show ((n : Int) - 2) / 4 = ((many n : Nat) : Int) by unfold many; omega)
    go_enter Try.func44, Try.ntmps44
    go_wp2_with fail
    go_ret
    exact ⟨ret_int HM.out, rfl⟩
set_option maxRecDepth 100000 in
set_option maxHeartbeats 2000000 in
theorem sects_any (id : Nat) (w : World) (hi : id ≤ 5000) :
    Calls Try.prog 66 #[.int .i64 (id : Int)] w fun e w' =>
      e = .returned (.agg #[.int .i64 (2 + (id : Int) * 4), .int .i64 (2 + (id : Int) * 4 + 1), .int .i64 (2 + (id : Int) * 4 + 2), .int .i64 (2 + (id : Int) * 4 + 3)]) ∧ Below w.heap.size w w' := by
  go_enter Try.func66, Try.ntmps66
  go_wp2_with fail
  refine wp_loop_rounds 5 ?_
  iterate 5 (rw [rounds_succ]; go_wp2_with fail)
  refine bodyPost_ret (v := .agg #[.int .i64 (2 + (id : Int) * 4), .int .i64 (2 + (id : Int) * 4 + 1), .int .i64 (2 + (id : Int) * 4 + 2), .int .i64 (2 + (id : Int) * 4 + 3)]) (by simp [results, Try.results66, go_sem]) rfl ⟨rfl, ?_⟩
  exact ((Below.refl _ _).alloc (Nat.le_refl _) _).alloc (by simp) _
end Go.Proofs.Ytpjpncfoenadhaa
