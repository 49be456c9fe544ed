/- The law's awake of layer 11. No condition. -/
import Derived.Test.YtpjpncfoenadhaaPageRead
import Derived.Test.YtpjpncfoenadhaaPageBackP
namespace Go.Proofs.Ytpjpncfoenadhaa
open Go.RowKit Go.WideShapes Pg Dk

theorem below_same {P : Program} {f : FuncId} {args : Array Value} {w : World} {v : Value} (h : Calls P f args w fun e w' => e = .returned v ∧ w = w') :
    Calls P f args w fun e w' => e = .returned v ∧ Below w.heap.size w w' := h.mono fun _ _ hh => ⟨hh.1, by rw [← hh.2]; exact Below.refl _ _⟩
def awP : Page := ⟨1, 5, 2, [97, 98, 99]⟩
def awB : Dk.St := (Pg.write (Dk.made 10) awP).2
theorem aw_wrote : (Pg.write (Dk.made 10) awP).1 = 0 ∧ Wrote (Dk.made 10) awB awP 1 :=
  write_wrote (up_made 10) awP 1 rfl (by decide) (by decide) (by rw [Pg.n_made]; decide)
theorem aw_one : Pg.read awB 1 = (⟨1, 5, 2, full [97, 98, 99]⟩, 0) :=
  read_wrote (i := 1) aw_wrote.2 rfl (by decide) (by decide) (by rw [Pg.n_made]; decide) (by decide)
theorem aw_zero : Pg.read awB 0 = (zero, 14) :=
  (read_other (j := 0) aw_wrote.2 (up_made 10) (by decide)).trans (read_made 10 0 (by decide))
theorem aw_many : many awB.n = 2 := by rw [aw_wrote.2.n, Pg.n_made]; rfl
set_option maxRecDepth 100000 in
set_option maxHeartbeats 4000000 in
theorem pawake_any (w : World) : Calls Try.prog 35 #[] w fun e w' => e = .returned (.bool true) ∧ Below w.heap.size w w' := by
  go_enter Try.func35, Try.ntmps35
  go_wp2_with fail
  refine (new_in 10 w (by decide) (by decide)).mono ?_
  rintro e w1 ⟨k, rfl, hp, hlo, hb⟩
  have HP := Lib.hid hp
  have HL := Lib.hid hlo
  have HB := Lib.hid hb
  clear hp hlo hb
  go_wp2_with fail
  refine (pwrite_any awP HP.out (by decide) (by decide)).mono ?_
  rintro e w2 ⟨rfl, hp, ht⟩
  rw [aw_wrote.1]
  have HP2 : Hid (PD w2 k awB) := hp
  have HB2 := Lib.hid (HB.out.trans (ht.below (by rw [HL.out]; exact Nat.le_refl _) HB.out.size))
  clear hp ht HP HB HL
  go_wp2_with fail
  have HR1 := Lib.hid (pread_any 1 HP2.out)
  rw [aw_one] at HR1
  unfold readPV pageV at HR1
  simp only at HR1
  have HFu := Lib.hid (fun w' => full_any ⟨#[97, 98, 99]⟩ w' (by decide))
  rw [show (⟨#[97, 98, 99]⟩ : ByteArray).data.toList = [97, 98, 99] from rfl] at HFu
  generalize (⟨(full [97, 98, 99]).toArray⟩ : ByteArray) = F at *
  refine HR1.out.mono ?_
  rintro e w3 ⟨rfl, hb⟩
  have HP3 := Lib.hid (HP2.out.below hb)
  have HB3 := Lib.hid (HB2.out.trans (hb.mono HB2.out.size))
  clear hb HP2 HB2 HR1
  have hal : Below w3.heap.size w3 (w3.alloc (.cells #[.int .i64 1, .int .i64 5, .int .i64 2, .string F] 56 (0, 0))) := (Below.refl _ _).alloc (Nat.le_refl _) _
  have hbx : (w3.alloc (.cells #[.int .i64 1, .int .i64 5, .int .i64 2, .string F] 56 (0, 0))).heap[w3.heap.size]? = some (.cells #[.int .i64 1, .int .i64 5, .int .i64 2, .string F] 56 (0, 0)) := World.alloc_heap_new w3 _
  have HR0 := Lib.hid (pread_any 0 (HP3.out.below hal))
  rw [aw_zero] at HR0
  unfold readPV pageV zero at HR0
  simp only at HR0
  go_wp2_with fail
  refine HR0.out.mono ?_
  rintro e w4 ⟨rfl, hb⟩
  have hb4 : Below w3.heap.size w3 w4 := hal.trans (hb.mono (by simp))
  have hal2 : Below w4.heap.size w4 (w4.alloc (.cells #[.int .i64 0, .int .i64 0, .int .i64 0, .string ⟨#[]⟩] 56 (0, 0))) := (Below.refl _ _).alloc (Nat.le_refl _) _
  have hz : w3.heap.size < w4.heap.size := by have := hb.size; simp at this; omega
  have hbx4 := (hb.block w3.heap.size (by simp)).trans hbx
  have hbx5 := (hal2.block w3.heap.size hz).trans hbx4
  have HP5 := Lib.hid ((HP3.out.below hb4).below hal2)
  have HB5 := Lib.hid ((HB3.out.trans (hb4.mono HB3.out.size)).trans (hal2.mono (Nat.le_trans HB3.out.size (Nat.le_of_lt hz))))
  clear hb hal hbx hb4 hbx4 hal2 HP3 HB3 HR0
  go_wp2_with fail
  generalize w4.alloc (.cells #[.int .i64 0, .int .i64 0, .int .i64 0, .string ⟨#[]⟩] 56 (0, 0)) = w5 at *
  have q1 := fun d os => cell_regrown (cell_of_row w5 w3.heap.size 1 _ _ (0, 0) hbx5) d os
  have q3 := fun d os => cell_regrown (cell_of_row w5 w3.heap.size 3 _ _ (0, 0) hbx5) d os
  have HMa := Lib.hid (fun d os => many_any (HP5.out.below (below_regrown w5 d os)))
  rw [aw_many] at HMa
  have HFf := Lib.hid HFu
  clear HFu hbx5
  refine wp_region_quiet_below (by kernel_rfl) (by kernel_rfl) ?_
  repeat (quiet_step (first
    | exact Calls.regrown_of (below_same (HMa.out _ _))
    | exact Calls.regrown_of (HFf.out _)))
  refine wpQuiet_nil ?_
  intro _ hw'
  obtain ⟨⟨dq, osq⟩, hw''⟩ := hw'
  subst hw''
  have HB6 := Lib.hid (HB5.out.trans ((below_regrown w5 dq osq).mono HB5.out.size))
  go_wp2_with fail
  go_ret
  exact ⟨rfl, HB6.out⟩
end Go.Proofs.Ytpjpncfoenadhaa
