/- What must come at any rate of roots. No condition. -/
import Derived.Test.YtbjkefodlnkaeaaRootLaw
namespace Go.Proofs.Ytbjkefodlnkaeaa
open Go.RowKit

namespace Rt
def r0 : Root := ⟨3, 117, [5, 9]⟩
theorem right0 : right r0 = true := by decide
theorem need0 : need 117 = 2 := by decide
end Rt
theorem ints0 {w : World} {g : Nat} (h : w.heap[g]? = some (.cells #[.int .i64 5, .int .i64 9] 3 (0, 0))) : Ints w.heap.size w (some ⟨g, 0, none⟩) 2 2 [5, 9] := by
  refine ⟨by omega, Nat.le_refl _, rfl, fun k hk => ⟨_, rfl, lt_of_block h, ?_⟩⟩
  rw [Addr.add_lit, Nat.zero_add, cell_of_row _ _ _ _ _ _ h]
  match k, hk with
  | 0, _ => rfl
  | 1, _ => rfl
set_option maxRecDepth 100000 in
set_option maxHeartbeats 4000000 in
theorem awake13 (w : World) : Calls Try.prog 18 #[] w fun e w' => e = .returned (.bool true) ∧ Below w.heap.size w w' := by
  have HPut : Hid (∀ w' g, w'.heap[g]? = some (.cells #[.int .i64 5, .int .i64 9] 3 (0, 0)) → Calls Try.prog 19 #[.agg #[.int .i64 3, .int .i64 117, .slice (some ⟨g, 0, none⟩) 2 2]] w' fun en w'' => en = .returned (.tuple #[.string ⟨(Rt.laid Rt.r0).toArray⟩, .int .i64 0]) ∧ Below w'.heap.size w' w'') := Lib.hid (by
    intro w' g hg
    have := put_any 3 117 (ints0 hg)
    rw [show (⟨3, 117, [5, 9]⟩ : Rt.Root) = Rt.r0 from rfl, put_yes Rt.right0] at this
    exact this)
  have HGet : Hid (∀ w', Calls Try.prog 21 #[.string ⟨(Rt.laid Rt.r0).toArray⟩] w' (GotOf Rt.r0 w')) := Lib.hid fun w' => get_laid Rt.r0 Rt.right0 w'
  have HNew : Hid (∀ w', Calls Try.prog 30 #[.string ⟨#[]⟩, .string ⟨(Rt.laid Rt.r0).toArray⟩] w' (NewP w' Rt.r0)) := Lib.hid fun w' => newer_one Rt.r0 Rt.right0 w'
  have hS : (⟨(Rt.laid Rt.r0).toArray⟩ : ByteArray).size = 64 := Rt.laid_length (Rt.parts_le Rt.right0)
  generalize (⟨(Rt.laid Rt.r0).toArray⟩ : ByteArray) = S at *
  go_enter Try.func18, Try.ntmps18
  go_wp2_with fail
  refine (HPut.out _ _ (heap_alloc_new w _)).mono ?_
  rintro en w1 ⟨rfl, hb1⟩
  have HB1 := Lib.hid (((Below.refl w.heap.size w).alloc (Nat.le_refl _) _).trans (hb1.mono (by simp)))
  clear hb1 HPut
  go_wp2_with fail
  refine (HGet.out _).mono ?_
  rintro en w2 ⟨A, len, cap, rfl, _, hi2, hb2⟩
  have hlen := hi2.n
  rw [show Rt.r0.parts = [5, 9] from rfl] at hlen
  obtain rfl : len = 2 := by simpa using hlen.symm
  have HB2 := Lib.hid (HB1.out.trans (hb2.mono HB1.out.size))
  have HI2 := Lib.hid hi2
  clear hlen hb2 HB1 HGet hi2
  rw [show Rt.r0.epoch = 3 from rfl, show Rt.r0.logical = 117 from rfl]
  unfold rootV
  go_wp2_with fail
  have hbb : Below w2.heap.size w2 (w2.alloc (.cells #[.int .i64 3, .int .i64 117, .slice A 2 cap] 40 (0, 0))) := (Below.refl _ _).alloc (Nat.le_refl _) _
  refine (HNew.out _).mono ?_
  rintro en w3 ⟨A3, len3, cap3, rfl, hb3⟩
  have HX3 := Lib.hid ((RBox.new w2 3 117 A 2 cap).below hb3 (by simp))
  have HI3 := Lib.hid ((HI2.out.to hbb).to hb3)
  have HB3 := Lib.hid ((HB2.out.trans (hbb.mono HB2.out.size)).trans (hb3.mono (HB2.out.trans (hbb.mono HB2.out.size)).size))
  clear hbb hb3 HB2 HI2 HNew
  unfold rootV
  generalize w2.heap.size = g2 at *
  obtain ⟨ad, e1, l1, q1⟩ := HI3.out.at_ 1 (by omega)
  rw [show Rt.r0.parts.getD 1 0 = 9 from rfl] at q1
  have q2 : ∀ o, (w3.alloc o).cell? { block := ad.block, off := ad.off + 1 } = some (.int .i64 9) := fun o => (show ad.add 1 = { block := ad.block, off := ad.off + 1 } from rfl) ▸ (((Below.refl w3.heap.size w3).alloc (Nat.le_refl _) o).cell (by rw [addr_block]; exact l1)).trans q1
  clear l1 q1
  subst e1
  obtain ⟨hz, c0, c1, c2, _, _, _⟩ := HX3.out.all
  go_wp2_with fail
  refine (need_any 117 _ (by omega)).mono ?_
  rintro en w4 ⟨rfl, rfl⟩
  rw [Rt.need0]
  go_wp2_with fail
  go_ret
  exact ⟨rfl, HB3.out.alloc HB3.out.size _⟩
end Go.Proofs.Ytbjkefodlnkaeaa
