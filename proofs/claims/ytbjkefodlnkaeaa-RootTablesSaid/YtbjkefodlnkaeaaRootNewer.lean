/- The newer one of nothing and a root, and the small calls of the law's file. Conditions: the root may be. -/
import Derived.Test.YtbjkefodlnkaeaaRootGetB
namespace Go.Proofs.Ytbjkefodlnkaeaa
open Go.RowKit

/-- a root that was laid is read as it was -/
def GotOf (r : Rt.Root) (w : World) (e : Ending) (w' : World) : Prop :=
  ∃ (A : Option Addr) (len cap : Nat), e = .returned (.tuple #[rootV r.epoch r.logical A len cap, .bool true]) ∧ (∀ ad, A = some ad → w.heap.size ≤ ad.block) ∧ Ints w'.heap.size w' A len cap r.parts ∧ Below w.heap.size w w'
theorem get_laid (r : Rt.Root) (hr : Rt.right r = true) (w : World) : Calls Try.prog 21 #[.string ⟨(Rt.laid r).toArray⟩] w (GotOf r w) := by
  have hz : (⟨(Rt.laid r).toArray⟩ : ByteArray).size = 64 := Rt.laid_length (Rt.parts_le hr)
  refine (root_get ⟨(Rt.laid r).toArray⟩ w (by omega)).mono ?_
  rintro e w' (⟨_, hn, _⟩ | ⟨q, A, len, cap, he, hq, hl, hf, hi, hb⟩)
  · exact absurd rfl (hn r hr)
  · have h1 := said_by ⟨(Rt.laid r).toArray⟩ hz q hq hl
    have h2 := said_by ⟨(Rt.laid r).toArray⟩ hz r hr rfl
    rw [← h2] at h1
    subst h1
    exact ⟨A, len, cap, he, hf, hi, hb⟩
def NewP (w : World) (r : Rt.Root) (e : Ending) (w' : World) : Prop :=
  ∃ (A : Option Addr) (len cap : Nat), e = .returned (.tuple #[rootV r.epoch r.logical A len cap, .int .i64 1, .bool true]) ∧ Below w.heap.size w w'
set_option maxRecDepth 100000 in
set_option maxHeartbeats 4000000 in
theorem newer_one (r : Rt.Root) (hr : Rt.right r = true) (w : World) :
    Calls Try.prog 30 #[.string ⟨#[]⟩, .string ⟨(Rt.laid r).toArray⟩] w (NewP w r) := by
  have HG0 := Lib.hid (fun w => get_size ⟨#[]⟩ w (by decide) (by decide))
  have HG1 := Lib.hid (fun w => get_laid r hr w)
  clear hr
  generalize (⟨(Rt.laid r).toArray⟩ : ByteArray) = S at *
  go_enter Try.func30, Try.ntmps30
  go_wp2_with fail
  refine (HG0.out _).mono ?_
  rintro en w1 ⟨rfl, _, hb1⟩
  unfold rootV
  have HB1 := Lib.hid (((Below.refl w.heap.size w).alloc (Nat.le_refl _) _).trans (hb1.mono (by simp)))
  have HZ1 := Lib.hid ((RBox.new w 0 0 none 0 0).below hb1 (by simp))
  clear hb1
  go_wp2_with fail
  refine (HG1.out _).mono ?_
  rintro en w2 ⟨A, len, cap, rfl, _, hi, hb2⟩
  unfold rootV
  have hbb : Below w1.heap.size w1 (w1.alloc (.cells #[.int .i64 0, .int .i64 0, .slice none 0 0] 40 (0, 0))) := (Below.refl _ _).alloc (Nat.le_refl _) _
  have HB2 := Lib.hid ((HB1.out.trans (hbb.mono HB1.out.size)).trans (hb2.mono (HB1.out.trans (hbb.mono HB1.out.size)).size))
  have HZ2 := Lib.hid ((HZ1.out.below hbb (lt_of_block HZ1.out.at_)).below hb2 (lt_of_block (HZ1.out.below hbb (lt_of_block HZ1.out.at_)).at_))
  have HY2 := Lib.hid ((RBox.new w1 0 0 none 0 0).below hb2 (by simp))
  have HLt := Lib.hid (lt_of_block HZ1.out.at_)
  clear hb2 hbb hi HB1 HZ1 HG0 HG1
  generalize w1.heap.size = g1 at *
  obtain ⟨hz, c0, c1, c2, f0, f1, f2⟩ := HZ2.out.all
  obtain ⟨hy, d0, d1, d2, _, _, _⟩ := HY2.out.all
  go_wp2_with fail
  refine bodyPost_ret (v := .tuple #[rootV r.epoch r.logical A len cap, .int .i64 1, .bool true]) (by unfold rootV; simp [results, Try.results30, go_sem, hz, c0, c1, c2]) rfl ⟨A, len, cap, rfl, ?_⟩
  exact (((HB2.out.setCell (Nat.le_refl _) _).setCell (Nat.le_refl _) _).setCell (Nat.le_refl _) _).alloc (by have := HB2.out.size; simp; omega) _
end Go.Proofs.Ytbjkefodlnkaeaa
