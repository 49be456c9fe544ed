/- A root read, where the text says none at once: the walk of root.Get. No condition. -/
import Derived.Test.YtbjkefodlnkaeaaRootGetN
import Derived.Outline
namespace Go.Proofs.Ytbjkefodlnkaeaa
open Go.RowKit

/-- nothing was said -/
def GetFail (s : ByteArray) (w : World) (e : Ending) (w' : World) : Prop :=
  e = .returned (.tuple #[rootV 0 0 none 0 0, .bool false]) ∧ (∀ r, Rt.right r = true → Rt.laid r ≠ s.data.toList) ∧ Below w.heap.size w w'
/-- a root was said -/
def GetOk (s : ByteArray) (w : World) (e : Ending) (w' : World) : Prop :=
  ∃ (r : Rt.Root) (A : Option Addr) (len cap : Nat), e = .returned (.tuple #[rootV r.epoch r.logical A len cap, .bool true]) ∧ Rt.right r = true ∧ Rt.laid r = s.data.toList ∧ (∀ ad, A = some ad → w.heap.size ≤ ad.block) ∧ Ints w'.heap.size w' A len cap r.parts ∧ Below w.heap.size w w'
def GotR (s : ByteArray) (w : World) (e : Ending) (w' : World) : Prop := GetFail s w e w' ∨ GetOk s w e w'

theorem RBox.all {w : World} {g : Nat} {e l : Int} {A : Option Addr} {len cap : Nat} (h : RBox w g e l A len cap) : g < w.heap.size ∧ w.cell? ⟨g, 0, none⟩ = some (.int .i64 e) ∧ w.cell? ⟨g, 1, none⟩ = some (.int .i64 l) ∧ w.cell? ⟨g, 2, none⟩ = some (.slice A len cap) ∧
    w.frozen? ⟨g, 0, none⟩ = false ∧ w.frozen? ⟨g, 1, none⟩ = false ∧ w.frozen? ⟨g, 2, none⟩ = false :=
  ⟨lt_of_block h.at_, h.q.1, h.q.2.1, h.q.2.2, frozen_of_row _ _ _ _ _ h.at_, frozen_of_row _ _ _ _ _ h.at_, frozen_of_row _ _ _ _ _ h.at_⟩
def cutT (s : ByteArray) : ByteArray := if Crc.good s.data.toList = true then s.extract 4 s.size else ⟨#[]⟩
def cutE (s : ByteArray) : Int := if Crc.good s.data.toList = true then 0 else 14
theorem cut_long (s : ByteArray) (w : World) (hs : 4 ≤ s.size) (hs2 : s.size ≤ 140737488351232) :
    Calls Try.prog 17 #[.string s] w fun e w' => e = .returned (.tuple #[.string (cutT s), .int .i64 (cutE s)]) ∧ Below w.heap.size w w' := by
  unfold cutT cutE
  cases hg : Crc.good s.data.toList
  · rw [if_neg (by simp), if_neg (by simp)]
    exact cut_bad s w hs hs2 hg
  · rw [if_pos rfl, if_pos rfl]
    exact cut_good s w hs hs2 hg
set_option maxRecDepth 100000 in
set_option maxHeartbeats 2000000 in
theorem get_size (s : ByteArray) (w : World) (_hs : s.size ≤ 9223372036854775807) (h : s.size ≠ 64) :
    Calls Try.prog 21 #[.string s] w (GetFail s w) := by
  have HF : Hid (∀ r, Rt.right r = true → Rt.laid r ≠ s.data.toList) := Lib.hid fun r hr e => h (by rw [← size_list, ← e]; exact Rt.laid_length (Rt.parts_le hr))
  have h1 : ((s.size : Int) != 64) = true := by simp; omega
  have h2 : ¬ (s.size : Int) = 64 := by omega
  go_enter Try.func21, Try.ntmps21
  go_wp2_with fail
  refine bodyPost_ret (v := .tuple #[rootV 0 0 none 0 0, .bool false]) (by unfold rootV; simp [results, Try.results21, go_sem]) rfl ⟨rfl, HF.out, ?_⟩
  exact (Below.refl _ _).alloc (Nat.le_refl _) _
theorem ext_mid (s : ByteArray) : (s.extract 8 56).data.toList = (s.data.toList.drop 8).take 48 := by rw [Lib.extract_data]
theorem at8_last (s : ByteArray) (h : s.size = 64) : at8 s 56 = s.data.toList.drop 56 := by
  unfold at8
  rw [List.take_of_length_le]
  rw [List.length_drop, size_list, h]
  decide
/-- where a text is no root's at its ends -/
theorem no_ends (s : ByteArray) (h : s.size = 64) (hb : ¬ Pk.decI (at8 s 0) = Pk.decI (at8 s 56) ∨ Crc.good ((s.data.toList.drop 8).take 48) = false) : ∀ r, Rt.right r = true → Rt.laid r ≠ s.data.toList := by
  intro r hr e
  rcases hb with hb | hb
  · apply hb
    rw [at8_last s h]
    unfold at8
    rw [List.drop_zero, ← e, Rt.laid_first, Rt.laid_last (Rt.parts_le hr)]
  · rw [← e, Rt.laid_mid (Rt.parts_le hr), Crc.good_lay] at hb
    cases hb
theorem cutE_zero (s : ByteArray) : cutE s = 0 ↔ Crc.good s.data.toList = true := by
  unfold cutE
  by_cases h : Crc.good s.data.toList = true
  · rw [if_pos h]; simp [h]
  · rw [if_neg h]; simp [h]
set_option maxRecDepth 100000 in
set_option maxHeartbeats 4000000 in
theorem get_ends (s : ByteArray) (w : World) (h : s.size = 64) (hb : ¬ Pk.decI (at8 s 0) = Pk.decI (at8 s 56) ∨ Crc.good ((s.data.toList.drop 8).take 48) = false) :
    Calls Try.prog 21 #[.string s] w (GetFail s w) := by
  have HF := Lib.hid (no_ends s h hb)
  have HI0 := Lib.hid (fun w => readI_in s 0 w (by omega) (by omega))
  have HI1 := Lib.hid (fun w => readI_in s 56 w (by omega) (by omega))
  have HC := Lib.hid (fun w => cut_long (s.extract 8 56) w (by simp; omega) (by simp; omega))
  have HB := Lib.hid (show ¬ Pk.decI (at8 s 0) = Pk.decI (at8 s 56) ∨ ¬ cutE (s.extract 8 56) = 0 from hb.imp id fun hg hz => by
    rw [cutE_zero, ext_mid, hg] at hz
    cases hz)
  clear hb
  unfold readI at HI0 HI1
  generalize Pk.decI (at8 s 0) = x at *
  generalize Pk.decI (at8 s 56) = y at *
  generalize cutE (s.extract 8 56) = ce at *
  generalize cutT (s.extract 8 56) = ct at *
  by_cases hxy : x = y
  · have hce : ¬ ce = 0 := HB.out.resolve_left (fun hh => hh hxy)
    subst hxy
    have d2 : (ce != 0) = true := by simpa using hce
    go_enter Try.func21, Try.ntmps21
    go_wp2_with fail
    refine (HI0.out _).mono ?_
    rintro en w1 ⟨rfl, rfl⟩
    go_wp2_with fail
    refine (HI1.out _).mono ?_
    rintro en w1 ⟨rfl, rfl⟩
    go_wp2_with fail
    refine (HC.out _).mono ?_
    rintro en w1 ⟨rfl, hb1⟩
    have HB1 := Lib.hid (((Below.refl w.heap.size w).alloc (Nat.le_refl _) _).trans (hb1.mono (by simp)))
    obtain ⟨hz, c0, c1, c2, f0, f1, f2⟩ := (RBox.new w 0 0 none 0 0).below hb1 (by simp) |>.all
    clear hb1
    go_wp2_with fail
    refine bodyPost_ret (v := .tuple #[rootV 0 0 none 0 0, .bool false]) (by unfold rootV; simp [results, Try.results21, go_sem, hz, c0, c1, c2]) rfl ⟨rfl, HF.out, ?_⟩
    exact (((HB1.out.setCell (Nat.le_refl _) _).setCell (Nat.le_refl _) _).setCell (Nat.le_refl _) _).alloc (by have := HB1.out.size; simp; omega) _
  · have d1 : (x != y) = true := by simpa using hxy
    go_enter Try.func21, Try.ntmps21
    go_wp2_with fail
    refine (HI0.out _).mono ?_
    rintro en w1 ⟨rfl, rfl⟩
    go_wp2_with fail
    refine (HI1.out _).mono ?_
    rintro en w1 ⟨rfl, rfl⟩
    go_wp2_with fail
    refine (HC.out _).mono ?_
    rintro en w1 ⟨rfl, hb1⟩
    have HB1 := Lib.hid (((Below.refl w.heap.size w).alloc (Nat.le_refl _) _).trans (hb1.mono (by simp)))
    obtain ⟨hz, c0, c1, c2, f0, f1, f2⟩ := (RBox.new w 0 0 none 0 0).below hb1 (by simp) |>.all
    clear hb1
    go_wp2_with fail
    refine bodyPost_ret (v := .tuple #[rootV 0 0 none 0 0, .bool false]) (by unfold rootV; simp [results, Try.results21, go_sem, hz, c0, c1, c2]) rfl ⟨rfl, HF.out, ?_⟩
    exact (((HB1.out.setCell (Nat.le_refl _) _).setCell (Nat.le_refl _) _).setCell (Nat.le_refl _) _).alloc (by have := HB1.out.size; simp; omega) _
end Go.Proofs.Ytbjkefodlnkaeaa
