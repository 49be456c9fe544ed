/- What bytes are as a page, in the program and in the document's answer. Condition: as many bytes as an int tells. -/
import Derived.Test.YtpjpncfoenadhaaPageRPut
namespace Go.Proofs.Ytpjpncfoenadhaa
open Go.RowKit Go.WideShapes Pg

def getV (s : List UInt8) : Value := .tuple #[pageV (Pg.get s).1, .int .i64 (Pg.get s).2]
theorem getV_form (s : List UInt8) (h : s.length ≠ 256) : getV s = .tuple #[.agg #[.int .i64 0, .int .i64 0, .int .i64 0, .string ⟨#[]⟩], .int .i64 6] := by
  unfold getV Pg.get
  rw [if_pos h]
  rfl
theorem getV_bad (s : List UInt8) (h : s.length = 256) (hg : Crc.good s = false) : getV s = .tuple #[.agg #[.int .i64 0, .int .i64 0, .int .i64 0, .string ⟨#[]⟩], .int .i64 14] := by
  unfold getV Pg.get
  rw [if_neg (by omega), if_pos hg]
  rfl
theorem getV_wrong (s : List UInt8) (h : s.length = 256) (hg : Crc.good s = true) (hr : right (of s) = false) : getV s = .tuple #[.agg #[.int .i64 0, .int .i64 0, .int .i64 0, .string ⟨#[]⟩], .int .i64 14] := by
  unfold getV Pg.get
  rw [if_neg (by omega), if_neg (by simp [hg]), if_pos hr]
  rfl
theorem getV_ok (s : List UInt8) (h : s.length = 256) (hg : Crc.good s = true) (hr : right (of s) = true) : getV s = .tuple #[pageV (of s), .int .i64 0] := by
  unfold getV Pg.get
  rw [if_neg (by omega), if_neg (by simp [hg]), if_neg (by simp [hr])]
/-- the page's parts, as they are read -/
structure Parts (s : ByteArray) : Prop where
  id : Pk.decI (at8 (s.extract 4 256) 0) = (of s.data.toList).id
  epoch : Pk.decI (at8 (s.extract 4 256) 8) = (of s.data.toList).epoch
  kind : (Pk.deL (at8 (⟨#[0, 0, 0, 0]⟩ ++ (s.extract 4 256).extract 16 20) 0) : Int) = (of s.data.toList).kind
  pay : (s.extract 4 256).extract 20 252 = ⟨(of s.data.toList).pay.toArray⟩
  size : (s.extract 4 256).size = 252
  k0 : 0 ≤ (of s.data.toList).kind
  k1 : (of s.data.toList).kind < 4294967296
theorem parts_of (s : ByteArray) (h : s.size = 256) : Parts s := by
  have hl : s.data.toList.length = 256 := by rw [size_list]; exact h
  have hB : (s.extract 4 256).data.toList = s.data.toList.drop 4 := by
    rw [Lib.extract_data, List.take_of_length_le (by rw [List.length_drop]; omega)]
  have hE : ((s.extract 4 256).extract 16 20).data.toList = (s.data.toList.drop 20).take 4 := by
    rw [Lib.extract_data, hB, List.drop_drop]
  have h4 : ((s.data.toList.drop 20).take 4).length = 4 := by rw [List.length_take, List.length_drop]; omega
  have hk := Pk.deL_lt 4 _ h4
  refine ⟨?_, ?_, ?_, ?_, ?_, ?_, ?_⟩
  · unfold at8 of
    rw [hB]
    rfl
  · unfold at8 of
    rw [hB, List.drop_drop]
  · unfold at8 of
    have e : ((⟨#[0, 0, 0, 0]⟩ : ByteArray) ++ (s.extract 4 256).extract 16 20).data.toList = List.replicate 4 0 ++ (s.data.toList.drop 20).take 4 := by
      rw [← hE]
      simp [ByteArray.data_append]
    rw [e, List.drop_zero, List.take_of_length_le (by rw [List.length_append, h4]; simp), Pk.deL_zeros]
  · apply bytes_inj
    rw [Lib.extract_data, hB, List.drop_drop]
    show List.take _ (s.data.toList.drop 24) = s.data.toList.drop 24
    rw [List.take_of_length_le (by rw [List.length_drop]; omega)]
  · simp
    omega
  · show (0 : Int) ≤ (Pk.deL _ : Int)
    omega
  · show (Pk.deL _ : Int) < 4294967296
    have : (256 : Nat) ^ 4 = 4294967296 := rfl
    omega
theorem res_at {w w1 : World} (hb : Below (w.alloc (.cells #[.int .i64 0, .int .i64 0, .int .i64 0, .string ⟨#[]⟩] 56 (0, 0))).heap.size (w.alloc (.cells #[.int .i64 0, .int .i64 0, .int .i64 0, .string ⟨#[]⟩] 56 (0, 0))) w1) :
    w1.cell? ⟨w.heap.size, 0, none⟩ = some (.int .i64 0) ∧ w1.cell? ⟨w.heap.size, 1, none⟩ = some (.int .i64 0) ∧ w1.cell? ⟨w.heap.size, 2, none⟩ = some (.int .i64 0) ∧ w1.cell? ⟨w.heap.size, 3, none⟩ = some (.string ⟨#[]⟩) ∧
      w1.frozen? ⟨w.heap.size, 0, none⟩ = false ∧ w1.frozen? ⟨w.heap.size, 1, none⟩ = false ∧ w1.frozen? ⟨w.heap.size, 2, none⟩ = false ∧ w1.frozen? ⟨w.heap.size, 3, none⟩ = false := by
  have h := (hb.block w.heap.size (by simp)).trans (World.alloc_heap_new w _)
  exact ⟨cell_of_row w1 _ 0 _ _ (0, 0) h, cell_of_row w1 _ 1 _ _ (0, 0) h, cell_of_row w1 _ 2 _ _ (0, 0) h, cell_of_row w1 _ 3 _ _ (0, 0) h, frozen_of_row w1 _ 0 _ _ h, frozen_of_row w1 _ 1 _ _ h, frozen_of_row w1 _ 2 _ _ h, frozen_of_row w1 _ 3 _ _ h⟩
theorem res_next {w1 w3 : World} {r : Nat} (hz : r < w1.heap.size) (hb : Below w1.heap.size w1 w3)
    (h : w1.cell? ⟨r, 0, none⟩ = some (.int .i64 0) ∧ w1.cell? ⟨r, 1, none⟩ = some (.int .i64 0) ∧ w1.cell? ⟨r, 2, none⟩ = some (.int .i64 0) ∧ w1.cell? ⟨r, 3, none⟩ = some (.string ⟨#[]⟩) ∧
      w1.frozen? ⟨r, 0, none⟩ = false ∧ w1.frozen? ⟨r, 1, none⟩ = false ∧ w1.frozen? ⟨r, 2, none⟩ = false ∧ w1.frozen? ⟨r, 3, none⟩ = false) :
    w3.cell? ⟨r, 0, none⟩ = some (.int .i64 0) ∧ w3.cell? ⟨r, 1, none⟩ = some (.int .i64 0) ∧ w3.cell? ⟨r, 2, none⟩ = some (.int .i64 0) ∧ w3.cell? ⟨r, 3, none⟩ = some (.string ⟨#[]⟩) ∧
      w3.frozen? ⟨r, 0, none⟩ = false ∧ w3.frozen? ⟨r, 1, none⟩ = false ∧ w3.frozen? ⟨r, 2, none⟩ = false ∧ w3.frozen? ⟨r, 3, none⟩ = false := by
  have e := fun j => hb.cell (p := ⟨r, j, none⟩) hz
  have g := fun j => hb.frozen (p := ⟨r, j, none⟩) hz
  rw [e 0, e 1, e 2, e 3, g 0, g 1, g 2, g 3]
  exact h
set_option maxRecDepth 100000 in
set_option maxHeartbeats 4000000 in
theorem get_form (s : ByteArray) (w : World) (h : s.size ≠ 256) :
    Calls Try.prog 36 #[.string s] w fun en w' => en = .returned (.tuple #[.agg #[.int .i64 0, .int .i64 0, .int .i64 0, .string ⟨#[]⟩], .int .i64 6]) ∧ Below w.heap.size w w' := by
  have he : ((s.size : Int) != 256) = true := by rw [bne_iff_ne]; omega
  clear h
  go_enter Try.func36, Try.ntmps36
  go_wp2_with fail
  refine bodyPost_ret (v := .tuple #[.agg #[.int .i64 0, .int .i64 0, .int .i64 0, .string ⟨#[]⟩], .int .i64 6]) (by simp [results, Try.results36, go_sem]) rfl ⟨rfl, ?_⟩
  exact (Below.refl _ _).alloc (Nat.le_refl _) _
set_option maxRecDepth 100000 in
set_option maxHeartbeats 4000000 in
theorem get_bad (s : ByteArray) (w : World) (h : s.size = 256) (hg : Crc.good s.data.toList = false) :
    Calls Try.prog 36 #[.string s] w fun en w' => en = .returned (.tuple #[.agg #[.int .i64 0, .int .i64 0, .int .i64 0, .string ⟨#[]⟩], .int .i64 14]) ∧ Below w.heap.size w w' := by
  have HC := Lib.hid (fun w => cut_bad s w (by omega) (by omega) hg)
  clear hg
  go_enter Try.func36, Try.ntmps36
  go_wp2_with fail
  refine (HC.out _).mono ?_
  rintro en w1 ⟨rfl, hb⟩
  have HB := Lib.hid (((Below.refl w.heap.size w).alloc (Nat.le_refl _) _).trans (hb.mono (by simp)))
  have hr := res_at hb
  obtain ⟨c0, c1, c2, c3, f0, f1, f2, f3⟩ := hr
  have hz : w.heap.size < w1.heap.size := by have := hb.size; simp at this; omega
  clear hb
  go_wp2_with fail
  refine bodyPost_ret (v := .tuple #[.agg #[.int .i64 0, .int .i64 0, .int .i64 0, .string ⟨#[]⟩], .int .i64 14]) (by simp [results, Try.results36, go_sem, c0, c1, c2, c3]) rfl ⟨rfl, ?_⟩
  exact (((HB.out.setCell (Nat.le_refl _) _).setCell (Nat.le_refl _) _).setCell (Nat.le_refl _) _).setCell (Nat.le_refl _) _
set_option maxRecDepth 100000 in
set_option maxHeartbeats 4000000 in
theorem get_wrong (s : ByteArray) (w : World) (h : s.size = 256) (hg : Crc.good s.data.toList = true) (hr : right (of s.data.toList) = false) :
    Calls Try.prog 36 #[.string s] w fun en w' => en = .returned (.tuple #[.agg #[.int .i64 0, .int .i64 0, .int .i64 0, .string ⟨#[]⟩], .int .i64 14]) ∧ Below w.heap.size w w' := by
  have HC : Hid (∀ w, Calls Try.prog 62 #[.string s] w fun e w' => e = .returned (.tuple #[.string (s.extract 4 256), .int .i64 0]) ∧ Below w.heap.size w w') := fun w => by
    have := cut_good s w (by omega) (by omega) hg
    rwa [h] at this
  obtain ⟨e1, e2, e3, e4, e5, k0, k1⟩ := parts_of s h
  have HR := Lib.hid hr
  have E1 := Lib.hid e1
  have E2 := Lib.hid e2
  have E3 := Lib.hid e3
  clear hg hr e1 e2 e3
  generalize of s.data.toList = p at *
  generalize s.extract 4 256 = B at *
  go_enter Try.func36, Try.ntmps36
  go_wp2_with fail
  refine (HC.out _).mono ?_
  rintro en w1 ⟨rfl, hb⟩
  have HB := Lib.hid (((Below.refl w.heap.size w).alloc (Nat.le_refl _) _).trans (hb.mono (by simp)))
  have hq := res_at hb
  obtain ⟨c0, c1, c2, c3, f0, f1, f2, f3⟩ := hq
  have hz : w.heap.size < w1.heap.size := by have := hb.size; simp at this; omega
  clear hb HC
  go_wp2_with fail
  refine (readI_in B 0 _ (by omega) (by omega)).mono ?_
  rintro en w2 ⟨rfl, rfl⟩
  unfold readI
  rw [E1.out]
  go_wp2_with fail
  refine (readI_in B 8 _ (by omega) (by omega)).mono ?_
  rintro en w2 ⟨rfl, rfl⟩
  unfold readI
  rw [E2.out]
  go_wp2_with fail
  have hZ : ((⟨#[0, 0, 0, 0]⟩ : ByteArray) ++ B.extract 16 20).size = 8 := by
    rw [ByteArray.size_append, ByteArray.size_extract, e5]
    rfl
  generalize (⟨#[0, 0, 0, 0]⟩ : ByteArray) ++ B.extract 16 20 = Z at *
  refine (readU_in Z 0 _ (by omega) (by omega)).mono ?_
  rintro en w2 ⟨rfl, rfl⟩
  unfold readU
  rw [E3.out]
  clear hZ
  have HPx := PBox.new w1 p
  have hb1 : Below w1.heap.size w1 (w1.alloc (.cells #[.int .i64 p.id, .int .i64 p.epoch, .int .i64 p.kind, .string ⟨p.pay.toArray⟩] 56 (0, 0))) := (Below.refl _ _).alloc (Nat.le_refl _) _
  go_wp2_with fail
  refine (right_any p _).mono ?_
  rintro en w3 ⟨rfl, hb3⟩
  rw [HR.out]
  have hb13 := hb1.trans (hb3.mono (by simp))
  have hq3 := res_next hz hb13 ⟨c0, c1, c2, c3, f0, f1, f2, f3⟩
  have hp3 := (HPx.below hb3 (by simp)).q
  have HB3 := Lib.hid (HB.out.trans (hb13.mono HB.out.size))
  have hz3 : w1.heap.size < w3.heap.size := by have := hb3.size; simp at this; omega
  clear hb3 hb1 hb13 HPx c0 c1 c2 c3 f0 f1 f2 f3
  obtain ⟨c0, c1, c2, c3, f0, f1, f2, f3⟩ := hq3
  obtain ⟨d0, d1, d2, d3⟩ := hp3
  go_wp2_with fail
  refine bodyPost_ret (v := .tuple #[.agg #[.int .i64 0, .int .i64 0, .int .i64 0, .string ⟨#[]⟩], .int .i64 14]) (by simp [results, Try.results36, go_sem, c0, c1, c2, c3]) rfl ⟨rfl, ?_⟩
  exact (((HB3.out.setCell (Nat.le_refl _) _).setCell (Nat.le_refl _) _).setCell (Nat.le_refl _) _).setCell (Nat.le_refl _) _
set_option maxRecDepth 100000 in
set_option maxHeartbeats 4000000 in
theorem get_ok (s : ByteArray) (w : World) (h : s.size = 256) (hg : Crc.good s.data.toList = true) (hr : right (of s.data.toList) = true) :
    Calls Try.prog 36 #[.string s] w fun en w' => en = .returned (.tuple #[pageV (of s.data.toList), .int .i64 0]) ∧ Below w.heap.size w w' := by
  have HC : Hid (∀ w, Calls Try.prog 62 #[.string s] w fun e w' => e = .returned (.tuple #[.string (s.extract 4 256), .int .i64 0]) ∧ Below w.heap.size w w') := fun w => by
    have := cut_good s w (by omega) (by omega) hg
    rwa [h] at this
  obtain ⟨e1, e2, e3, e4, e5, k0, k1⟩ := parts_of s h
  have HR := Lib.hid hr
  have E1 := Lib.hid e1
  have E2 := Lib.hid e2
  have E3 := Lib.hid e3
  clear hg hr e1 e2 e3
  generalize of s.data.toList = p at *
  generalize s.extract 4 256 = B at *
  go_enter Try.func36, Try.ntmps36
  go_wp2_with fail
  refine (HC.out _).mono ?_
  rintro en w1 ⟨rfl, hb⟩
  have HB := Lib.hid (((Below.refl w.heap.size w).alloc (Nat.le_refl _) _).trans (hb.mono (by simp)))
  have hq := res_at hb
  obtain ⟨c0, c1, c2, c3, f0, f1, f2, f3⟩ := hq
  have hz : w.heap.size < w1.heap.size := by have := hb.size; simp at this; omega
  clear hb HC
  go_wp2_with fail
  refine (readI_in B 0 _ (by omega) (by omega)).mono ?_
  rintro en w2 ⟨rfl, rfl⟩
  unfold readI
  rw [E1.out]
  go_wp2_with fail
  refine (readI_in B 8 _ (by omega) (by omega)).mono ?_
  rintro en w2 ⟨rfl, rfl⟩
  unfold readI
  rw [E2.out]
  go_wp2_with fail
  have hZ : ((⟨#[0, 0, 0, 0]⟩ : ByteArray) ++ B.extract 16 20).size = 8 := by
    rw [ByteArray.size_append, ByteArray.size_extract, e5]
    rfl
  generalize (⟨#[0, 0, 0, 0]⟩ : ByteArray) ++ B.extract 16 20 = Z at *
  refine (readU_in Z 0 _ (by omega) (by omega)).mono ?_
  rintro en w2 ⟨rfl, rfl⟩
  unfold readU
  rw [E3.out]
  clear hZ
  have HPx := PBox.new w1 p
  have hb1 : Below w1.heap.size w1 (w1.alloc (.cells #[.int .i64 p.id, .int .i64 p.epoch, .int .i64 p.kind, .string ⟨p.pay.toArray⟩] 56 (0, 0))) := (Below.refl _ _).alloc (Nat.le_refl _) _
  go_wp2_with fail
  refine (right_any p _).mono ?_
  rintro en w3 ⟨rfl, hb3⟩
  rw [HR.out]
  have hb13 := hb1.trans (hb3.mono (by simp))
  have hq3 := res_next hz hb13 ⟨c0, c1, c2, c3, f0, f1, f2, f3⟩
  have hp3 := (HPx.below hb3 (by simp)).q
  have HB3 := Lib.hid (HB.out.trans (hb13.mono HB.out.size))
  have hz3 : w1.heap.size < w3.heap.size := by have := hb3.size; simp at this; omega
  clear hb3 hb1 hb13 HPx c0 c1 c2 c3 f0 f1 f2 f3
  obtain ⟨c0, c1, c2, c3, f0, f1, f2, f3⟩ := hq3
  obtain ⟨d0, d1, d2, d3⟩ := hp3
  go_wp2_with fail
  refine bodyPost_ret (v := .tuple #[pageV p, .int .i64 0]) (by unfold pageV; simp [results, Try.results36, go_sem, c0, c1, c2, c3]) rfl ⟨rfl, ?_⟩
  exact (((HB3.out.setCell (Nat.le_refl _) _).setCell (Nat.le_refl _) _).setCell (Nat.le_refl _) _).setCell (Nat.le_refl _) _
theorem pget_any (s : ByteArray) (w : World) :
    Calls Try.prog 36 #[.string s] w fun en w' => en = .returned (getV s.data.toList) ∧ Below w.heap.size w w' := by
  have hl := size_list s
  by_cases h : s.size = 256
  · cases hg : Crc.good s.data.toList
    · rw [getV_bad _ (by omega) hg]
      exact get_bad s w h hg
    · cases hr : right (of s.data.toList)
      · rw [getV_wrong _ (by omega) hg hr]
        exact get_wrong s w h hg hr
      · rw [getV_ok _ (by omega) hg hr]
        exact get_ok s w h hg hr
  · rw [getV_form _ (by omega)]
    exact get_form s w h
end Go.Proofs.Ytpjpncfoenadhaa
