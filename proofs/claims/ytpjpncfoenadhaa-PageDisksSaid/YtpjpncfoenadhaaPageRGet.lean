/- What bytes are as a page, in the document's answer. Condition: as many bytes as an int tells. -/
import Derived.Test.YtpjpncfoenadhaaPageGet
namespace Go.Proofs.Ytpjpncfoenadhaa
open Go.RowKit Go.WideShapes Pg

theorem kind_of (s : ByteArray) (h : s.size = 256) : ∃ (h0 : 20 < s.size) (h1 : 21 < s.size) (h2 : 22 < s.size) (h3 : 23 < s.size),
    (of s.data.toList).kind = (s[20].toNat : Int) * (16777216 : Int) + (s[21].toNat : Int) * (65536 : Int) + (s[22].toNat : Int) * (256 : Int) + (s[23].toNat : Int) := by
  refine ⟨by omega, by omega, by omega, by omega, ?_⟩
  have hl : s.data.toList.length = 256 := by rw [size_list]; exact h
  have e : (s.data.toList.drop 20).take 4 = [s[20], s[21], s[22], s[23]] := by
    apply List.ext_getElem
    · rw [List.length_take, List.length_drop]
      simp
      omega
    · intro j h1 h2
      rw [List.getElem_take, List.getElem_drop]
      match j, h2 with
      | 0, _ => rfl
      | 1, _ => rfl
      | 2, _ => rfl
      | 3, _ => rfl
  show ((Pk.deL ((s.data.toList.drop 20).take 4) : Nat) : Int) = _
  rw [e]
  have e2 : Pk.deL [s[20], s[21], s[22], s[23]] = (((0 * 256 + s[20].toNat) * 256 + s[21].toNat) * 256 + s[22].toNat) * 256 + s[23].toNat := rfl
  rw [e2]
  omega
/-- the parts, as the document reads them -/
structure RParts (s : ByteArray) : Prop where
  id : Pk.decI (at8 s 4) = (of s.data.toList).id
  epoch : Pk.decI (at8 s 12) = (of s.data.toList).epoch
  pay : s.extract 24 256 = ⟨(of s.data.toList).pay.toArray⟩
theorem rparts_of (s : ByteArray) (h : s.size = 256) : RParts s := by
  have hl : s.data.toList.length = 256 := by rw [size_list]; exact h
  refine ⟨rfl, rfl, ?_⟩
  apply bytes_inj
  rw [Lib.extract_data]
  show List.take _ (s.data.toList.drop 24) = s.data.toList.drop 24
  rw [List.take_of_length_le (by rw [List.length_drop]; omega)]
theorem lay_good (s : ByteArray) (h : s.size = 256) : (⟨(Crc.lay (s.extract 4 256).data.toList).toArray⟩ : ByteArray) = s ↔ Crc.good s.data.toList = true := by
  have hl : s.data.toList.length = 256 := by rw [size_list]; exact h
  have hB : (s.extract 4 256).data.toList = s.data.toList.drop 4 := by
    rw [Lib.extract_data, List.take_of_length_le (by rw [List.length_drop]; omega)]
  rw [hB, Crc.good_iff]
  constructor
  · intro h
    have := congrArg (fun x : ByteArray => x.data.toList) h
    exact this
  · intro h
    apply bytes_inj
    exact h
set_option maxRecDepth 100000 in
set_option maxHeartbeats 4000000 in
theorem rget_form (s : ByteArray) (w : World) (h : s.size ≠ 256) :
    Calls Try.prog 37 #[.string s] w fun en w' => en = .returned (.tuple #[.agg #[.int .i64 0, .int .i64 0, .int .i64 0, .string ⟨#[]⟩], .int .i64 6]) ∧ Below w.heap.size w w' := by
  have he : ((s.size : Int) != 256) = true := by rw [bne_iff_ne]; omega
  clear h
  go_enter Try.func37, Try.ntmps37
  go_wp2_with fail
  refine bodyPost_ret (v := .tuple #[.agg #[.int .i64 0, .int .i64 0, .int .i64 0, .string ⟨#[]⟩], .int .i64 6]) (by simp [results, Try.results37, go_sem]) rfl ⟨rfl, ?_⟩
  exact (Below.refl _ _).alloc (Nat.le_refl _) _
set_option maxRecDepth 100000 in
set_option maxHeartbeats 4000000 in
theorem rget_bad (s : ByteArray) (w : World) (h : s.size = 256) (hg : Crc.good s.data.toList = false) :
    Calls Try.prog 37 #[.string s] w fun en w' => en = .returned (.tuple #[.agg #[.int .i64 0, .int .i64 0, .int .i64 0, .string ⟨#[]⟩], .int .i64 14]) ∧ Below w.heap.size w w' := by
  have hne : ¬ (⟨(Crc.lay (s.extract 4 256).data.toList).toArray⟩ : ByteArray) = s := fun e => by rw [(lay_good s h).1 e] at hg; cases hg
  have HL := Lib.hid (fun w => rlay_any (s.extract 4 256) w (by simp; omega))
  clear hg
  generalize (⟨(Crc.lay (s.extract 4 256).data.toList).toArray⟩ : ByteArray) = X at *
  have e1 : ¬ X.toList = s.toList := fun h => hne (bytes_inj (by rw [← ByteArray.toList_eq, ← ByteArray.toList_eq]; exact h))
  have e2 : (X.toList == s.toList) = false := by simpa using e1
  clear hne
  go_enter Try.func37, Try.ntmps37
  go_wp2_with fail
  refine (HL.out _).mono ?_
  rintro en w1 ⟨rfl, hb⟩
  have HB := Lib.hid (((Below.refl w.heap.size w).alloc (Nat.le_refl _) _).trans (hb.mono (by simp)))
  have hq := res_at hb
  obtain ⟨c0, c1, c2, c3, f0, f1, f2, f3⟩ := hq
  have hz : w.heap.size < w1.heap.size := by have := hb.size; simp at this; omega
  clear hb HL
  go_wp2_with fail
  refine bodyPost_ret (v := .tuple #[.agg #[.int .i64 0, .int .i64 0, .int .i64 0, .string ⟨#[]⟩], .int .i64 14]) (by simp [results, Try.results37, go_sem, c0, c1, c2, c3]) rfl ⟨rfl, ?_⟩
  exact (((HB.out.setCell (Nat.le_refl _) _).setCell (Nat.le_refl _) _).setCell (Nat.le_refl _) _).setCell (Nat.le_refl _) _
set_option maxRecDepth 100000 in
set_option maxHeartbeats 4000000 in
theorem rget_wrong (s : ByteArray) (w : World) (h : s.size = 256) (hg : Crc.good s.data.toList = true) (hr : right (of s.data.toList) = false) :
    Calls Try.prog 37 #[.string s] w fun en w' => en = .returned (.tuple #[.agg #[.int .i64 0, .int .i64 0, .int .i64 0, .string ⟨#[]⟩], .int .i64 14]) ∧ Below w.heap.size w w' := by
  have HX := Lib.hid ((lay_good s h).2 hg)
  have HL := Lib.hid (fun w => rlay_any (s.extract 4 256) w (by simp; omega))
  rw [HX.out] at HL
  obtain ⟨e1, e2, e4⟩ := rparts_of s h
  obtain ⟨i0, i1, i2, i3, ek⟩ := kind_of s h
  have HR := Lib.hid hr
  have E1 := Lib.hid e1
  have E2 := Lib.hid e2
  have EK := Lib.hid ek
  have b0 := s[20].toNat_lt
  have b1 := s[21].toNat_lt
  have b2 := s[22].toNat_lt
  have b3 := s[23].toNat_lt
  clear hg hr e1 e2 ek HX
  generalize of s.data.toList = p at *
  go_enter Try.func37, Try.ntmps37
  go_wp2_with fail
  refine (HL.out _).mono ?_
  rintro en w1 ⟨rfl, hb⟩
  have HB := Lib.hid (((Below.refl w.heap.size w).alloc (Nat.le_refl _) _).trans (hb.mono (by simp)))
  have hq := res_at hb
  have hz : w.heap.size < w1.heap.size := by have := hb.size; simp at this; omega
  have HQ := Lib.hid hq
  clear hb HL hq
  go_wp2_with fail
  refine (rreadI_in s 4 _ (by omega) (by omega)).mono ?_
  rintro en w2 ⟨rfl, rfl⟩
  unfold readI
  rw [E1.out]
  go_wp2_with fail
  refine (rreadI_in s 12 _ (by omega) (by omega)).mono ?_
  rintro en w2 ⟨rfl, rfl⟩
  unfold readI
  rw [E2.out]
  go_wp2_with fail
  go_quiet (fail)
  rw [← EK.out]
  have hd : Below w1.heap.size w1 (w1.drewN nq) := below_drewN (Below.refl _ _) nq
  have hq2 := res_next hz hd HQ.out
  have HB2 := Lib.hid (HB.out.trans (hd.mono HB.out.size))
  have hz2 : w.heap.size < (w1.drewN nq).heap.size := Nat.lt_of_lt_of_le hz hd.size
  clear hd HB HQ hz
  generalize w1.drewN nq = w2 at *
  obtain ⟨c0, c1, c2, c3, f0, f1, f2, f3⟩ := hq2
  have HPx := PBox.new w2 p
  have hb1 : Below w2.heap.size w2 (w2.alloc (.cells #[.int .i64 p.id, .int .i64 p.epoch, .int .i64 p.kind, .string ⟨p.pay.toArray⟩] 56 (0, 0))) := (Below.refl _ _).alloc (Nat.le_refl _) _
  go_wp2_with fail
  refine (rright_any p _).mono ?_
  rintro en w3 ⟨rfl, hb3⟩
  rw [HR.out]
  have hb13 := hb1.trans (hb3.mono (by simp))
  have hq3 := res_next hz2 hb13 ⟨c0, c1, c2, c3, f0, f1, f2, f3⟩
  have hp3 := (HPx.below hb3 (by simp)).q
  have HB3 := Lib.hid (HB2.out.trans (hb13.mono HB2.out.size))
  have hz3 : w2.heap.size < w3.heap.size := by have := hb3.size; simp at this; omega
  clear hb3 hb1 hb13 HPx c0 c1 c2 c3 f0 f1 f2 f3
  obtain ⟨c0, c1, c2, c3, f0, f1, f2, f3⟩ := hq3
  obtain ⟨d0, d1, d2, d3⟩ := hp3
  go_wp2_with fail
  refine bodyPost_ret (v := .tuple #[.agg #[.int .i64 0, .int .i64 0, .int .i64 0, .string ⟨#[]⟩], .int .i64 14]) (by simp [results, Try.results37, go_sem, c0, c1, c2, c3]) rfl ⟨rfl, ?_⟩
  exact (((HB3.out.setCell (Nat.le_refl _) _).setCell (Nat.le_refl _) _).setCell (Nat.le_refl _) _).setCell (Nat.le_refl _) _
set_option maxRecDepth 100000 in
set_option maxHeartbeats 4000000 in
theorem rget_ok (s : ByteArray) (w : World) (h : s.size = 256) (hg : Crc.good s.data.toList = true) (hr : right (of s.data.toList) = true) :
    Calls Try.prog 37 #[.string s] w fun en w' => en = .returned (.tuple #[pageV (of s.data.toList), .int .i64 0]) ∧ Below w.heap.size w w' := by
  have HX := Lib.hid ((lay_good s h).2 hg)
  have HL := Lib.hid (fun w => rlay_any (s.extract 4 256) w (by simp; omega))
  rw [HX.out] at HL
  obtain ⟨e1, e2, e4⟩ := rparts_of s h
  obtain ⟨i0, i1, i2, i3, ek⟩ := kind_of s h
  have HR := Lib.hid hr
  have E1 := Lib.hid e1
  have E2 := Lib.hid e2
  have EK := Lib.hid ek
  have b0 := s[20].toNat_lt
  have b1 := s[21].toNat_lt
  have b2 := s[22].toNat_lt
  have b3 := s[23].toNat_lt
  clear hg hr e1 e2 ek HX
  generalize of s.data.toList = p at *
  go_enter Try.func37, Try.ntmps37
  go_wp2_with fail
  refine (HL.out _).mono ?_
  rintro en w1 ⟨rfl, hb⟩
  have HB := Lib.hid (((Below.refl w.heap.size w).alloc (Nat.le_refl _) _).trans (hb.mono (by simp)))
  have hq := res_at hb
  have hz : w.heap.size < w1.heap.size := by have := hb.size; simp at this; omega
  have HQ := Lib.hid hq
  clear hb HL hq
  go_wp2_with fail
  refine (rreadI_in s 4 _ (by omega) (by omega)).mono ?_
  rintro en w2 ⟨rfl, rfl⟩
  unfold readI
  rw [E1.out]
  go_wp2_with fail
  refine (rreadI_in s 12 _ (by omega) (by omega)).mono ?_
  rintro en w2 ⟨rfl, rfl⟩
  unfold readI
  rw [E2.out]
  go_wp2_with fail
  go_quiet (fail)
  rw [← EK.out]
  have hd : Below w1.heap.size w1 (w1.drewN nq) := below_drewN (Below.refl _ _) nq
  have hq2 := res_next hz hd HQ.out
  have HB2 := Lib.hid (HB.out.trans (hd.mono HB.out.size))
  have hz2 : w.heap.size < (w1.drewN nq).heap.size := Nat.lt_of_lt_of_le hz hd.size
  clear hd HB HQ hz
  generalize w1.drewN nq = w2 at *
  obtain ⟨c0, c1, c2, c3, f0, f1, f2, f3⟩ := hq2
  have HPx := PBox.new w2 p
  have hb1 : Below w2.heap.size w2 (w2.alloc (.cells #[.int .i64 p.id, .int .i64 p.epoch, .int .i64 p.kind, .string ⟨p.pay.toArray⟩] 56 (0, 0))) := (Below.refl _ _).alloc (Nat.le_refl _) _
  go_wp2_with fail
  refine (rright_any p _).mono ?_
  rintro en w3 ⟨rfl, hb3⟩
  rw [HR.out]
  have hb13 := hb1.trans (hb3.mono (by simp))
  have hq3 := res_next hz2 hb13 ⟨c0, c1, c2, c3, f0, f1, f2, f3⟩
  have hp3 := (HPx.below hb3 (by simp)).q
  have HB3 := Lib.hid (HB2.out.trans (hb13.mono HB2.out.size))
  have hz3 : w2.heap.size < w3.heap.size := by have := hb3.size; simp at this; omega
  clear hb3 hb1 hb13 HPx c0 c1 c2 c3 f0 f1 f2 f3
  obtain ⟨c0, c1, c2, c3, f0, f1, f2, f3⟩ := hq3
  obtain ⟨d0, d1, d2, d3⟩ := hp3
  go_wp2_with fail
  refine bodyPost_ret (v := .tuple #[pageV p, .int .i64 0]) (by unfold pageV; simp [results, Try.results37, go_sem, c0, c1, c2, c3]) rfl ⟨rfl, ?_⟩
  exact (((HB3.out.setCell (Nat.le_refl _) _).setCell (Nat.le_refl _) _).setCell (Nat.le_refl _) _).setCell (Nat.le_refl _) _
theorem rpget_any (s : ByteArray) (w : World) :
    Calls Try.prog 37 #[.string s] w fun en w' => en = .returned (getV s.data.toList) ∧ Below w.heap.size w w' := by
  have hl := size_list s
  by_cases h : s.size = 256
  · cases hg : Crc.good s.data.toList
    · rw [getV_bad _ (by omega) hg]
      exact rget_bad s w h hg
    · cases hr : right (of s.data.toList)
      · rw [getV_wrong _ (by omega) hg hr]
        exact rget_wrong s w h hg hr
      · rw [getV_ok _ (by omega) hg hr]
        exact rget_ok s w h hg hr
  · rw [getV_form _ (by omega)]
    exact rget_form s w h
end Go.Proofs.Ytpjpncfoenadhaa
