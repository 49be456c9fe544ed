/- Pages read from the reference's disk. Condition: the disk lies in memory. -/
import Derived.Test.YtpjpncfoenadhaaPageRefW
import Derived.Test.YtpjpncfoenadhaaPageRead
namespace Go.Proofs.Ytpjpncfoenadhaa
open Go.RowKit Go.WideShapes Pg Dk

set_option maxRecDepth 100000 in
set_option maxHeartbeats 2000000 in
theorem rpread_out {w : World} {k : RB} {A : Dk.St} (id : Int) (h : XD w k A) (ho : id < 0 ∨ (many A.n : Int) ≤ id) :
    Calls Try.prog 48 #[.pointer (some ⟨k.g, 0, none⟩), .int .i64 id] w fun e w' => e = .returned (readPV (zero, 3)) ∧ Below w.heap.size w w' := by
  have hb0 : Below w.heap.size w (w.alloc (.cells #[.int .i64 0, .int .i64 0, .int .i64 0, .string ⟨#[]⟩] 56 (0, 0))) := (Below.refl _ _).alloc (Nat.le_refl _) _
  have HM := Lib.hid (fun w => rmany_any A.n w h.nb)
  have x0 := (h.below hb0).c0
  clear h hb0
  by_cases h0 : id < 0
  · clear ho
    go_enter Try.func48, Try.ntmps48
    go_wp2_with fail
    refine bodyPost_ret (v := readPV (zero, 3)) (by unfold readPV pageV zero; simp [results, Try.results48, go_sem]) rfl ⟨rfl, ?_⟩
    exact (Below.refl _ _).alloc (Nat.le_refl _) _
  · have h1 : (many A.n : Int) ≤ id := by omega
    clear ho
    go_enter Try.func48, Try.ntmps48
    go_wp2_with fail
    refine (HM.out _).mono ?_
    rintro en w' ⟨rfl, rfl⟩
    go_wp2_with fail
    refine bodyPost_ret (v := readPV (zero, 3)) (by unfold readPV pageV zero; simp [results, Try.results48, go_sem]) rfl ⟨rfl, ?_⟩
    exact (Below.refl _ _).alloc (Nat.le_refl _) _
set_option maxRecDepth 100000 in
set_option maxHeartbeats 4000000 in
theorem rpread_down {w : World} {k : RB} {A : Dk.St} (i : Nat) (h : XD w k A) (hi : i < many A.n) (hd : A.down = true) :
    Calls Try.prog 48 #[.pointer (some ⟨k.g, 0, none⟩), .int .i64 (i : Int)] w fun e w' => e = .returned (readPV (zero, 13)) ∧ Below w.heap.size w w' := by
  have hb0 : Below w.heap.size w (w.alloc (.cells #[.int .i64 0, .int .i64 0, .int .i64 0, .string ⟨#[]⟩] 56 (0, 0))) := (Below.refl _ _).alloc (Nat.le_refl _) _
  have HM := Lib.hid (fun w => rmany_any A.n w h.nb)
  have x0 := (h.below hb0).c0
  have x5 := (h.below hb0).c5
  rw [hd] at x5
  have hiI : (i : Int) < (many A.n : Nat) := by omega
  clear h hb0 hd
  go_enter Try.func48, Try.ntmps48
  go_wp2_with fail
  refine (HM.out _).mono ?_
  rintro en w' ⟨rfl, rfl⟩
  go_wp2_with fail
  refine bodyPost_ret (v := readPV (zero, 13)) (by unfold readPV pageV zero; simp [results, Try.results48, go_sem]) rfl ⟨rfl, ?_⟩
  exact (Below.refl _ _).alloc (Nat.le_refl _) _
theorem pre_next (A : Dk.St) (K m : Nat) : (⟨(preL A K m).toArray⟩ : ByteArray) ++ ⟨(A.at_ (K + m)).toArray⟩ = ⟨(preL A K (m + 1)).toArray⟩ := by
  apply bytes_inj
  rw [ByteArray.data_append, Array.toList_append]
  rfl
set_option maxRecDepth 100000 in
set_option maxHeartbeats 8000000 in
theorem rpread_in {w : World} {k : RB} {A : Dk.St} (i : Nat) (h : XD w k A) (hi : i < many A.n) (hd : A.down = false) :
    Calls Try.prog 48 #[.pointer (some ⟨k.g, 0, none⟩), .int .i64 (i : Int)] w fun e w' => e = .returned (readPV (Pg.read A i)) ∧ Below w.heap.size w w' := by
  have hnb := h.nb
  have hmany : i ≤ 1100 := by unfold many at hi; omega
  have hin4 : 2 + 4 * i + 4 ≤ A.n := by unfold many at hi; omega
  have hb0 : Below w.heap.size w (w.alloc (.cells #[.int .i64 0, .int .i64 0, .int .i64 0, .string ⟨#[]⟩] 56 (0, 0))) := (Below.refl _ _).alloc (Nat.le_refl _) _
  have HX0 := Lib.hid (h.below hb0)
  have HRN : Hid (∀ m : Nat, m < 4 → Calls Try.prog 23 #[.pointer (some ⟨k.g, 0, none⟩), .int .i64 (2 + 4 * (i : Int) + (m : Int))] (w.alloc (.cells #[.int .i64 0, .int .i64 0, .int .i64 0, .string ⟨#[]⟩] 56 (0, 0))) fun e w' => e = .returned (.string ⟨(A.at_ (2 + 4 * i + m)).toArray⟩) ∧ (w.alloc (.cells #[.int .i64 0, .int .i64 0, .int .i64 0, .string ⟨#[]⟩] 56 (0, 0))) = w') := fun m hm => by
    have := rnow_any (2 + 4 * i + m) HX0.out (by omega)
    rwa [show ((2 + 4 * i + m : Nat) : Int) = 2 + 4 * (i : Int) + (m : Int) by omega] at this
  have HZL : Hid (∀ m : Nat, m < 4 → (⟨(preL A (2 + 4 * i) m).toArray⟩ : ByteArray).size ≤ 256 ∧ (⟨(A.at_ (2 + 4 * i + m)).toArray⟩ : ByteArray).size ≤ 256) := fun m hm => by
    have h1 := pre_len h.good (2 + 4 * i) m (by omega)
    have h2 := pre_len h.good (2 + 4 * i) (m + 1) (by omega)
    rw [preL, List.length_append] at h2
    refine ⟨?_, ?_⟩
    · show (preL A (2 + 4 * i) m).length ≤ 256
      omega
    · show (A.at_ (2 + 4 * i + m)).length ≤ 256
      omega
  have HRV : Hid (Pg.read A i = if (Pg.get (sects A (2 + 4 * i))).2 ≠ 0 then (zero, (Pg.get (sects A (2 + 4 * i))).2) else if (Pg.get (sects A (2 + 4 * i))).1.id ≠ i then (zero, 14) else Pg.get (sects A (2 + 4 * i))) := by
    unfold Pg.read
    rw [if_neg (by omega), if_neg (by simp [hd]), Int.toNat_natCast i]
    exact rfl
  have HM := Lib.hid (fun w => rmany_any A.n w hnb)
  have HQ0 := Lib.hid hb0
  have HZ0 := Lib.hid (ZBox.new w)
  have hiI : (i : Int) < (many A.n : Nat) := by omega
  have x0 := HX0.out.c0
  have x5 := HX0.out.c5
  rw [hd] at x5
  clear h hb0 hd
  go_enter Try.func48, Try.ntmps48
  go_wp2_with fail
  refine (HM.out _).mono ?_
  rintro en w' ⟨rfl, rfl⟩
  go_wp2_with fail
  rw [show decide ((i : Int) < 0) = false by rw [decide_eq_false_iff_not]; omega, Bool.false_or, show decide (many A.n ≤ i) = false by rw [decide_eq_false_iff_not]; omega]
  clear x0 x5 hiI hi
  generalize w.alloc (.cells #[.int .i64 0, .int .i64 0, .int .i64 0, .string ⟨#[]⟩] 56 (0, 0)) = w1 at *
  go_loop [6, 7] (fun v j => ∃ m : Nat, m ≤ 4 ∧ j = .int .i64 m ∧ v = .string ⟨(preL A (2 + 4 * i) m).toArray⟩) (fun _ j => 100 - (intOf j).toNat)
  case atStart => exact ⟨0, by omega, rfl, rfl⟩
  case round =>
    obtain ⟨m, hm, rfl, rfl⟩ := hrel
    by_cases h4 : m < 4
    · have h4I : (m : Int) < 4 := by omega
      have HRm := Lib.hid (HRN.out m h4)
      have HPN := Lib.hid (pre_next A (2 + 4 * i) m)
      obtain ⟨z1, z2⟩ := HZL.out m h4
      generalize (⟨(preL A (2 + 4 * i) m).toArray⟩ : ByteArray) = L at *
      generalize (⟨(A.at_ (2 + 4 * i + m)).toArray⟩ : ByteArray) = M at *
      go_wp2_with fail
      refine HRm.out.mono ?_
      rintro en w' ⟨rfl, rfl⟩
      go_wp2_with fail
      go_round
      case rel => exact ⟨m + 1, by omega, by go_num, by rw [HPN.out]⟩
      case measure => simp [intOf]; omega
    · obtain rfl : m = 4 := by omega
      rw [show ((4 : Nat) : Int) = 4 from rfl, pre_sects]
      have HG := Lib.hid (fun w => rpget_any ⟨(sects A (2 + 4 * i)).toArray⟩ w)
      rw [show (⟨(sects A (2 + 4 * i)).toArray⟩ : ByteArray).data.toList = sects A (2 + 4 * i) from rfl] at HG
      clear HRN HX0 HZL
      generalize (⟨(sects A (2 + 4 * i)).toArray⟩ : ByteArray) = L at *
      unfold getV at HG
      generalize Pg.get (sects A (2 + 4 * i)) = G at *
      obtain ⟨⟨gi, ge, gk, gs⟩, gr⟩ := G
      unfold pageV at HG
      simp only at HG HRV
      go_wp2_with fail
      refine (HG.out _).mono ?_
      rintro en w5 ⟨rfl, hb5⟩
      have hz := lt_of_block HZ0.out
      have hbx5 := HZ0.out.below hb5 hz
      obtain ⟨c0, c1, c2, c3, f0, f1, f2, f3⟩ := hbx5.q
      have HB5 := Lib.hid (HQ0.out.trans (hb5.mono HQ0.out.size))
      have hz5 : w.heap.size < w5.heap.size := lt_of_block hbx5
      clear hb5 hbx5 HG hz
      by_cases hr : gr = 0
      · subst hr
        by_cases hid : gi = (i : Int)
        · subst hid
          go_wp2_with fail
          refine bodyPost_ret (v := readPV (⟨(i : Int), ge, gk, gs⟩, 0)) (by unfold readPV pageV; simp [results, Try.results48, go_sem, c0, c1, c2, c3, World.cell?_alloc_lt, hz5]) rfl ⟨?_, ?_⟩
          · rw [HRV.out, if_neg (by simp), if_neg (by simp)]
          · first | exact ((((HB5.out.alloc HB5.out.size _).setCell (Nat.le_refl _) _).setCell (Nat.le_refl _) _).setCell (Nat.le_refl _) _).setCell (Nat.le_refl _) _ | exact ((((HB5.out.setCell (Nat.le_refl _) _).setCell (Nat.le_refl _) _).setCell (Nat.le_refl _) _).setCell (Nat.le_refl _) _).alloc (by simp; exact HB5.out.size) _
        · have hib : (gi != (i : Int)) = true := by rw [bne_iff_ne]; exact hid
          go_wp2_with fail
          refine bodyPost_ret (v := readPV (zero, 14)) (by unfold readPV pageV zero; simp [results, Try.results48, go_sem, c0, c1, c2, c3, World.cell?_alloc_lt, hz5]) rfl ⟨?_, ?_⟩
          · rw [HRV.out, if_neg (by simp), if_pos hid]
          · first | exact ((((HB5.out.alloc HB5.out.size _).setCell (Nat.le_refl _) _).setCell (Nat.le_refl _) _).setCell (Nat.le_refl _) _).setCell (Nat.le_refl _) _ | exact ((((HB5.out.setCell (Nat.le_refl _) _).setCell (Nat.le_refl _) _).setCell (Nat.le_refl _) _).setCell (Nat.le_refl _) _).alloc (by simp; exact HB5.out.size) _
      · have hrb : (gr != 0) = true := by rw [bne_iff_ne]; exact hr
        go_wp2_with fail
        refine bodyPost_ret (v := readPV (zero, gr)) (by unfold readPV pageV zero; simp [results, Try.results48, go_sem, c0, c1, c2, c3, World.cell?_alloc_lt, hz5]) rfl ⟨?_, ?_⟩
        · rw [HRV.out, if_pos hr]
        · first | exact ((((HB5.out.alloc HB5.out.size _).setCell (Nat.le_refl _) _).setCell (Nat.le_refl _) _).setCell (Nat.le_refl _) _).setCell (Nat.le_refl _) _ | exact ((((HB5.out.setCell (Nat.le_refl _) _).setCell (Nat.le_refl _) _).setCell (Nat.le_refl _) _).setCell (Nat.le_refl _) _).alloc (by simp; exact HB5.out.size) _
theorem rpread_any {w : World} {k : RB} {A : Dk.St} (id : Int) (h : XD w k A) :
    Calls Try.prog 48 #[.pointer (some ⟨k.g, 0, none⟩), .int .i64 id] w fun e w' => e = .returned (readPV (Pg.read A id)) ∧ Below w.heap.size w w' := by
  by_cases ho : id < 0 ∨ (many A.n : Int) ≤ id
  · have e : Pg.read A id = (zero, 3) := by unfold Pg.read; rw [if_pos ho]
    rw [e]
    exact rpread_out id h ho
  · obtain ⟨i, rfl⟩ := Int.eq_ofNat_of_zero_le (show 0 ≤ id by omega)
    cases hd : A.down
    · exact rpread_in i h (by omega) hd
    · have e : Pg.read A (i : Int) = (zero, 13) := by unfold Pg.read; rw [if_neg ho, if_pos hd]
      rw [e]
      exact rpread_down i h (by omega) hd
end Go.Proofs.Ytpjpncfoenadhaa
