/- DiskImages: a disk of an image has its bytes, and bytes 0 behind them, all safe. No condition. -/
import Derived.Test.YtpjpncfoenadhaaDiskOpen
import Derived.Deep.DeepCutAuto
import Derived.Laws.Concat
namespace Go.Proofs.Ytpjpncfoenadhaa
open Go.ChangeShapes Go.WideShapes Go.ChangeAt Go.RowKit Go.ChangeMaps Dk

/-- the image, and bytes 0 behind it -/
def imgZ (s : List UInt8) (n : Nat) : List UInt8 := s ++ List.replicate (64 * n - s.length) 0
def imgA (s : List UInt8) (n m : Nat) : ByteArray := ⟨((imgZ s n).take (64 * m)).toArray⟩
theorem imgZ_len (s : List UInt8) (n : Nat) (h : s.length ≤ 64 * n) : (imgZ s n).length = 64 * n := by
  simp only [imgZ, List.length_append, List.length_replicate]
  omega
theorem imgZ_sec (s : List UInt8) (n m : Nat) (h : s.length ≤ 64 * n) (hm : m < n) : fill (s.drop (64 * m)) = ((imgZ s n).drop (64 * m)).take 64 := by
  have hl := imgZ_len s n h
  apply List.ext_getElem
  · rw [fill_length, List.length_take, List.length_drop, hl]
    omega
  · intro j h1 h2
    rw [fill_length] at h1
    simp only [fill, imgZ, List.getElem_take, List.getElem_drop, List.getElem_append, List.length_drop, List.getElem_replicate]
    by_cases hj : 64 * m + j < s.length
    · rw [dif_pos (by omega), dif_pos hj]
    · rw [dif_neg (by omega), dif_neg hj]
theorem imgA_size (s : List UInt8) (n m : Nat) (h : s.length ≤ 64 * n) (hm : m ≤ n) : (imgA s n m).size = 64 * m := by
  show ((imgZ s n).take (64 * m)).toArray.size = _
  rw [List.size_toArray, List.length_take, imgZ_len s n h]
  omega
theorem imgA_succ (s : List UInt8) (n m : Nat) (h : s.length ≤ 64 * n) (hm : m < n) : imgA s n m ++ ⟨(fill (s.drop (64 * m))).toArray⟩ = imgA s n (m + 1) := by
  unfold imgA
  rw [ByteArray.mk_append_mk, imgZ_sec s n m h hm, show 64 * (m + 1) = 64 * m + 64 by omega, List.take_add]
theorem imgA_zero (s : List UInt8) (n : Nat) : imgA s n 0 = ⟨#[]⟩ := by simp [imgA]
theorem imgA_head (s : ByteArray) (n : Nat) (h : s.size ≤ 64 * n) : (imgA s.data.toList n n).extract 0 s.size = s := by
  obtain ⟨⟨l⟩⟩ := s
  have hl : (ByteArray.mk ⟨l⟩).size = l.length := rfl
  rw [hl] at h ⊢
  unfold imgA
  simp only [ByteArray.extract_mk]
  congr 1
  apply Array.ext'
  have e : List.take (64 * n) (l ++ List.replicate (64 * n - l.length) 0) = l ++ List.replicate (64 * n - l.length) 0 := List.take_of_length_le (by simp; omega)
  simp only [imgZ, e]
  simp
theorem imgA_tail (s : ByteArray) (n i : Nat) (_h : s.size ≤ 64 * n) (hi : s.size ≤ i) (h2 : i < (imgA s.data.toList n n).size) : (imgA s.data.toList n n)[i] = 0 := by
  have hl : s.data.toList.length = s.size := by simp
  show (imgA s.data.toList n n).data[i] = 0
  simp only [imgA, imgZ, List.getElem_toArray, List.getElem_take]
  rw [List.getElem_append_right (by omega), List.getElem_replicate]
theorem img_crash (s : List UInt8) (n i : Nat) (c : Cr) : (imgSt s n i).crash c = imgSt s n i := by
  have h : ∀ (l : List Sec) (j : Nat), (∀ x ∈ l, x.is = false) → crashL c j l = l := by
    intro l
    induction l with
    | nil => intro j _; rfl
    | cons x r ih =>
      intro j hx
      unfold crashL
      rw [if_neg (by simp [hx x List.mem_cons_self]), ih j (fun y hy => hx y (List.mem_cons_of_mem _ hy))]
  have e : crashL c 0 (imgSt s n i).secs = (imgSt s n i).secs := h _ 0 (fun x hx => img_is s n i x hx)
  unfold St.crash
  rw [e]
  rfl
theorem img_at (s : List UInt8) (n m : Nat) (hm : m < n) : (imgSt s n n).at_ m = fill (s.drop (64 * m)) := by
  simp [St.at_, imgSt, List.getD_eq_getElem?_getD, hm, imgSec, Sec.now]
/-- what the parameter's box leaves -/
structure ImgW (w : World) (P : Option Addr) (len cap : Nat) (c : Cr) (wx : World) : Prop where
  box : Box wx w.heap.size P len cap c
  k : Bools w.heap.size wx P len c.keep
  b : Below w.heap.size w wx
  z : w.heap.size < wx.heap.size
/-- what the first loop leaves -/
structure ImgAll (img A : ByteArray) : Prop where
  lo : img.size ≤ A.size
  hi : A.size < img.size + 64
  top : A.size ≤ 4000
  head : A.extract 0 img.size = img
  tail : ∀ (i : Nat) (h : i < A.size), img.size ≤ i → A[i] = 0
theorem img_all (img : ByteArray) (h1 : 1 ≤ img.size) (h2 : img.size ≤ 3000) : ImgAll img (imgA img.data.toList ((img.size + 63) / 64) ((img.size + 63) / 64)) := by
  have hl : img.data.toList.length = img.size := by simp
  have hn : img.size ≤ 64 * ((img.size + 63) / 64) := by omega
  have hs := imgA_size img.data.toList ((img.size + 63) / 64) _ (by omega) (Nat.le_refl _)
  exact ⟨by omega, by omega, by omega, imgA_head img _ hn, fun i h hi => imgA_tail img _ i hn hi h⟩
set_option maxRecDepth 100000 in
set_option maxHeartbeats 8000000 in
theorem images_any (s : ByteArray) (c : Cr) (P : Option Addr) (len cap : Nat) (w : World) (hs : s.size ≤ 9223372036854775807) (hk : Bools w.heap.size w P len c.keep) :
    Calls Try.prog 8 #[.string s, .agg #[.slice P len cap, .int .i64 c.torn, .int .i64 c.bytes]] w fun e w' => e = .returned (.bool true) ∧ Below w.heap.size w w' := by
  have hb0 : Below w.heap.size w (w.alloc (boxV P len cap c.torn c.bytes)) := (Below.refl _ w).alloc (Nat.le_refl _) _
  have HI : Hid (ImgW w P len cap c (w.alloc (.cells #[.slice P len cap, .int .i64 c.torn, .int .i64 c.bytes] 25 (0, 0)))) :=
    ⟨Box.new w P len cap c, hk.touch (Touch.of_below (lo := w.heap.size) (hi := w.heap.size) hb0) (Nat.le_refl _), hb0, by simp⟩
  clear hb0 hk
  go_enter Try.func8, Try.ntmps8
  go_upto_if 14 with (fail)
  go_cut [0] (fun v wx => ∃ img : ByteArray, v = .string img ∧ img.size ≤ 3000 ∧ Hid (ImgW w P len cap c wx))
  case first =>
    by_cases h3 : s.size ≤ 3000
    · have h3I : ¬ (3000 : Int) < (s.size : Int) := by omega
      go_wp2_with fail
      go_meet
      exact ⟨s, rfl, h3, HI⟩
    · have h3I : (3000 : Int) < (s.size : Int) := by omega
      go_wp2_with fail
      go_meet
      exact ⟨s.extract 0 3000, rfl, by simp; omega, HI⟩
  case rest =>
    obtain ⟨img, rfl, h3, hI⟩ := hcut
    clear HI hs
    by_cases h0 : img.size = 0
    · obtain rfl : img = ⟨#[]⟩ := by
        obtain ⟨⟨l⟩⟩ := img
        have : l.length = 0 := h0
        rw [List.length_eq_zero_iff.1 this]
      clear h0 h3
      go_wp2_with fail
      refine (of_none _).mono ?_
      rintro e w1 ⟨rfl, rfl⟩
      go_wp2_with fail
      refine (awake_any _).mono ?_
      rintro e w2 ⟨rfl, hb⟩
      have HB2 := Lib.hid (hI.out.b.trans (hb.mono hI.out.b.size))
      clear hb
      go_wp2_with fail
      go_ret
      exact ⟨rfl, HB2.out⟩
    · have HO := Lib.hid (img_all img (by omega) h3)
      have HX : Hid (∀ m, m < (img.size + 63) / 64 → imgA img.data.toList ((img.size + 63) / 64) m ++ ⟨((imgSt img.data.toList ((img.size + 63) / 64) ((img.size + 63) / 64)).at_ m).toArray⟩ = imgA img.data.toList ((img.size + 63) / 64) (m + 1)) := fun m hm => by
        rw [img_at _ _ _ hm]
        exact imgA_succ _ _ _ (by rw [show img.data.toList.length = img.size by simp]; omega) hm
      have HY : Hid (∀ m, m ≤ (img.size + 63) / 64 → (imgA img.data.toList ((img.size + 63) / 64) m).size = 64 * m) := fun m hm => imgA_size _ _ _ (by rw [show img.data.toList.length = img.size by simp]; omega) hm
      have HC : Hid (∀ m, ((imgSt img.data.toList ((img.size + 63) / 64) ((img.size + 63) / 64)).at_ m).length = 64) := fun m => by
        by_cases hm : m < (img.size + 63) / 64
        · rw [img_at _ _ _ hm, fill_length]
        · simp [St.at_, imgSt, List.getD_eq_getElem?_getD, hm, none_, Sec.now]
      have HZ := Lib.hid (imgA_zero img.data.toList ((img.size + 63) / 64))
      have HR := Lib.hid (img_crash img.data.toList ((img.size + 63) / 64) ((img.size + 63) / 64) c)
      have HF := fun w => of_any img w (by omega) h3
      have HN := Lib.hid (n_img img.data.toList ((img.size + 63) / 64) ((img.size + 63) / 64))
      have h64 : (img.size + 63) / 64 ≤ 50 := by omega
      have HD : Hid ((imgSt img.data.toList ((img.size + 63) / 64) ((img.size + 63) / 64)).down = false) := rfl
      generalize imgSt img.data.toList ((img.size + 63) / 64) ((img.size + 63) / 64) = B at *
      generalize (img.size + 63) / 64 = n at *
      generalize imgA img.data.toList n = F at *
      have HF := Lib.hid HF
      have he : ((img.size : Int) == 0) = false := by rw [beq_eq_false_iff_ne]; omega
      clear h0
      go_wp2_with fail
      refine (HF.out _).mono ?_
      rintro e w1 ⟨k, rfl, hp, hlo, hb⟩
      have hz := hI.out.z
      have hbx := hI.out.box.touch (Touch.of_below (lo := 0) (hi := 0) hb) (Nat.zero_le _)
      have q0 := hbx.c0
      have q1 := hbx.c1
      have q2 := hbx.c2
      have HK := Lib.hid ((hI.out.k.touch (Touch.of_below (lo := w.heap.size) (hi := w.heap.size) hb) (Nat.le_refl _)).lift (lo' := k.lo) (by omega))
      have HP := Lib.hid hp
      have HL := Lib.hid (show w.heap.size ≤ k.lo by omega)
      have HB := Lib.hid (hI.out.b.trans (hb.mono (Nat.le_of_lt hz)))
      clear hp hlo hb hz hbx hI HF
      go_wp2_with fail
      refine (crash_any (c := c) HP.out HK.out).mono ?_
      rintro e w2 ⟨rfl, hp2, ht2⟩
      rw [HR.out] at hp2
      have HP2 := Lib.hid hp2
      have HB2 := Lib.hid (HB.out.trans (ht2.below HL.out HB.out.size))
      clear hp2 ht2 HP HB HR HK q0 q1 q2 HL
      go_wp2_with fail
      rw [← HZ.out]
      go_loop [7, 8] (fun a i => ∃ m : Nat, m ≤ n ∧ i = .int .i64 m ∧ a = .string (F m)) (fun _ i => 100 - (intOf i).toNat)
      case atStart => exact ⟨0, Nat.zero_le _, rfl, rfl⟩
      case round =>
        obtain ⟨m, hm, rfl, rfl⟩ := hrel
        have HS := Lib.hid (sectors_any HP2.out)
        rw [HN.out] at HS
        have hsz := HY.out m hm
        by_cases hlt : m < n
        · have HRd := Lib.hid (read_in m HP2.out HD.out (by rw [HN.out]; exact hlt))
          have HE := HX.out m hlt
          have hc := HC.out m
          generalize B.at_ m = q at *
          have e1 : ¬ (F m).size + q.toArray.size > 9223372036854775807 := by simp only [List.size_toArray]; omega
          go_wp2_with fail
          refine HS.out.mono ?_
          rintro e w' ⟨rfl, rfl⟩
          go_wp2_with fail
          refine HRd.out.mono ?_
          rintro e w' ⟨rfl, rfl⟩
          go_wp2_with fail
          go_round
          case rel => exact ⟨m + 1, by omega, by go_num, rfl⟩
          case measure => simp [intOf]; omega
        · obtain rfl : m = n := by omega
          have a1 := HO.out.lo
          have a2 := HO.out.hi
          have a3 := HO.out.top
          have a4 := HO.out.head
          clear hsz
          generalize F m = A at *
          go_wp2_with fail
          refine HS.out.mono ?_
          rintro e w' ⟨rfl, rfl⟩
          go_wp2_with fail
          go_loop [11] (fun i => ∃ j : Nat, img.size ≤ j ∧ j ≤ A.size ∧ i = .int .i64 j) (fun i => A.size - (intOf i).toNat)
          case atStart => exact ⟨img.size, Nat.le_refl _, a1, rfl⟩
          case round =>
            obtain ⟨j, hj, hj2, rfl⟩ := hrel
            by_cases hl : j < A.size
            · have hl0 := HO.out.tail j hl hj
              go_wp2_with fail
              go_round
              case rel => exact ⟨j + 1, by omega, by omega, by go_num⟩
              case measure => simp [intOf]; omega
            · obtain rfl : j = A.size := by omega
              go_wp2_with fail
              refine (awake_any _).mono ?_
              rintro e w3 ⟨rfl, hb⟩
              have HB3 := Lib.hid (HB2.out.trans (hb.mono HB2.out.size))
              clear hb
              go_wp2_with fail
              go_ret
              exact ⟨rfl, HB3.out⟩
set_option maxRecDepth 100000 in
theorem images_law : Frame.LawCalls 8 Try.f8 := by
  intro H enc W base args ds p hval hA _ _ _
  rw [Try.params8] at hA hval
  obtain ⟨v0, vs0, d0, ds0, p0, q0, hargs, rfl, rfl, h0, r0⟩ := trodAll_cons hA
  obtain ⟨v1, vs1, d1, ds1, p1, q1, rfl, rfl, rfl, h1, r1⟩ := trodAll_cons r0
  obtain ⟨rfl, rfl, rfl⟩ := trodAll_nil r1
  obtain rfl : args = #[v0, v1] := by cases args; simp_all
  obtain ⟨s, rfl, rfl, rfl, ws⟩ := open_string Try.underlying9 (hval 0 9 v0 rfl rfl) h0
  obtain ⟨c, P, len, cap, rfl, hk⟩ := crash_args (hval 1 25 v1 rfl rfl) h1
  rw [max_is] at ws
  exact images_any s c P len cap W ws hk
set_option maxRecDepth 100000 in
theorem images_lifted (os : Os) (started : os.Started) (H : Type) (enc : TypeId × Value → H) :
    ReturnsInHanded {} Try.checked os 8 .any (Rows.diskImagesSpec.pre6 enc Try.prog Try.f8 Rows.diskImagesRow.domain false) (Rows.diskImagesSpec.post enc Try.prog Try.f8 false true false false) :=
  Frame.lifted (s := Rows.diskImagesSpec) (by kernel_rfl) Try.func8 (by kernel_rfl) rfl (tb := 4) (by kernel_rfl) Try.underlying4
    (fun H ds h => by
      obtain ⟨d, e, rfl⟩ := two_data ds h
      rfl) images_law os started H enc
    (ChangeSpec.witness6 (enc := enc) (C := Try.checked) false ⟨#[], #[.string ⟨#[]⟩, .agg #[.slice none 0 0, .int .i64 0, .int .i64 0]], []⟩ 8 (by kernel_rfl) (by kernel_rfl) (by kernel_rfl) (by kernel_rfl))
theorem images_holds : Rows.DiskImagesSaid :=
  OpenClaim.holds_of_wide 8 Try.f8 rfl rfl rfl rfl rfl rfl rfl ⟨rfl, rfl, rfl, rfl, rfl⟩ rfl rfl rfl rfl rfl (by kernel_rfl) Try.func8 (by kernel_rfl)
    (of_decide_eq_true (by kernel_rfl)) (by unfold Func.isWrapper; first | (rw [if_pos (by decide +kernel)]; kernel_rfl) | (rw [if_neg (by decide +kernel)]; exact ⟨rfl, rfl⟩))
    (fun os started H enc _ => images_lifted os started H enc)
#print axioms images_holds
end Go.Proofs.Ytpjpncfoenadhaa
