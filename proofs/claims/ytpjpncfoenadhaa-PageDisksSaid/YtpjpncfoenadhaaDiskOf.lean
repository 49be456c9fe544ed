/- The program's Of: a disk of an image. Condition: the image has at most 3000 bytes. -/
import Derived.Test.YtpjpncfoenadhaaDiskNew
import Derived.Test.YtpjpncfoenadhaaDiskWrite
namespace Go.Proofs.Ytpjpncfoenadhaa
open Go.RowKit Dk

def imgSec (s : List UInt8) (i j : Nat) : Sec := if j < i then ⟨fill (s.drop (64 * j)), List.replicate 64 0, false⟩ else none_
def imgSt (s : List UInt8) (n i : Nat) : St := ⟨(List.range n).map (imgSec s i), 0, 0, false⟩
theorem img_zero (s : List UInt8) (n : Nat) : imgSt s n 0 = made n := by
  unfold imgSt made
  congr 1
  apply List.ext_getElem
  · simp
  · intro j h1 h2
    simp [imgSec]
theorem n_img (s : List UInt8) (n i : Nat) : (imgSt s n i).n = n := by simp [imgSt, St.n]
theorem img_good (s : List UInt8) (n i : Nat) (hn : n ≤ 4096) : (imgSt s n i).Good := by
  refine ⟨fun x hx => ?_, by simp [imgSt], by simp [imgSt], by simpa [imgSt] using hn⟩
  simp only [imgSt, List.mem_map] at hx
  obtain ⟨j, _, rfl⟩ := hx
  unfold imgSec
  split
  · exact ⟨fill_length _, by simp⟩
  · exact ⟨rfl, rfl⟩
theorem img_is (s : List UInt8) (n i : Nat) (x : Sec) (hx : x ∈ (imgSt s n i).secs) : x.is = false := by
  simp only [imgSt, List.mem_map] at hx
  obtain ⟨j, _, rfl⟩ := hx
  unfold imgSec
  split <;> rfl
theorem img_now (s : List UInt8) (n i : Nat) (hi : i < n) : (nowL (imgSt s n i)).set i (fill (s.drop (64 * i))) = nowL (imgSt s n (i + 1)) := by
  apply List.ext_getElem?
  intro j
  by_cases e : i = j
  · subst e
    rw [List.getElem?_set_self (by simpa [nowL, imgSt] using hi)]
    simp [nowL, imgSt, hi, imgSec, Sec.now]
  · rw [List.getElem?_set_ne e]
    simp only [nowL, imgSt, List.map_map, List.getElem?_map]
    cases hj : (List.range n)[j]? with
    | none => rfl
    | some q =>
      have : q = j := by
        rw [List.getElem?_range (by
          have := (List.getElem?_eq_some_iff.1 hj).1
          simpa using this)] at hj
        exact (Option.some.inj hj).symm
      subst this
      simp only [Option.map_some, Function.comp, imgSec]
      by_cases h : q < i
      · rw [if_pos h, if_pos (by omega)]
      · rw [if_neg h, if_neg (by omega)]
/-- a sector that is not loose is filled -/
theorem PD.refill {w w' : World} {k : DB} {s : List UInt8} {n i : Nat} (h : PD w k (imgSt s n i)) (ht : Touch k.a (k.a + 1) w w')
    (hn : w'.heap[k.a]? = some (.cells (bs (nowL (imgSt s n (i + 1))).flatten).toArray 83 (0, 0))) : PD w' k (imgSt s n (i + 1)) := by
  have ok := h.ok
  have hin := h.inn
  have hbig := h.nb
  rw [n_img] at hbig
  have st : ∀ j, k.lo ≤ j ∧ j < k.hi → j ≠ k.a → w'.heap[j]? = w.heap[j]? := fun j hj hne => ht.block j (by omega) (by omega)
  obtain ⟨L, h1, h2⟩ := h.old
  refine ⟨ok, Nat.le_trans hin ht.size, img_good s n _ hbig, ?_, hn, ⟨L, ⟨?_, h1.2.1, fun j x hx hxi => ?_⟩, (st _ ok.b ok.ab.symm).trans h2⟩, ?_⟩
  · rw [st _ ok.g ok.ga, h.head]
    unfold headV
    rw [n_img, n_img]
    rfl
  · rw [h1.1, n_img, n_img]
  · rw [img_is s n (i + 1) x (List.mem_of_getElem? hx)] at hxi
    cases hxi
  · rw [st _ ok.c ok.ac.symm, h.loose]
    congr 3
    apply List.ext_getElem
    · simp [imgSt]
    · intro j h3 h4
      rw [List.getElem_map, List.getElem_map, img_is s n i _ (List.getElem_mem _), img_is s n (i + 1) _ (List.getElem_mem _)]
theorem ext_data (s : ByteArray) (i : Nat) : (s.extract i s.size).data.toList = s.data.toList.drop i := by
  obtain ⟨⟨l⟩⟩ := s
  have : (ByteArray.mk ⟨l⟩).size = l.length := rfl
  simp only [ByteArray.extract_mk, this]
  exact List.take_of_length_le (by simp)
theorem copy_img {w : World} {k : DB} {s : List UInt8} {n i : Nat} (h : PD w k (imgSt s n i)) (hi : i < n) :
    splice (bs (nowL (imgSt s n i)).flatten) (i * 64) (bs ((s.drop (i * 64)).take 64)) = bs (nowL (imgSt s n (i + 1))).flatten := by
  have hn := h.nowl
  rw [n_img] at hn
  have hi' : i < (nowL (imgSt s n i)).length := by omega
  have hs : (nowL (imgSt s n i))[i] = List.replicate 64 0 := by simp [nowL, imgSt, imgSec, Sec.now, none_]
  have e := flat_splice (nowL (imgSt s n i)) h.nowlen i 0 hi' ((s.drop (i * 64)).take 64) (by rw [List.length_take]; omega)
  rw [bs_splice, show i * 64 = 64 * i + 0 by omega, Nat.add_zero, ← Nat.add_zero (64 * i), Nat.add_zero (64 * i)]
  rw [Nat.add_zero, show i * 64 = 64 * i by omega] at e
  rw [e, ← img_now s n i hi, hs]
  congr 3
  generalize s.drop (64 * i) = t
  unfold splice fill
  rw [List.take_zero, List.nil_append, Nat.zero_add, List.drop_replicate, List.length_take]
  by_cases hs : t.length ≤ 64
  · rw [List.take_of_length_le hs, Nat.min_eq_right hs, List.take_append, List.take_of_length_le hs, List.take_replicate, Nat.min_eq_left (by omega)]
  · rw [Nat.min_eq_left (by omega), List.take_append_of_le_length (by omega)]
    simp
structure OfR (w : World) (k : DB) (s : List UInt8) (n i : Nat) (wr : World) : Prop where
  pd : PD wr k (imgSt s n i)
  b : Below w.heap.size w wr
set_option maxRecDepth 100000 in
set_option maxHeartbeats 2000000 in
theorem of_none (w : World) : Calls Try.prog 32 #[.string ⟨#[]⟩] w fun e w' => e = .returned (.tuple #[.pointer none, .int .i64 2]) ∧ w = w' := by
  go_enter Try.func32, Try.ntmps32
  go_wp2_with fail
  refine (new_out 0 w (by omega)).mono ?_
  rintro e w' ⟨rfl, rfl⟩
  go_wp2_with fail
  go_ret2
  exact ⟨rfl, rfl⟩
set_option maxRecDepth 100000 in
set_option maxHeartbeats 2000000 in
theorem of_any (s : ByteArray) (w : World) (h1 : 1 ≤ s.size) (h2 : s.size ≤ 3000) : Calls Try.prog 32 #[.string s] w fun e w' => ∃ k : DB, e = .returned (.tuple #[.pointer (some ⟨k.g, 0, none⟩), .int .i64 0]) ∧
    PD w' k (imgSt s.data.toList ((s.size + 63) / 64) ((s.size + 63) / 64)) ∧ k.lo = w.heap.size ∧ Below w.heap.size w w' := by
  have HN := Lib.hid (new_in ((s.size + 63) / 64) w (by omega) (by omega))
  have hq : ((s.size : Int) + 64 - 1).tdiv 64 = (((s.size + 63) / 64 : Nat) : Int) := by
    rw [Int.tdiv_eq_ediv_of_nonneg (by omega)]
    omega
  generalize hn : (s.size + 63) / 64 = n at *
  go_enter Try.func32, Try.ntmps32
  go_wp2_with fail
  refine HN.out.mono ?_
  rintro e w1 ⟨k, rfl, hp, hlo, hb⟩
  have h0 := hp.c0
  rw [show (made n).n = n by simp [made, St.n]] at h0
  have HI := Lib.hid (show OfR w k s.data.toList n 0 w1 from ⟨by rw [img_zero]; exact hp, hb⟩)
  have HL := Lib.hid hlo
  have hq2 : 64 * n ≤ s.size + 63 := by omega
  have hn2 : n ≤ 4096 := by omega
  clear hp hlo hb HN hq hn
  go_wp2_with fail
  clear h0
  go_loopw [27] (fun i wr => ∃ m : Nat, m ≤ n ∧ i = .int .i64 m ∧ Hid (OfR w k s.data.toList n m wr)) (fun i _ => 4096 - (intOf i).toNat)
  case atStart => exact ⟨0, Nat.zero_le _, rfl, HI⟩
  case round =>
    obtain ⟨i, hi, rfl, hR⟩ := hrel
    have h0 := hR.out.pd.c0
    rw [n_img] at h0
    by_cases hlt : i < n
    · have hm : IntKind.i64.wrap ((i : Int) * 64) = (i : Int) * 64 := IntWalk.i64_in _ (by omega)
      have hm1 : (i : Int) * 64 ≤ (s.size : Int) := by omega
      have hm0 : (0 : Int) ≤ (i : Int) * 64 := by omega
      go_wp2_with fail
      go_still_tail 11, (by kernel_rfl)
      change wpList _ _ _ _ _ wr.drew
      have hd : Below wr.heap.size wr wr.drew := below_drewN (Below.refl _ _) 1
      have HR2 := Lib.hid (show OfR w k s.data.toList n i wr.drew from ⟨hR.out.pd.below hd, hR.out.b.trans (hd.mono hR.out.b.size)⟩)
      clear hd hR h0 hm
      generalize wr.drew = w2 at *
      have hp2 := HR2.out.pd
      have hnl := flat_length _ hp2.nowlen
      have hn3 := hp2.nowl
      rw [n_img] at hn3
      rw [hn3] at hnl
      have hlo := hp2.ok
      have hF := Lib.hid (copy_img hp2 hlt)
      refine wpList_copy_text_at rfl (.tmp 36) (.tmp 40) 81 9 rfl 5 Try.underlying81 (by kernel_rfl) k.a (i * 64) 64 64 (s.extract ((i : Int) * 64).toNat s.size) rfl rfl (bs (nowL (imgSt s.data.toList n i)).flatten) 83 hp2.now (by rw [bs_length, hnl]; omega) ?_
      have e1 : ((i : Int) * 64).toNat = i * 64 := by omega
      have HT := Lib.hid (Touch.setRow (lo := k.a) (hi := k.a + 1) w2 ⟨Nat.le_refl _, Nat.lt_succ_self _⟩ (splice (bs (nowL (imgSt s.data.toList n i)).flatten) (i * 64) (bs ((s.extract ((i : Int) * 64).toNat s.size).data.toList.take 64))).toArray)
      have HH := Lib.hid (setRow_heap w2 k.a _ (splice (bs (nowL (imgSt s.data.toList n i)).flatten) (i * 64) (bs ((s.extract ((i : Int) * 64).toNat s.size).data.toList.take 64))).toArray _ (0, 0) hp2.now)
      have h3 : PD (w2.setRow k.a (splice (bs (nowL (imgSt s.data.toList n i)).flatten) (i * 64) (bs ((s.extract ((i : Int) * 64).toNat s.size).data.toList.take 64))).toArray) k (imgSt s.data.toList n (i + 1)) :=
        hp2.refill HT.out (by rw [HH.out, e1, ext_data, hF.out])
      have HR3 := Lib.hid (show OfR w k s.data.toList n (i + 1) (w2.setRow k.a (splice (bs (nowL (imgSt s.data.toList n i)).flatten) (i * 64) (bs ((s.extract ((i : Int) * 64).toNat s.size).data.toList.take 64))).toArray) from
        ⟨h3, HR2.out.b.trans (HT.out.below (B := w.heap.size) (by have := hlo.a; rw [← HL.out]; exact this.1) HR2.out.b.size)⟩)
      clear HT HH h3 hF hlo hnl hn3 hp2 HR2
      generalize w2.setRow k.a (splice (bs (nowL (imgSt s.data.toList n i)).flatten) (i * 64) (bs ((s.extract ((i : Int) * 64).toNat s.size).data.toList.take 64))).toArray = w3 at *
      go_wp2_with fail
      go_roundw
      case rel => exact ⟨i + 1, by omega, by go_num, HR3⟩
      case measure => simp [intOf]; omega
    · obtain rfl : i = n := by omega
      go_wp2_with fail
      go_ret2
      exact ⟨k, rfl, hR.out.pd, HL.out, hR.out.b⟩
end Go.Proofs.Ytpjpncfoenadhaa
