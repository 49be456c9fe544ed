/- CrcBits' walk: bytes of which one bit is turned have another check; laid ones are found out wherever the bit is. No condition. -/
import Derived.Test.YtbjkefodlnkaeaaCrcCut
import Derived.Test.YtbjkefodlnkaeaaData
import Derived.Lib.ConvBytes
import Derived.RegionTactic
import Derived.ChangeAlike
namespace Go.Proofs.Ytbjkefodlnkaeaa
open Go.RowKit

/-! plain: a byte that is another -/
theorem Crc.set_bad (l : List UInt8) (i : Nat) (c : UInt8) (hi : i < (Crc.lay l).length) (hc : c ≠ (Crc.lay l)[i]) :
    Crc.good ((Crc.lay l).set i c) = false ∧ (4 ≤ i → Crc.sum (((Crc.lay l).set i c).drop 4) ≠ Crc.sum l) := by
  have hl := Crc.lay_length l
  by_cases h4 : i < 4
  · refine ⟨?_, fun h => by omega⟩
    rw [Bool.eq_false_iff]
    intro hg
    unfold Crc.good at hg
    rw [decide_eq_true_eq, List.drop_set, if_pos h4, Crc.lay_drop] at hg
    have h1 : ((Crc.lay l).set i c)[i]? = (Crc.lay l)[i]? := by
      have e1 : ((Crc.lay l).set i c)[i]? = (((Crc.lay l).set i c).take 4)[i]? := by rw [List.getElem?_take, if_pos h4]
      have e2 : (Crc.lay l)[i]? = ((Crc.lay l).take 4)[i]? := by rw [List.getElem?_take, if_pos h4]
      rw [e1, e2, hg, Crc.lay_take]
    rw [List.getElem?_set_self hi, List.getElem?_eq_getElem hi] at h1
    exact hc (Option.some.inj h1)
  · have hj : i - 4 < l.length := by omega
    have hd : ((Crc.lay l).set i c).drop 4 = l.set (i - 4) c := by
      rw [List.drop_set, if_neg h4, Crc.lay_drop]
    have hget : (Crc.lay l)[i] = l[i - 4] := by
      have : (Crc.lay l)[i]? = l[i - 4]? := by
        rw [show i = 4 + (i - 4) by omega, ← List.getElem?_drop, Crc.lay_drop]
        congr 1
        omega
      rw [List.getElem?_eq_getElem hi, List.getElem?_eq_getElem hj] at this
      exact Option.some.inj this
    have hne : Crc.sum (l.set (i - 4) c) ≠ Crc.sum l := by
      intro h
      rw [List.set_eq_take_append_cons_drop, if_pos hj] at h
      have hl2 : l = l.take (i - 4) ++ l[i - 4] :: l.drop (i - 4 + 1) := by
        rw [← List.drop_eq_getElem_cons hj, List.take_append_drop]
      have h2 : Crc.sum (l.take (i - 4) ++ c :: l.drop (i - 4 + 1)) = Crc.sum (l.take (i - 4) ++ l[i - 4] :: l.drop (i - 4 + 1)) := by rw [← hl2]; exact h
      exact hc ((Crc.sum_ne _ _ _ _ h2).trans hget.symm)
    refine ⟨?_, fun _ => by rw [hd]; exact hne⟩
    rw [Bool.eq_false_iff]
    intro hg
    unfold Crc.good at hg
    rw [decide_eq_true_eq, hd, List.take_set_of_le (by omega), Crc.lay_take] at hg
    exact hne (Crc.four_inj _ _ (Crc.sum_lt _) (Crc.sum_lt _) hg).symm
theorem flip_bit (c : UInt8) (j : Nat) (hj : j < 8) : (c.toNat ^^^ 2 ^ j) < 256 ∧ UInt8.ofNat (c.toNat ^^^ 2 ^ j) ≠ c := by
  have h1 : 2 ^ j < 2 ^ 8 := Nat.pow_lt_pow_right (by omega) hj
  have h2 : c.toNat ^^^ 2 ^ j < 2 ^ 8 := Nat.xor_lt_two_pow c.toNat_lt h1
  refine ⟨h2, fun h => ?_⟩
  have h3 := congrArg UInt8.toNat h
  rw [UInt8.toNat_ofNat', Nat.mod_eq_of_lt h2] at h3
  have h4 : c.toNat ^^^ 2 ^ j = c.toNat ^^^ 0 := by rw [Nat.xor_zero]; exact h3
  have := Crc.xor_can _ _ _ h4
  have := Nat.two_pow_pos j
  omega

/-! memory: bytes of a text -/
def BytesAt (w : World) (g : Nat) (l : List UInt8) : Prop := ∀ j (h : j < l.length), w.cell? ⟨g, j, none⟩ = some (.int .u8 (l[j].toNat : Int)) ∧ w.frozen? ⟨g, j, none⟩ = false
theorem bytes_of (w : World) (e : TypeId) (s : ByteArray) : BytesAt (Lib.bytesWorld w e s) w.heap.size s.data.toList ∧ Below w.heap.size w (Lib.bytesWorld w e s) := by
  refine ⟨fun j hj => ?_, ⟨rfl, rfl, rfl, by rw [Lib.bytesWorld_size]; omega, fun k hk => Lib.bytesWorld_at_old w e s k hk⟩⟩
  have hj' : j < s.size := by rw [← size_list]; exact hj
  constructor
  · rw [Lib.bytesWorld_cell w e s j hj']
    rw [List.getD_eq_getElem?_getD, List.getElem?_eq_getElem hj]
    rfl
  · have hn := Lib.bytesWorld_at_new w e s
    have hsz : s.size ≤ (Lib.bytesCells w e s).size := by simp [Lib.bytesCells]
    simp [World.frozen?, hn]
    omega
theorem BytesAt.below {w w' : World} {g B : Nat} {l : List UInt8} (h : BytesAt w g l) (hb : Below B w w') (hg : g < B) : BytesAt w' g l := fun j hj => ⟨(hb.cell (p := ⟨g, j, none⟩) hg).trans (h j hj).1, (hb.frozen (p := ⟨g, j, none⟩) hg).trans (h j hj).2⟩
theorem BytesAt.put {w : World} {g i : Nat} {l : List UInt8} {c : UInt8} (h : BytesAt w g l) (hi : i < l.length) : BytesAt (w.setCell ⟨g, i, none⟩ (.int .u8 (c.toNat : Int))) g (l.set i c) := by
  intro j hj
  have hj' : j < l.length := by simpa using hj
  refine ⟨?_, by rw [World.frozen?_setCell]; exact (h j hj').2⟩
  by_cases e : i = j
  · subst e
    rw [World.cell?_setCell_same _ _ _ (h i hi).1]
    simp
  · rw [World.cell?_setCell_other _ _ _ _ (fun h' => e (by injection h')), (h j hj').1]
    simp [List.getElem_set, e]
theorem BytesAt.text {w : World} {g : Nat} {l : List UInt8} (h : BytesAt w g l) (k cap n : Nat) (hk : k ≤ l.length) (hn : n = l.length - k) (A : Option Addr) (hA : k < l.length → A = some ⟨g, k, none⟩) (hA2 : A ≠ none) :
    (convert 34 9 (.slice A n cap)).run Try.prog w = .ok (.string ⟨(l.drop k).toArray⟩) w := by
  subst hn
  obtain ⟨a, rfl⟩ : ∃ a, A = some a := by
    cases A with
    | none => exact absurd rfl hA2
    | some a => exact ⟨a, rfl⟩
  have hl : (l.drop k).length = l.length - k := by simp
  rw [← hl]
  refine run_convert_bytes_back (P := Try.prog) w 34 9 5 a cap (l.drop k) Try.underlying34 Try.underlying5 Try.underlying9 (fun j hj => ?_)
  have hjl : k + j < l.length := by rw [hl] at hj; omega
  have ha := hA (by omega)
  injection ha with ha
  subst ha
  have e : (⟨g, k, none⟩ : Addr).add j = ⟨g, k + j, none⟩ := by unfold Addr.add; split <;> simp_all
  rw [e, (h (k + j) hjl).1]
  simp

set_option maxHeartbeats 2000000 in
theorem bits_walk (s : ByteArray) (x : Nat) (w : World) (hs : s.size ≤ 9223372036854775807) (hx : x < 65536) :
    Calls Try.prog 7 #[.string s, .int .u16 (x : Int)] w fun e w' => e = .returned (.bool true) ∧ Below w.heap.size w w' := by
  obtain ⟨t, ht, htl, hfew⟩ := few_take s
  have HF := Lib.hid hfew
  clear hfew htl
  have hz : (⟨(Crc.lay t.data.toList).toArray⟩ : ByteArray).size = 4 + t.size := by
    show (Crc.lay t.data.toList).length = _
    rw [Crc.lay_length, size_list]
  have hm : x % (8 * (4 + t.size)) < 8 * (4 + t.size) := Nat.mod_lt _ (by omega)
  obtain ⟨k, hk⟩ : ∃ k, k = x % (8 * (4 + t.size)) := ⟨_, rfl⟩
  rw [← hk] at hm
  have hkk : ((x : Int) % (8 * (4 + (t.size : Int)))) = (k : Int) := by rw [hk]; push_cast; rfl
  clear hk
  have hi : k / 8 < 4 + t.size := by omega
  have hlen : (Crc.lay t.data.toList).length = 4 + t.size := by rw [Crc.lay_length, size_list]
  go_enter Try.func7, Try.ntmps7
  go_wp2_with fail
  refine (HF.out _ hs).mono ?_
  rintro e w' ⟨rfl, rfl⟩
  go_wp2_with fail
  refine (lay_any t _ (by omega)).mono ?_
  rintro e w1 ⟨rfl, hb⟩
  have hb1 := Lib.hid hb
  clear hb
  have hcb := Lib.run_convert_string_bytes (P := Try.prog) w1 9 34 5 ⟨(Crc.lay t.data.toList).toArray⟩ Try.underlying9 Try.underlying34 Try.underlying5
  rw [hz] at hcb
  obtain ⟨hby, hbw⟩ := bytes_of w1 5 ⟨(Crc.lay t.data.toList).toArray⟩
  generalize Lib.bytesWorld w1 5 ⟨(Crc.lay t.data.toList).toArray⟩ = W at *
  obtain ⟨hcell, hfree⟩ := hby (k / 8) (by rw [show (⟨(Crc.lay t.data.toList).toArray⟩ : ByteArray).data.toList = Crc.lay t.data.toList from rfl, hlen]; exact hi)
  have hby' := Lib.hid hby
  have hb2 := Lib.hid (hb1.out.trans (hbw.mono hb1.out.size))
  have hsz1 := hb1.out.size
  clear hby hbw hb1
  generalize hc : (⟨(Crc.lay t.data.toList).toArray⟩ : ByteArray).data.toList[k / 8] = c at *
  have HC := Lib.hid hc
  clear hc
  obtain ⟨hc256, hcne⟩ := flip_bit c (k % 8) (Nat.mod_lt _ (by omega))
  obtain ⟨c', hc'⟩ : ∃ c', c' = UInt8.ofNat (c.toNat ^^^ 2 ^ (k % 8)) := ⟨_, rfl⟩
  have hxor : bits .xor .u8 (c.toNat : Int) (2 ^ (k % 8) % 256) = (c'.toNat : Int) := by
    have h8 : 2 ^ (k % 8) < 256 := Nat.pow_lt_pow_right (m := k % 8) (n := 8) (a := 2) (by omega) (Nat.mod_lt _ (by omega))
    have e : ((2 : Int) ^ (k % 8) % 256) = ((2 ^ (k % 8) : Nat) : Int) := by
      rw [show ((2 ^ (k % 8) : Nat) : Int) = (2 : Int) ^ (k % 8) by push_cast; rfl]
      apply Int.emod_eq_of_lt
      · exact Int.pow_nonneg (by omega)
      · have : ((2 ^ (k % 8) : Nat) : Int) < 256 := by omega
        simpa using this
    rw [e, u8_xor_nat _ _ c.toNat_lt h8, hc', UInt8.toNat_ofNat', Nat.mod_eq_of_lt hc256]
  obtain ⟨hbad, hsum⟩ := Crc.set_bad t.data.toList (k / 8) c' (by rw [hlen]; exact hi) (by rw [show (Crc.lay t.data.toList)[k / 8] = c from HC.out, hc']; exact hcne)
  obtain ⟨W2, hW2, hby2, hb3⟩ : ∃ W2, W2 = (W.setCell ⟨w1.heap.size, k / 8, none⟩ (.int .u8 (c'.toNat : Int))).drew ∧ BytesAt W2 w1.heap.size ((Crc.lay t.data.toList).set (k / 8) c') ∧ Below w.heap.size w W2 :=
    ⟨_, rfl, hby'.out.put (by rw [show (⟨(Crc.lay t.data.toList).toArray⟩ : ByteArray).data.toList = Crc.lay t.data.toList from rfl, hlen]; exact hi), (hb2.out.setCell (p := ⟨w1.heap.size, k / 8, none⟩) hsz1 _).drew⟩
  have HW2 := Lib.hid hW2
  have hlen2 : ((Crc.lay t.data.toList).set (k / 8) c').length = 4 + t.size := by simp [hlen]
  generalize (Crc.lay t.data.toList).set (k / 8) c' = l2 at *
  have hcv := hby2.text 0 (grownCap w1 (4 + t.size) 0 5) (4 + t.size) (Nat.zero_le _) (by omega) (some ⟨w1.heap.size, 0, none⟩) (fun _ => rfl) (by simp)
  rw [List.drop_zero] at hcv
  have HBAD := Lib.hid hbad
  have HSUM := Lib.hid hsum
  have HBY := Lib.hid hby2
  have HB3 := Lib.hid hb3
  have HLEN := Lib.hid hlen2
  clear hbad hsum hc' hcne hc256 hW2 hby2 hb3 hlen2 hlen HC hby' hb2
  go_wp2_with fail
  clear hcb
  go_region
  rw [← HW2.out]
  clear hcell hfree
  go_wp2_with fail
  have hsize : (⟨l2.toArray⟩ : ByteArray).size = 4 + t.size := HLEN.out
  have hw2 := Lib.hid (show w1.heap.size < W2.heap.size from block_lt_of_cell (HBY.out 0 (by rw [HLEN.out]; omega)).1)
  refine (cut_bad ⟨l2.toArray⟩ W2 (by rw [hsize]; omega) (by rw [hsize]; omega) HBAD.out).mono ?_
  rintro e w3 ⟨rfl, hb⟩
  have hb3 := Lib.hid (HB3.out.trans (hb.mono HB3.out.size))
  have hy3 := Lib.hid (HBY.out.below hb hw2.out)
  have hw3 := Lib.hid (Nat.lt_of_lt_of_le hw2.out hb.size)
  clear hb hcv
  go_wp2_with fail
  refine (awake_any w3).mono ?_
  rintro e w4 ⟨rfl, hb⟩
  have hb4 := Lib.hid (hb3.out.trans (hb.mono hb3.out.size))
  have hy4 := Lib.hid (hy3.out.below hb hw3.out)
  clear hb hb3 hy3
  by_cases h32 : k < 32
  · go_wp2_with fail
    go_ret
    exact ⟨rfl, hb4.out⟩
  · have h33 : 32 ≤ k := by omega
    clear h32
    have hcap := grownCap_ge w1 (4 + t.size) 0 5
    generalize grownCap w1 (4 + t.size) 0 5 = cp at *
    have hcv := hy4.out.text 4 (cp - 4) t.size (by rw [HLEN.out]; omega) (by rw [HLEN.out]; omega) (some ⟨w1.heap.size, 4, none⟩) (fun _ => rfl) (by simp)
    have hc4 : ¬ cp = 4 := by omega
    have hz2 : (⟨(List.drop 4 l2).toArray⟩ : ByteArray).size = t.size := by
      show (List.drop 4 l2).length = _
      rw [List.length_drop, HLEN.out]
      omega
    go_wp2_with fail
    refine (sum_any ⟨(List.drop 4 l2).toArray⟩ _ (by rw [hz2]; omega)).mono ?_
    rintro e w5 ⟨rfl, hb⟩
    have hb5 := Lib.hid (hb4.out.trans (hb.mono hb4.out.size))
    clear hb hcv
    go_wp2_with fail
    refine (sum_any t _ (by omega)).mono ?_
    rintro e w6 ⟨rfl, hb⟩
    have hb6 := Lib.hid (hb5.out.trans (hb.mono hb5.out.size))
    clear hb
    have hne : (((Crc.sum (List.drop 4 l2) : Nat) : Int) != ((Crc.sum t.data.toList : Nat) : Int)) = true := by
      rw [bne_iff_ne]
      intro h
      exact HSUM.out (by omega) (Int.ofNat_inj.1 h)
    go_wp2_with fail
    go_ret
    exact ⟨rfl, hb6.out⟩
end Go.Proofs.Ytbjkefodlnkaeaa
