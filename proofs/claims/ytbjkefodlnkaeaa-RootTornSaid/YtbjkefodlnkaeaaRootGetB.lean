/- A root read, where the text's ends agree: the walk of root.Get. No condition. -/
import Derived.Test.YtbjkefodlnkaeaaRootGet
import Derived.Deep.Heap
namespace Go.Proofs.Ytbjkefodlnkaeaa
open Go.RowKit

theorem ext_cut (s : ByteArray) (h : s.size = 64) : ((s.extract 8 56).extract 4 (s.extract 8 56).size).data.toList = (s.data.toList.drop 12).take 44 := by
  have hz : (s.extract 8 56).size = 48 := by simp; omega
  rw [hz, Lib.extract_data, Lib.extract_data]
  rw [List.drop_take, List.drop_drop, List.take_take]
  rfl
/-- whoever laid the text is the root that its bytes say -/
theorem said_by (s : ByteArray) (_h : s.size = 64) (r : Rt.Root) (hr : Rt.right r = true) (e : Rt.laid r = s.data.toList) : r = Rt.ofB (Pk.decI (at8 s 0)) ((s.data.toList.drop 12).take 44) := by
  have h1 : Pk.decI (at8 s 0) = r.epoch := by
    unfold at8
    rw [List.drop_zero, ← e, Rt.laid_first, Rt.dec_epoch hr]
  have h2 : (s.data.toList.drop 12).take 44 = Rt.body r := by
    have h3 := Rt.laid_mid (Rt.parts_le hr)
    rw [e] at h3
    have h4 := congrArg (List.drop 4) h3
    rw [List.drop_take, List.drop_drop, Crc.lay_drop] at h4
    exact h4
  rw [h1, h2, Rt.of_body hr]
theorem range5 (f : Nat → Int) (n : Nat) (h : n ≤ 5) : (List.range n).map f = [f 0, f 1, f 2, f 3, f 4].take n := by
  match n, h with
  | 0, _ => rfl
  | 1, _ => rfl
  | 2, _ => rfl
  | 3, _ => rfl
  | 4, _ => rfl
  | 5, _ => rfl
theorem deep_many (x : Int) (b : List UInt8) (h : ¬ Rt.num b 2 ≤ 5) : Rt.right (Rt.ofB x b) = false := by
  cases hr : Rt.right (Rt.ofB x b)
  · rfl
  · have := Rt.parts_le hr
    unfold Rt.ofB at this
    rw [List.length_map, List.length_range] at this
    exact absurd this h
theorem Arr5.ints {w : World} {g : Nat} {a b c d e : Int} (h : Arr5 w g a b c d e) (n : Nat) (hn : n ≤ 5) : Ints w.heap.size w (some ⟨g, 0, none⟩) n n ([a, b, c, d, e].take n) := by
  refine ⟨by omega, Nat.le_refl _, by rw [List.length_take]; show min n 5 = n; omega, fun k hk => ⟨_, rfl, lt_of_block h.at_, ?_⟩⟩
  obtain ⟨c0, c1, c2, c3, c4⟩ := h.q
  rw [List.getD_eq_getElem?_getD, List.getElem?_take, if_pos hk, Addr.add_lit, Nat.zero_add]
  match k, (show k < 5 by omega) with
  | 0, _ => exact c0
  | 1, _ => exact c1
  | 2, _ => exact c2
  | 3, _ => exact c3
  | 4, _ => exact c4
/-- what lies in memory while a root is read -/
structure GW (w : World) (s10 : ByteArray) (g10 g13 : Nat) (x l : Int) (wx : World) : Prop where
  z : RBox wx w.heap.size 0 0 none 0 0
  t : wx.heap[g10]? = some (.cells #[.string s10] 9 (0, 0))
  r : RBox wx g13 x l none 0 0
  b : Below w.heap.size w wx
  lo : w.heap.size < g10
  mid : g10 < g13
theorem GW.to {w : World} {s10 : ByteArray} {g10 g13 : Nat} {x l : Int} {wx wy : World} (h : GW w s10 g10 g13 x l wx) (hb : Below wx.heap.size wx wy) : GW w s10 g10 g13 x l wy :=
  ⟨h.z.below hb (lt_of_block h.z.at_), (hb.block _ (lt_of_block h.t)).trans h.t, h.r.below hb (lt_of_block h.r.at_), h.b.trans (hb.mono h.b.size), h.lo, h.mid⟩
theorem GW.toB {w : World} {s10 : ByteArray} {g10 g13 B : Nat} {x l : Int} {wx wy : World} (h : GW w s10 g10 g13 x l wx) (hb : Below B wx wy) (hB : g13 < B) : GW w s10 g10 g13 x l wy :=
  ⟨h.z.below hb (by have := h.lo; have := h.mid; omega), (hb.block _ (by have := h.mid; omega)).trans h.t, h.r.below hb hB, h.b.trans (hb.mono (by have := h.lo; have := h.mid; omega)), h.lo, h.mid⟩
theorem set_block {w : World} {g : Nat} {cs : Array Value} {t : TypeId} (h : w.heap[g]? = some (.cells cs t (0, 0))) (k : Nat) (v : Value) : (w.setCell ⟨g, k, none⟩ v).heap[g]? = some (.cells (cs.setIfInBounds k v) t (0, 0)) := by
  simp [World.setCell, Array.getElem?_modify, h]
theorem Arr5.f {w : World} {g : Nat} {a b c d e : Int} (h : Arr5 w g a b c d e) (k : Nat) : w.frozen? ⟨g, k, none⟩ = false := frozen_of_row _ _ _ _ _ h.at_
theorem Arr5.s0 {w : World} {g : Nat} {a b c d e : Int} (h : Arr5 w g a b c d e) (v : Int) : Arr5 (w.setCell ⟨g, 0, none⟩ (.int .i64 v)) g v b c d e := ⟨set_block h.at_ 0 _⟩
theorem Arr5.s1 {w : World} {g : Nat} {a b c d e : Int} (h : Arr5 w g a b c d e) (v : Int) : Arr5 (w.setCell ⟨g, 1, none⟩ (.int .i64 v)) g a v c d e := ⟨set_block h.at_ 1 _⟩
theorem Arr5.s2 {w : World} {g : Nat} {a b c d e : Int} (h : Arr5 w g a b c d e) (v : Int) : Arr5 (w.setCell ⟨g, 2, none⟩ (.int .i64 v)) g a b v d e := ⟨set_block h.at_ 2 _⟩
theorem Arr5.s3 {w : World} {g : Nat} {a b c d e : Int} (h : Arr5 w g a b c d e) (v : Int) : Arr5 (w.setCell ⟨g, 3, none⟩ (.int .i64 v)) g a b c v e := ⟨set_block h.at_ 3 _⟩
theorem Arr5.s4 {w : World} {g : Nat} {a b c d e : Int} (h : Arr5 w g a b c d e) (v : Int) : Arr5 (w.setCell ⟨g, 4, none⟩ (.int .i64 v)) g a b c d v := ⟨set_block h.at_ 4 _⟩
theorem Arr5.drawn {w : World} {g : Nat} {a b c d e : Int} (h : Arr5 w g a b c d e) (n : Nat) : Arr5 (w.drewN n) g a b c d e := ⟨h.at_⟩
theorem Arr5.other {w : World} {g : Nat} {a b c d e : Int} (h : Arr5 w g a b c d e) (k j : Nat) (hk : g ≠ k) (v : Value) : Arr5 (w.setCell ⟨k, j, none⟩ v) g a b c d e := ⟨(Deep.blk_setCell_other w ⟨k, j, none⟩ v g hk).trans h.at_⟩
theorem Arr5.to {w w' : World} {g : Nat} {a b c d e : Int} (h : Arr5 w g a b c d e) (hb : Below w.heap.size w w') : Arr5 w' g a b c d e := ⟨(hb.block g (lt_of_block h.at_)).trans h.at_⟩
theorem put_no {r : Rt.Root} (h : Rt.right r = false) : Rt.put r = ([], 2) := by
  unfold Rt.put
  rw [if_neg (by simp [h])]
theorem put_yes {r : Rt.Root} (h : Rt.right r = true) : Rt.put r = (Rt.laid r, 0) := by
  unfold Rt.put
  rw [if_pos h]
theorem bytes_of (l : List UInt8) (s : ByteArray) (h : l = s.data.toList) : (⟨l.toArray⟩ : ByteArray) = s := by
  apply ByteArray.ext
  apply Array.ext'
  simpa using h
theorem GW.cell10 {w : World} {s10 : ByteArray} {g10 g13 : Nat} {x l : Int} {wx wy : World} (h : GW w s10 g10 g13 x l wx) (hb : Below wx.heap.size wx wy) : wy.cell? ⟨g10, 0, none⟩ = some (.string s10) := by
  rw [cell_of_row _ _ _ _ _ _ (h.to hb).t]
  rfl
set_option maxRecDepth 100000 in
set_option maxHeartbeats 8000000 in
theorem get_deep (s : ByteArray) (w : World) (h : s.size = 64) (hx : Pk.decI (at8 s 0) = Pk.decI (at8 s 56)) (hg : Crc.good ((s.data.toList.drop 8).take 48) = true) :
    Calls Try.prog 21 #[.string s] w (GotR s w) := by
  have HS := Lib.hid (said_by s h)
  have HI0 := Lib.hid (fun w => readI_in s 0 w (by omega) (by omega))
  have HI1 := Lib.hid (fun w => readI_in s 56 w (by omega) (by omega))
  have hz48 : (s.extract 8 56).size = 48 := by simp; omega
  have HC := Lib.hid (fun w => cut_good (s.extract 8 56) w (by omega) (by omega) (by rw [ext_mid]; exact hg))
  have hct := ext_cut s h
  have hbs : ((s.extract 8 56).extract 4 (s.extract 8 56).size).size = 44 := by simp; omega
  rw [← hct] at HS
  unfold readI at HI0 HI1
  rw [← hx] at HI1
  clear hct hx hg hz48
  generalize (s.extract 8 56).extract 4 (s.extract 8 56).size = b at *
  generalize Pk.decI (at8 s 0) = x at *
  have HBS := Lib.hid hbs
  have HNum : Hid (∀ (wx : World) (p : Addr) (k : Nat), k ≤ 42 → wx.cell? p = some (.string b) → Calls Try.prog 35 #[.int .i64 (k : Int), .pointer (some p)] wx fun e w' => e = .returned (.int .i64 (Rt.num b.data.toList k : Nat)) ∧ ∃ n, w' = wx.drewN n) :=
    Lib.hid fun wx p k hk hc => number_any p b k (by omega) (by omega) hc
  clear hbs
  go_enter Try.func21, Try.ntmps21
  go_wp2_with fail
  refine (HI0.out _).mono ?_
  rintro en w1 ⟨rfl, rfl⟩
  go_wp2_with fail
  refine (HI1.out _).mono ?_
  rintro en w1 ⟨rfl, rfl⟩
  go_wp2_with fail
  refine (HC.out _).mono ?_
  rintro en w1 ⟨rfl, hb1⟩
  have HB1 := Lib.hid (((Below.refl w.heap.size w).alloc (Nat.le_refl _) _).trans (hb1.mono (by simp)))
  have HZ1 := Lib.hid ((RBox.new w 0 0 none 0 0).below hb1 (by simp))
  have hz1 : w.heap.size < w1.heap.size := lt_of_block HZ1.out.at_
  clear hb1 HC HI0 HI1
  go_wp2_with fail
  refine (HNum.out _ _ 0 (by omega) (by rw [cell_of_row _ _ _ _ _ _ (heap_alloc_new w1 _)]; rfl)).mono ?_
  rintro en w2 ⟨rfl, n2, rfl⟩
  have hc10 : ((w1.alloc (.cells #[.string b] 9)).drewN n2).heap[w1.heap.size]? = some (.cells #[.string b] 9 (0, 0)) := heap_alloc_new w1 _
  have hbb : Below w1.heap.size w1 ((w1.alloc (.cells #[.string b] 9)).drewN n2) := below_drewN ((Below.refl w1.heap.size w1).alloc (Nat.le_refl _) (.cells #[.string b] 9)) n2
  have HZ2 := Lib.hid (HZ1.out.below hbb hz1)
  have HB2 := Lib.hid (HB1.out.trans (hbb.mono HB1.out.size))
  have HC10 := Lib.hid hc10
  have HZZ := Lib.hid hz1
  clear HZ1 HB1 hz1 hc10 hbb
  generalize w1.heap.size = g10 at *
  generalize (w1.alloc (.cells #[.string b] 9)).drewN n2 = w2 at *
  go_wp2_with fail
  have hbb : Below w2.heap.size w2 (w2.alloc (.cells #[.int .i64 x, .int .i64 (Rt.num b.data.toList 0 : Nat), .slice none 0 0] 40 (0, 0))) := (Below.refl w2.heap.size w2).alloc (Nat.le_refl _) (.cells #[.int .i64 x, .int .i64 (Rt.num b.data.toList 0 : Nat), .slice none 0 0] 40 (0, 0))
  refine (HNum.out _ _ 2 (by omega) (by rw [cell_of_row _ _ _ _ _ _ ((hbb.block _ (lt_of_block HC10.out)).trans HC10.out)]; rfl)).mono ?_
  rintro en w3 ⟨rfl, n3, rfl⟩
  have HG : Hid (GW w b g10 w2.heap.size x (Rt.num b.data.toList 0 : Nat) ((w2.alloc (.cells #[.int .i64 x, .int .i64 (Rt.num b.data.toList 0 : Nat), .slice none 0 0] 40 (0, 0))).drewN n3)) := Lib.hid
    (GW.to ⟨HZ2.out.below hbb (lt_of_block HZ2.out.at_), (hbb.block _ (lt_of_block HC10.out)).trans HC10.out, RBox.new w2 _ _ _ _ _, HB2.out.trans (hbb.mono HB2.out.size), HZZ.out, lt_of_block HC10.out⟩ (below_drewN (Below.refl _ _) n3))
  have HOf : Hid (Rt.ofB x b.data.toList = ⟨x, (Rt.num b.data.toList 0 : Nat), (List.range (Rt.num b.data.toList 2)).map fun i => (Rt.num b.data.toList (4 + 2 * i) : Int)⟩) := Lib.hid rfl
  have HMany := Lib.hid (deep_many x b.data.toList)
  clear hbb HZ2 HB2 HC10 HZZ
  generalize w2.heap.size = g13 at *
  generalize (w2.alloc (.cells #[.int .i64 x, .int .i64 (Rt.num b.data.toList 0 : Nat), .slice none 0 0] 40 (0, 0))).drewN n3 = w3 at *
  generalize hn2 : Rt.num b.data.toList 2 = n at *
  have HN2 := Lib.hid hn2
  clear hn2
  generalize Rt.num b.data.toList 0 = l0 at *
  by_cases h5 : n ≤ 5
  · have h5I : ¬ (5 : Int) < (n : Int) := by omega
    clear HMany
    obtain ⟨hz, c0, c1, c2, f0, f1, f2⟩ := HG.out.z.all
    go_wp2_with fail
    have HG1 := Lib.hid (HG.out.to ((Below.refl w3.heap.size w3).alloc (Nat.le_refl _) (.cells #[.int .i64 0, .int .i64 0, .int .i64 0, .int .i64 0, .int .i64 0] 60 (0, 0))))
    have HA1 : Hid (Arr5 (w3.alloc (.cells #[.int .i64 0, .int .i64 0, .int .i64 0, .int .i64 0, .int .i64 0] 60 (0, 0))) w3.heap.size 0 0 0 0 0) := Lib.hid ⟨heap_alloc_new w3 _⟩
    have HL13 := Lib.hid (lt_of_block HG.out.r.at_)
    clear c0 c1 c2 f0 f1 f2 hz HG
    generalize w3.heap.size = g15 at *
    generalize w3.alloc (.cells #[.int .i64 0, .int .i64 0, .int .i64 0, .int .i64 0, .int .i64 0] 60 (0, 0)) = wa at *
    refine wp_loop_rounds 6 ?_
    rw [rounds_succ]
    go_wp2_with fail
    refine (HNum.out _ _ 4 (by omega) (HG1.out.cell10 (Below.refl _ _))).mono ?_
    rintro en w' ⟨rfl, k0, rfl⟩
    have a0 := ((HA1.out.drawn k0).q).1
    have z0 := (HA1.out.drawn k0).f 0
    go_wp2_with fail
    have HG2 := Lib.hid ((HG1.out.to (below_drewN (Below.refl _ _) k0)).toB ((Below.refl g15 (wa.drewN k0)).setCell (p := ⟨g15, 0, none⟩) (Nat.le_refl _) (.int .i64 (Rt.num b.data.toList 4 : Nat))) HL13.out)
    have HA2 := Lib.hid ((HA1.out.drawn k0).s0 (Rt.num b.data.toList 4 : Nat))
    clear HG1 HA1 a0 z0
    have HG1 := HG2
    have HA1 := HA2
    clear HG2 HA2
    generalize (wa.drewN k0).setCell ⟨g15, 0, none⟩ (.int .i64 (Rt.num b.data.toList 4 : Nat)) = wb at *
    rw [rounds_succ]
    go_wp2_with fail
    refine (HNum.out _ _ 6 (by omega) (HG1.out.cell10 (Below.refl _ _))).mono ?_
    rintro en w' ⟨rfl, k1, rfl⟩
    have a1 := ((HA1.out.drawn k1).q).2.1
    have z1 := (HA1.out.drawn k1).f 1
    go_wp2_with fail
    have HG2 := Lib.hid ((HG1.out.to (below_drewN (Below.refl _ _) k1)).toB ((Below.refl g15 (wb.drewN k1)).setCell (p := ⟨g15, 1, none⟩) (Nat.le_refl _) (.int .i64 (Rt.num b.data.toList 6 : Nat))) HL13.out)
    have HA2 := Lib.hid ((HA1.out.drawn k1).s1 (Rt.num b.data.toList 6 : Nat))
    clear HG1 HA1 a1 z1
    have HG1 := HG2
    have HA1 := HA2
    clear HG2 HA2
    generalize (wb.drewN k1).setCell ⟨g15, 1, none⟩ (.int .i64 (Rt.num b.data.toList 6 : Nat)) = wc at *
    rw [rounds_succ]
    go_wp2_with fail
    refine (HNum.out _ _ 8 (by omega) (HG1.out.cell10 (Below.refl _ _))).mono ?_
    rintro en w' ⟨rfl, k2, rfl⟩
    have a2 := ((HA1.out.drawn k2).q).2.2.1
    have z2 := (HA1.out.drawn k2).f 2
    go_wp2_with fail
    have HG2 := Lib.hid ((HG1.out.to (below_drewN (Below.refl _ _) k2)).toB ((Below.refl g15 (wc.drewN k2)).setCell (p := ⟨g15, 2, none⟩) (Nat.le_refl _) (.int .i64 (Rt.num b.data.toList 8 : Nat))) HL13.out)
    have HA2 := Lib.hid ((HA1.out.drawn k2).s2 (Rt.num b.data.toList 8 : Nat))
    clear HG1 HA1 a2 z2
    have HG1 := HG2
    have HA1 := HA2
    clear HG2 HA2
    generalize (wc.drewN k2).setCell ⟨g15, 2, none⟩ (.int .i64 (Rt.num b.data.toList 8 : Nat)) = wd at *
    rw [rounds_succ]
    go_wp2_with fail
    refine (HNum.out _ _ 10 (by omega) (HG1.out.cell10 (Below.refl _ _))).mono ?_
    rintro en w' ⟨rfl, k3, rfl⟩
    have a3 := ((HA1.out.drawn k3).q).2.2.2.1
    have z3 := (HA1.out.drawn k3).f 3
    go_wp2_with fail
    have HG2 := Lib.hid ((HG1.out.to (below_drewN (Below.refl _ _) k3)).toB ((Below.refl g15 (wd.drewN k3)).setCell (p := ⟨g15, 3, none⟩) (Nat.le_refl _) (.int .i64 (Rt.num b.data.toList 10 : Nat))) HL13.out)
    have HA2 := Lib.hid ((HA1.out.drawn k3).s3 (Rt.num b.data.toList 10 : Nat))
    clear HG1 HA1 a3 z3
    have HG1 := HG2
    have HA1 := HA2
    clear HG2 HA2
    generalize (wd.drewN k3).setCell ⟨g15, 3, none⟩ (.int .i64 (Rt.num b.data.toList 10 : Nat)) = we at *
    rw [rounds_succ]
    go_wp2_with fail
    refine (HNum.out _ _ 12 (by omega) (HG1.out.cell10 (Below.refl _ _))).mono ?_
    rintro en w' ⟨rfl, k4, rfl⟩
    have a4 := ((HA1.out.drawn k4).q).2.2.2.2
    have z4 := (HA1.out.drawn k4).f 4
    go_wp2_with fail
    have HG2 := Lib.hid ((HG1.out.to (below_drewN (Below.refl _ _) k4)).toB ((Below.refl g15 (we.drewN k4)).setCell (p := ⟨g15, 4, none⟩) (Nat.le_refl _) (.int .i64 (Rt.num b.data.toList 12 : Nat))) HL13.out)
    have HA2 := Lib.hid ((HA1.out.drawn k4).s4 (Rt.num b.data.toList 12 : Nat))
    clear HG1 HA1 a4 z4
    have HG1 := HG2
    have HA1 := HA2
    clear HG2 HA2
    generalize (we.drewN k4).setCell ⟨g15, 4, none⟩ (.int .i64 (Rt.num b.data.toList 12 : Nat)) = wf at *
    obtain ⟨_, d0, d1, d2, q0, q1, q2⟩ := HG1.out.r.all
    rw [rounds_succ]
    go_wp2_with fail
    clear d0 d1 d2 q0 q1 q2
    have HRr : Hid (RBox (wf.setCell ⟨g13, 2, none⟩ (.slice (some ⟨g15, 0, none⟩) n n)) g13 x l0 (some ⟨g15, 0, none⟩) n n) := Lib.hid ⟨set_block HG1.out.r.at_ 2 _⟩
    have HAr := Lib.hid (HA1.out.other g13 2 (Nat.ne_of_gt HL13.out) (.slice (some ⟨g15, 0, none⟩) n n))
    have hGb : Below g13 wf (wf.setCell ⟨g13, 2, none⟩ (.slice (some ⟨g15, 0, none⟩) n n)) := (Below.refl g13 wf).setCell (p := ⟨g13, 2, none⟩) (Nat.le_refl _) _
    have HZr := Lib.hid (HG1.out.z.below hGb (Nat.lt_trans HG1.out.lo HG1.out.mid))
    have HBr := Lib.hid (HG1.out.b.trans (hGb.mono (Nat.le_of_lt (Nat.lt_trans HG1.out.lo HG1.out.mid))))
    have HNe := Lib.hid (show w.heap.size < g13 from Nat.lt_trans HG1.out.lo HG1.out.mid)
    clear HG1 HA1 hGb
    generalize wf.setCell ⟨g13, 2, none⟩ (.slice (some ⟨g15, 0, none⟩) n n) = wg at *
    have HIn := Lib.hid (HAr.out.ints n h5)
    have HO2 : Hid (Rt.ofB x b.data.toList = ⟨x, l0, [(Rt.num b.data.toList 4 : Int), (Rt.num b.data.toList 6 : Int), (Rt.num b.data.toList 8 : Int), (Rt.num b.data.toList 10 : Int), (Rt.num b.data.toList 12 : Int)].take n⟩) := Lib.hid (by rw [HOf.out, range5 _ n h5])
    clear HOf
    generalize (Rt.num b.data.toList 4 : Int) = y0 at *
    generalize (Rt.num b.data.toList 6 : Int) = y1 at *
    generalize (Rt.num b.data.toList 8 : Int) = y2 at *
    generalize (Rt.num b.data.toList 10 : Int) = y3 at *
    generalize (Rt.num b.data.toList 12 : Int) = y4 at *
    refine (put_any x (l0 : Int) HIn.out).mono ?_
    rintro en w9 ⟨rfl, hb9⟩
    have HR9 := Lib.hid (HRr.out.below hb9 (lt_of_block HRr.out.at_))
    have HZ9 := Lib.hid (HZr.out.below hb9 (lt_of_block HZr.out.at_))
    have HA9 := Lib.hid (HAr.out.to hb9)
    have HB9 := Lib.hid (HBr.out.trans (hb9.mono HBr.out.size))
    have HL15 := Lib.hid (Nat.lt_trans HNe.out HL13.out)
    clear hb9 HRr HZr HAr HBr HIn HNum HN2
    obtain ⟨hz, c0, c1, c2, f0, f1, f2⟩ := HZ9.out.all
    obtain ⟨hzr, d0, d1, d2, _, _, _⟩ := HR9.out.all
    have hne13 := HNe.out
    generalize hTT : ([y0, y1, y2, y3, y4].take n) = TT at *
    have HTT := Lib.hid hTT
    clear hTT
    cases hr : Rt.right ⟨x, l0, TT⟩
    · rw [put_no hr]
      have HR0 := Lib.hid hr
      clear hr
      go_wp2_with fail
      refine bodyPost_ret (v := .tuple #[rootV 0 0 none 0 0, .bool false]) (by unfold rootV; simp [results, Try.results21, go_sem, c0, c1, c2]) rfl (.inl ⟨rfl, fun r hr e => ?_, ?_⟩)
      · have := HS.out r hr e
        rw [this, HO2.out, HR0.out] at hr
        cases hr
      · exact ((HB9.out.setCell (Nat.le_refl _) _).setCell (Nat.le_refl _) _).setCell (Nat.le_refl _) _
    · rw [put_yes hr]
      have HR0 := Lib.hid hr
      clear hr
      by_cases ht : Rt.laid ⟨x, l0, TT⟩ = s.data.toList
      · have HTx := Lib.hid ht
        rw [bytes_of _ s ht]
        clear ht
        go_wp2_with fail
        refine bodyPost_ret (v := .tuple #[rootV x l0 (some ⟨g15, 0, none⟩) n n, .bool true]) (by unfold rootV; simp [results, Try.results21, go_sem, c0, c1, c2]) rfl (.inr ⟨⟨x, l0, TT⟩, some ⟨g15, 0, none⟩, n, n, rfl, HR0.out, HTx.out, fun ad e => ?_, ?_, ?_⟩)
        · cases e
          exact Nat.le_of_lt HL15.out
        · rw [← HTT.out]
          exact (((HA9.out.other _ 0 (Nat.ne_of_gt HL15.out) _).other _ 1 (Nat.ne_of_gt HL15.out) _).other _ 2 (Nat.ne_of_gt HL15.out) _).ints n h5
        · exact ((HB9.out.setCell (Nat.le_refl _) _).setCell (Nat.le_refl _) _).setCell (Nat.le_refl _) _
      · have hne : ¬ (⟨(Rt.laid ⟨x, l0, TT⟩).toArray⟩ : ByteArray) = s := fun e => ht (by rw [← e])
        have HNt := Lib.hid ht
        clear ht
        generalize (⟨(Rt.laid ⟨x, l0, TT⟩).toArray⟩ : ByteArray) = X at *
        have t1 : ¬ X.toList = s.toList := fun h => hne (ByteArray.ext (Array.ext' (by rw [← ByteArray.toList_eq, ← ByteArray.toList_eq]; exact h)))
        have t2 : (X.toList == s.toList) = false := by simpa using t1
        clear hne
        go_wp2_with fail
        refine bodyPost_ret (v := .tuple #[rootV 0 0 none 0 0, .bool false]) (by unfold rootV; simp [results, Try.results21, go_sem, c0, c1, c2]) rfl (.inl ⟨rfl, fun r hr e => ?_, ?_⟩)
        · have := HS.out r hr e
          rw [this, HO2.out] at e
          exact HNt.out e
        · exact ((HB9.out.setCell (Nat.le_refl _) _).setCell (Nat.le_refl _) _).setCell (Nat.le_refl _) _
  · have h5I : (5 : Int) < (n : Int) := by omega
    have HR0 := Lib.hid (HMany.out h5)
    obtain ⟨hz, c0, c1, c2, f0, f1, f2⟩ := HG.out.z.all
    clear HMany
    go_wp2_with fail
    refine bodyPost_ret (v := .tuple #[rootV 0 0 none 0 0, .bool false]) (by unfold rootV; simp [results, Try.results21, go_sem, c0, c1, c2]) rfl (.inl ⟨rfl, fun r hr e => ?_, ?_⟩)
    · have := HS.out r hr e
      rw [this] at hr
      rw [HR0.out] at hr
      cases hr
    · exact ((HG.out.b.setCell (Nat.le_refl _) _).setCell (Nat.le_refl _) _).setCell (Nat.le_refl _) _
theorem root_get (s : ByteArray) (w : World) (hs : s.size ≤ 9223372036854775807) : Calls Try.prog 21 #[.string s] w (GotR s w) := by
  by_cases h : s.size = 64
  · by_cases hx : Pk.decI (at8 s 0) = Pk.decI (at8 s 56)
    · cases hg : Crc.good ((s.data.toList.drop 8).take 48)
      · exact (get_ends s w h (.inr hg)).mono fun _ _ hh => .inl hh
      · exact get_deep s w h hx hg
    · exact (get_ends s w h (.inl hx)).mono fun _ _ hh => .inl hh
  · exact (get_size s w hs h).mono fun _ _ hh => .inl hh
end Go.Proofs.Ytbjkefodlnkaeaa
