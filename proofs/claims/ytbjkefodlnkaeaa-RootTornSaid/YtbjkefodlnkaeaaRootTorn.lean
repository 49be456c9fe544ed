/- Of a root written over another one, in any beginning alone, the slot says the old one, the new one, or nothing: the law's call returns true. No condition. -/
import Derived.Test.YtbjkefodlnkaeaaRootTornP
import Derived.Test.YtbjkefodlnkaeaaRootAwake
import Derived.Test.YtbjkefodlnkaeaaFrame
import Derived.Test.YtbjkefodlnkaeaaData
import Derived.Deep.RegionHeld3
namespace Go.Proofs.Ytbjkefodlnkaeaa
open Go.ChangeShapes Go.WideShapes Go.ChangeAt Go.RowKit

/-- the box of one of the document's roots -/
structure DBox (w : World) (g : Nat) (e l : Int) (A : Option Addr) (len cap : Nat) : Prop where
  at_ : w.heap[g]? = some (.cells #[.int .i64 e, .int .i64 l, .slice A len cap] 38 (0, 0))
theorem DBox.below {w w' : World} {g B : Nat} {e l : Int} {A : Option Addr} {len cap : Nat} (h : DBox w g e l A len cap) (hb : Below B w w') (hg : g < B) : DBox w' g e l A len cap := ⟨(hb.block g hg).trans h.at_⟩
theorem DBox.to {w w' : World} {g : Nat} {e l : Int} {A : Option Addr} {len cap : Nat} (h : DBox w g e l A len cap) (hb : Below w.heap.size w w') : DBox w' g e l A len cap := h.below hb (lt_of_block h.at_)
theorem DBox.q {w : World} {g : Nat} {e l : Int} {A : Option Addr} {len cap : Nat} (h : DBox w g e l A len cap) : w.cell? ⟨g, 0, none⟩ = some (.int .i64 e) ∧ w.cell? ⟨g, 1, none⟩ = some (.int .i64 l) ∧ w.cell? ⟨g, 2, none⟩ = some (.slice A len cap) :=
  ⟨by rw [cell_of_row _ _ _ _ _ _ h.at_]; rfl, by rw [cell_of_row _ _ _ _ _ _ h.at_]; rfl, by rw [cell_of_row _ _ _ _ _ _ h.at_]; rfl⟩
def two38 (w : World) (e l f m : Int) (A B : Option Addr) (len cap len2 cap2 : Nat) : World :=
  (w.alloc (.cells #[.int .i64 e, .int .i64 l, .slice A len cap] 38 (0, 0))).alloc (.cells #[.int .i64 f, .int .i64 m, .slice B len2 cap2] 38 (0, 0))
set_option maxRecDepth 100000 in
set_option maxHeartbeats 2000000 in
theorem torn_a (e l f m c : Int) {A B : Option Addr} {len cap len2 cap2 : Nat} (w : World) (h : 40 < len) (_hc : len ≤ 9223372036854775807) (_hc2 : len2 ≤ 9223372036854775807) :
    Calls Try.prog 8 #[rootV e l A len cap, rootV f m B len2 cap2, .int .u8 c] w fun e w' => e = .returned (.bool true) ∧ Below w.heap.size w w' := by
  unfold rootV
  have d1 : decide ((40 : Int) < (len : Int)) = true := by rw [decide_eq_true_iff]; omega
  go_enter Try.func8, Try.ntmps8
  go_wp2_with fail
  refine (awake13 _).mono ?_
  rintro en w1 ⟨rfl, hb⟩
  have HB := Lib.hid ((((Below.refl w.heap.size w).alloc (Nat.le_refl _) _).alloc (by simp) _).trans (hb.mono (by simp; omega)))
  clear hb
  go_wp2_with fail
  go_ret
  exact ⟨rfl, HB.out⟩
set_option maxRecDepth 100000 in
set_option maxHeartbeats 2000000 in
theorem torn_b (e l f m c : Int) {A B : Option Addr} {len cap len2 cap2 : Nat} (w : World) (h : ¬ 40 < len) (h2 : 40 < len2) (_hc : len ≤ 9223372036854775807) (_hc2 : len2 ≤ 9223372036854775807) :
    Calls Try.prog 8 #[rootV e l A len cap, rootV f m B len2 cap2, .int .u8 c] w fun e w' => e = .returned (.bool true) ∧ Below w.heap.size w w' := by
  unfold rootV
  have d1 : decide ((40 : Int) < (len : Int)) = false := by rw [decide_eq_false_iff_not]; omega
  have d2 : decide ((40 : Int) < (len2 : Int)) = true := by rw [decide_eq_true_iff]; omega
  go_enter Try.func8, Try.ntmps8
  go_wp2_with fail
  refine (awake13 _).mono ?_
  rintro en w1 ⟨rfl, hb⟩
  have HB := Lib.hid ((((Below.refl w.heap.size w).alloc (Nat.le_refl _) _).alloc (by simp) _).trans (hb.mono (by simp; omega)))
  clear hb
  go_wp2_with fail
  go_ret
  exact ⟨rfl, HB.out⟩
set_option maxRecDepth 100000 in
set_option maxHeartbeats 2000000 in
theorem torn_e (e l f m c : Int) {A B : Option Addr} {len cap len2 cap2 : Nat} (w : World) (h : ¬ 40 < len) (h2 : ¬ 40 < len2) (h3 : e = f) (_hc : len ≤ 9223372036854775807) (_hc2 : len2 ≤ 9223372036854775807) :
    Calls Try.prog 8 #[rootV e l A len cap, rootV f m B len2 cap2, .int .u8 c] w fun e w' => e = .returned (.bool true) ∧ Below w.heap.size w w' := by
  unfold rootV
  subst h3
  have d1 : decide ((40 : Int) < (len : Int)) = false := by rw [decide_eq_false_iff_not]; omega
  have d2 : decide ((40 : Int) < (len2 : Int)) = false := by rw [decide_eq_false_iff_not]; omega
  go_enter Try.func8, Try.ntmps8
  go_wp2_with fail
  refine (awake13 _).mono ?_
  rintro en w1 ⟨rfl, hb⟩
  have HB := Lib.hid ((((Below.refl w.heap.size w).alloc (Nat.le_refl _) _).alloc (by simp) _).trans (hb.mono (by simp; omega)))
  clear hb
  go_wp2_with fail
  go_ret
  exact ⟨rfl, HB.out⟩
theorem torn_text (s t : ByteArray) (k : Nat) (hs : s.size = 64) : (t.extract 0 k ++ s.extract k 64).data.toList = Rt.mix t.data.toList s.data.toList k := by
  rw [ByteArray.data_append, Array.toList_append, Lib.extract_data, Lib.extract_data]
  unfold Rt.mix
  rw [List.drop_zero, Nat.sub_zero, List.take_of_length_le (l := s.data.toList.drop k) (by rw [List.length_drop, size_list, hs]; exact Nat.le_refl _)]
/-- what lies in memory while the law runs -/
structure TW (w : World) (e l f m : Int) (A B : Option Addr) (len cap len2 cap2 : Nat) (T U : List Int) (wx : World) : Prop where
  b : Below w.heap.size w wx
  ia : Ints wx.heap.size wx A len cap T
  ib : Ints wx.heap.size wx B len2 cap2 U
  xa : DBox wx w.heap.size e l A len cap
  xb : DBox wx (w.heap.size + 1) f m B len2 cap2
theorem TW.to {w wx wy : World} {e l f m : Int} {A B : Option Addr} {len cap len2 cap2 : Nat} {T U : List Int} (h : TW w e l f m A B len cap len2 cap2 T U wx) (hb : Below wx.heap.size wx wy) : TW w e l f m A B len cap len2 cap2 T U wy :=
  ⟨h.b.trans (hb.mono h.b.size), h.ia.to hb, h.ib.to hb, h.xa.to hb, h.xb.to hb⟩
theorem TW.new {w : World} (e l f m : Int) {A B : Option Addr} {len cap len2 cap2 : Nat} {T U : List Int} (hA : Ints w.heap.size w A len cap T) (hB : Ints w.heap.size w B len2 cap2 U) :
    TW w e l f m A B len cap len2 cap2 T U ((w.alloc (.cells #[.int .i64 e, .int .i64 l, .slice A len cap] 38 (0, 0))).alloc (.cells #[.int .i64 f, .int .i64 m, .slice B len2 cap2] 38 (0, 0))) := by
  have hb : Below w.heap.size w ((w.alloc (.cells #[.int .i64 e, .int .i64 l, .slice A len cap] 38 (0, 0))).alloc (.cells #[.int .i64 f, .int .i64 m, .slice B len2 cap2] 38 (0, 0))) := ((Below.refl _ _).alloc (Nat.le_refl _) _).alloc (by simp) _
  refine ⟨hb, hA.to hb, hB.to hb, (⟨heap_alloc_new w _⟩ : DBox _ w.heap.size e l A len cap).to ((Below.refl _ _).alloc (Nat.le_refl _) _), ⟨?_⟩⟩
  have := heap_alloc_new (w.alloc (.cells #[.int .i64 e, .int .i64 l, .slice A len cap] 38 (0, 0))) (.cells #[.int .i64 f, .int .i64 m, .slice B len2 cap2] 38 (0, 0))
  rwa [show (w.alloc (.cells #[.int .i64 e, .int .i64 l, .slice A len cap] 38 (0, 0))).heap.size = w.heap.size + 1 by simp] at this
theorem drawn_box {w4 w5 : World} (hb : Below (w4.alloc (.cells #[.int .i64 0, .int .i64 0, .slice none 0 0] 40 (0, 0))).drew.heap.size (w4.alloc (.cells #[.int .i64 0, .int .i64 0, .slice none 0 0] 40 (0, 0))).drew w5) : RBox w5 w4.heap.size 0 0 none 0 0 := by
  have h : RBox (w4.alloc (.cells #[.int .i64 0, .int .i64 0, .slice none 0 0] 40 (0, 0))).drew w4.heap.size 0 0 none 0 0 := ⟨(RBox.new w4 0 0 none 0 0).at_⟩
  exact h.below hb (lt_of_block h.at_)
theorem torn_late {w w4 w5 : World} {o : Obj} (h : Below w.heap.size w w4) (hb : Below w4.drew.heap.size w4.drew w5) : Below w.heap.size w (w5.alloc o) := by
  have h5 : Below w.heap.size w w5 := (below_drewN h 1).trans (hb.mono h.size)
  exact h5.alloc h5.size o
theorem torn_early {w w4 w5 : World} {o : Obj} {x y z : Value} (h : Below w.heap.size w w4) (hb : Below (w4.alloc o).drew.heap.size (w4.alloc o).drew w5) : Below w.heap.size w (((w5.setCell ⟨w4.heap.size, 0, none⟩ x).setCell ⟨w4.heap.size, 1, none⟩ y).setCell ⟨w4.heap.size, 2, none⟩ z) := by
  have h4 : Below w.heap.size w (w4.alloc o).drew := below_drewN (h.alloc h.size o) 1
  have h5 : Below w.heap.size w w5 := h4.trans (hb.mono h4.size)
  exact ((h5.setCell h.size x).setCell h.size y).setCell h.size z
theorem Ints.far {lo : Nat} {w : World} {A : Option Addr} {len cap : Nat} {T : List Int} (h : Ints lo w A len cap T) {g : Nat} (hA : ∀ ad, A = some ad → g < ad.block) (k : Nat) (v : Value) : Ints lo (w.setCell ⟨g, k, none⟩ v) A len cap T :=
  ⟨h.big, h.le, h.n, fun j hj => by
    obtain ⟨ad, e, hl, hc⟩ := h.at_ j hj
    refine ⟨ad, e, hl, ?_⟩
    rw [World.cell?_of_block (Deep.blk_setCell_other w ⟨g, k, none⟩ v (ad.add j).block (by rw [addr_block]; exact Nat.ne_of_gt (hA ad e))), hc]⟩
/-- what lies in memory at the law's last test -/
structure EndW (w : World) (e l f m : Int) (A B : Option Addr) (len cap len2 cap2 : Nat) (T U : List Int) (gx : Nat) (x y : Int) (A5 : Option Addr) (len5 cap5 : Nat) (P : List Int) (wz : World) : Prop where
  t : TW w e l f m A B len cap len2 cap2 T U wz
  x : RBox wz gx x y A5 len5 cap5
  i : Ints wz.heap.size wz A5 len5 cap5 P
theorem EndW.late {w w4 w5 : World} {e l f m : Int} {A B : Option Addr} {len cap len2 cap2 : Nat} {T U : List Int} {x y : Int} {A5 : Option Addr} {len5 cap5 : Nat} {P : List Int} (h : TW w e l f m A B len cap len2 cap2 T U w4)
    (_hf : ∀ ad, A5 = some ad → w4.drew.heap.size ≤ ad.block) (hi : Ints w5.heap.size w5 A5 len5 cap5 P) (hb : Below w4.drew.heap.size w4.drew w5) :
    EndW w e l f m A B len cap len2 cap2 T U w5.heap.size x y A5 len5 cap5 P (w5.alloc (.cells #[.int .i64 x, .int .i64 y, .slice A5 len5 cap5] 40 (0, 0))) := by
  have hb' : Below w5.heap.size w5 (w5.alloc (.cells #[.int .i64 x, .int .i64 y, .slice A5 len5 cap5] 40 (0, 0))) := (Below.refl _ _).alloc (Nat.le_refl _) _
  have h5 : Below w4.heap.size w4 w5 := (below_drewN (Below.refl w4.heap.size w4) 1).trans hb
  exact ⟨(h.to h5).to hb', RBox.new w5 _ _ _ _ _, hi.to hb'⟩
theorem EndW.early {w w4 w5 : World} {e l f m : Int} {A B : Option Addr} {len cap len2 cap2 : Nat} {T U : List Int} {x y : Int} {A5 : Option Addr} {len5 cap5 : Nat} {P : List Int} (h : TW w e l f m A B len cap len2 cap2 T U w4)
    (hf : ∀ ad, A5 = some ad → (w4.alloc (.cells #[.int .i64 0, .int .i64 0, .slice none 0 0] 40 (0, 0))).drew.heap.size ≤ ad.block) (hi : Ints w5.heap.size w5 A5 len5 cap5 P)
    (hb : Below (w4.alloc (.cells #[.int .i64 0, .int .i64 0, .slice none 0 0] 40 (0, 0))).drew.heap.size (w4.alloc (.cells #[.int .i64 0, .int .i64 0, .slice none 0 0] 40 (0, 0))).drew w5) :
    EndW w e l f m A B len cap len2 cap2 T U w4.heap.size x y A5 len5 cap5 P (((w5.setCell ⟨w4.heap.size, 0, none⟩ (.int .i64 x)).setCell ⟨w4.heap.size, 1, none⟩ (.int .i64 y)).setCell ⟨w4.heap.size, 2, none⟩ (.slice A5 len5 cap5)) := by
  have hx := (drawn_box hb).at_
  have hlt : w4.heap.size < (w4.alloc (.cells #[.int .i64 0, .int .i64 0, .slice none 0 0] 40 (0, 0))).drew.heap.size := lt_of_block (show (w4.alloc (.cells #[.int .i64 0, .int .i64 0, .slice none 0 0] 40 (0, 0))).drew.heap[w4.heap.size]? = _ from heap_alloc_new w4 _)
  have hA : ∀ ad, A5 = some ad → w4.heap.size < ad.block := fun ad ee => Nat.lt_of_lt_of_le hlt (hf ad ee)
  have h4 : Below w4.heap.size w4 (w4.alloc (.cells #[.int .i64 0, .int .i64 0, .slice none 0 0] 40 (0, 0))).drew := below_drewN ((Below.refl _ _).alloc (Nat.le_refl _) _) 1
  have h5 : Below w4.heap.size w4 w5 := h4.trans (hb.mono h4.size)
  refine ⟨h.to (((h5.setCell (Nat.le_refl _) _).setCell (Nat.le_refl _) _).setCell (Nat.le_refl _) _), ⟨?_⟩, ?_⟩
  · exact set_block (set_block (set_block hx 0 _) 1 _) 2 _
  · exact (((hi.far hA 0 _).far hA 1 _).far hA 2 _).up (by simp [World.setCell])
set_option maxRecDepth 100000 in
set_option maxHeartbeats 4000000 in
theorem torn_main {w : World} (e l f m : Int) (c : Nat) {A B : Option Addr} {len cap len2 cap2 : Nat} {T U : List Int} (hA : Ints w.heap.size w A len cap T) (hB : Ints w.heap.size w B len2 cap2 U) (h1 : ¬ 40 < len) (h2 : ¬ 40 < len2) (h3 : ¬ e = f) (hc : c ≤ 255) :
    Calls Try.prog 8 #[rootV e l A len cap, rootV f m B len2 cap2, .int .u8 (c : Int)] w fun e w' => e = .returned (.bool true) ∧ Below w.heap.size w w' := by
  have H0 := Lib.hid (TW.new e l f m hA hB)
  have d1 : decide ((40 : Int) < (len : Int)) = false := by rw [decide_eq_false_iff_not]; omega
  have d2 : decide ((40 : Int) < (len2 : Int)) = false := by rw [decide_eq_false_iff_not]; omega
  have d3 : (e == f) = false := by simpa using h3
  have hlc := hA.le
  have hcb := hA.big
  have hlc2 := hB.le
  have hcb2 := hB.big
  have H3 := Lib.hid h3
  clear hA hB h3
  unfold rootV
  go_enter Try.func8, Try.ntmps8
  go_wp2_with fail
  refine (to_any e l A len cap _).mono ?_
  rintro en w1 ⟨rfl, hb1⟩
  have H1 := Lib.hid (H0.out.to hb1)
  clear hb1 H0
  obtain ⟨a0, a1, a2⟩ := H1.out.xb.q
  unfold rootV
  go_wp2_with fail
  refine (put_any e l H1.out.ia).mono ?_
  rintro en w2 ⟨rfl, hb2⟩
  have H2 := Lib.hid (H1.out.to hb2)
  clear hb2 H1 a0 a1 a2
  obtain ⟨a0, a1, a2⟩ := H2.out.xb.q
  generalize hSa : (⟨(Rt.put ⟨e, l, T⟩).1.toArray⟩ : ByteArray) = SA at *
  generalize hEa : (Rt.put ⟨e, l, T⟩).2 = EA at *
  have HSa := Lib.hid hSa
  have HEa := Lib.hid hEa
  clear hSa hEa
  go_wp2_with fail
  refine (to_any f m B len2 cap2 _).mono ?_
  rintro en w3 ⟨rfl, hb3⟩
  have H3' := Lib.hid (H2.out.to hb3)
  clear hb3 H2 a0 a1 a2
  unfold rootV
  go_wp2_with fail
  refine (put_any f m H3'.out.ib).mono ?_
  rintro en w4 ⟨rfl, hb4⟩
  have H4 := Lib.hid (H3'.out.to hb4)
  clear hb4 H3'
  generalize hSb : (⟨(Rt.put ⟨f, m, U⟩).1.toArray⟩ : ByteArray) = SB at *
  generalize hEb : (Rt.put ⟨f, m, U⟩).2 = EB at *
  have HSb := Lib.hid hSb
  have HEb := Lib.hid hEb
  clear hSb hEb
  cases hra : Rt.right ⟨e, l, T⟩
  · rw [put_no hra] at HEa
    obtain rfl := HEa.out
    clear HEa hra
    go_wp2_with fail
    refine (awake13 _).mono ?_
    rintro en w5 ⟨rfl, hb5⟩
    have H5 := Lib.hid (H4.out.to hb5)
    clear hb5 H4
    go_wp2_with fail
    go_ret
    exact ⟨rfl, H5.out.b⟩
  · rw [put_yes hra] at HEa HSa
    obtain rfl := HEa.out
    cases hrb : Rt.right ⟨f, m, U⟩
    · rw [put_no hrb] at HEb
      obtain rfl := HEb.out
      clear HEb hra hrb
      go_wp2_with fail
      refine (awake13 _).mono ?_
      rintro en w5 ⟨rfl, hb5⟩
      have H5 := Lib.hid (H4.out.to hb5)
      clear hb5 H4
      go_wp2_with fail
      go_ret
      exact ⟨rfl, H5.out.b⟩
    · rw [put_yes hrb] at HEb HSb
      obtain rfl := HEb.out
      have HRa := Lib.hid hra
      have HRb := Lib.hid hrb
      have hsa : SA.size = 64 := by rw [← HSa.out]; exact Rt.laid_length (Rt.parts_le hra)
      have hsb : SB.size = 64 := by rw [← HSb.out]; exact Rt.laid_length (Rt.parts_le hrb)
      clear HEa HEb hra hrb
      go_wp2_with fail
      rw [show (c : Int) % 65 = ((c % 65 : Nat) : Int) by omega]
      have hk : c % 65 ≤ 64 := by omega
      generalize c % 65 = k at *
      have HTx := Lib.hid (torn_text SA SB k hsa)
      have hsx : (SB.extract 0 k ++ SA.extract k 64).size ≤ 9223372036854775807 := by simp [ByteArray.size_append, hsa, hsb]; omega
      have HSx := Lib.hid hsx
      have g0 : 0 ≤ (k : Int) := by omega
      have g1 : (k : Int) ≤ 64 := by omega
      have g2 : (k : Int).toNat = k := by omega
      clear hsx
      by_cases hex : ∃ r, Rt.right r = true ∧ Rt.laid r = (SB.extract 0 k ++ SA.extract k 64).data.toList
      · obtain ⟨r, hr, hl⟩ := hex
        have HG : Hid (∀ w', Calls Try.prog 21 #[.string (SB.extract 0 k ++ SA.extract k 64)] w' (GotOf r w')) := Lib.hid fun w' => by
          rw [← bytes_of _ _ hl]
          exact get_laid r hr w'
        have hr2 := Rt.torn HRa.out HRb.out hr H3.out k hk (by rw [hl, HTx.out, ← HSa.out, ← HSb.out])
        clear hr hl HTx HSx HRa HRb HSa HSb
        rcases hr2 with rfl | rfl
        · unfold GotOf at HG
          simp only at HG
          go_region_with ((with_reducible refine (HG.out _).mono ?_); rintro en w5 ⟨A5, len5, cap5, rfl, hf5, hi5, hb5⟩; unfold rootV; (first | (have hx5 := drawn_box hb5; obtain ⟨hz5, c0, c1, c2, f0, f1, f2⟩ := hx5.all; clear hx5) | skip))
          · have HE : Hid (EndW w e l f m A B len cap len2 cap2 T U (w5.heap.size) e l A5 len5 cap5 T (w5.alloc (.cells #[.int .i64 e, .int .i64 l, .slice A5 len5 cap5] 40 (0, 0)))) := Lib.hid (EndW.late H4.out hf5 hi5 hb5)
            clear hf5 hi5 hb5 H4
            go_wp2_with fail
            generalize w5.alloc (.cells #[.int .i64 e, .int .i64 l, .slice A5 len5 cap5] 40 (0, 0)) = wz at *
            generalize w5.heap.size = gx at *
            obtain ⟨x0, x1, x2⟩ := HE.out.x.q
            have x3 := fun d os => cell_regrown x0 d os
            have x4 := fun d os => cell_regrown x1 d os
            have x5 := fun d os => cell_regrown x2 d os
            obtain ⟨y0, y1, y2⟩ := HE.out.t.xa.q
            have y3 := fun d os => cell_regrown y0 d os
            have y4 := fun d os => cell_regrown y1 d os
            have y5 := fun d os => cell_regrown y2 d os
            obtain rfl : len5 = len := by rw [← HE.out.i.n, HE.out.t.ia.n]
            have HS := Lib.hid (fun d os => same_yes e l (HE.out.i.to (below_regrown wz d os)) (HE.out.t.ia.to (below_regrown wz d os)))
            clear x0 x1 x2 y0 y1 y2
            unfold rootV at HS
            refine wp_region_quiet_below (by kernel_rfl) (by kernel_rfl) ?_
            quiet_step (exact Calls.regrown_of (awake13 _))
            repeat (quiet_step (fail))
            quiet_step (exact Calls.regrown_of (of_any _ _ _ _ _ _))
            repeat (quiet_step (fail))
            quiet_step (exact Calls.regrown_of (HS.out _ _))
            repeat (quiet_step (fail))
            refine wpQuiet_nil ?_
            intro _ hw'
            obtain ⟨⟨dq, osq⟩, hw''⟩ := hw'
            subst hw''
            go_wp2_with fail
            go_ret
            exact ⟨rfl, HE.out.t.b.trans ((below_regrown _ dq osq).mono HE.out.t.b.size)⟩
          · have HE : Hid (EndW w e l f m A B len cap len2 cap2 T U (w4.heap.size) e l A5 len5 cap5 T (((w5.setCell ⟨w4.heap.size, 0, none⟩ (.int .i64 e)).setCell ⟨w4.heap.size, 1, none⟩ (.int .i64 l)).setCell ⟨w4.heap.size, 2, none⟩ (.slice A5 len5 cap5))) := Lib.hid (EndW.early H4.out hf5 hi5 hb5)
            clear hf5 hi5 hb5 H4 hz5 c0 c1 c2 f0 f1 f2
            go_wp2_with fail
            generalize ((w5.setCell ⟨w4.heap.size, 0, none⟩ (.int .i64 e)).setCell ⟨w4.heap.size, 1, none⟩ (.int .i64 l)).setCell ⟨w4.heap.size, 2, none⟩ (.slice A5 len5 cap5) = wz at *
            generalize w4.heap.size = gx at *
            obtain ⟨x0, x1, x2⟩ := HE.out.x.q
            have x3 := fun d os => cell_regrown x0 d os
            have x4 := fun d os => cell_regrown x1 d os
            have x5 := fun d os => cell_regrown x2 d os
            obtain ⟨y0, y1, y2⟩ := HE.out.t.xa.q
            have y3 := fun d os => cell_regrown y0 d os
            have y4 := fun d os => cell_regrown y1 d os
            have y5 := fun d os => cell_regrown y2 d os
            obtain rfl : len5 = len := by rw [← HE.out.i.n, HE.out.t.ia.n]
            have HS := Lib.hid (fun d os => same_yes e l (HE.out.i.to (below_regrown wz d os)) (HE.out.t.ia.to (below_regrown wz d os)))
            clear x0 x1 x2 y0 y1 y2
            unfold rootV at HS
            refine wp_region_quiet_below (by kernel_rfl) (by kernel_rfl) ?_
            quiet_step (exact Calls.regrown_of (awake13 _))
            repeat (quiet_step (fail))
            quiet_step (exact Calls.regrown_of (of_any _ _ _ _ _ _))
            repeat (quiet_step (fail))
            quiet_step (exact Calls.regrown_of (HS.out _ _))
            repeat (quiet_step (fail))
            refine wpQuiet_nil ?_
            intro _ hw'
            obtain ⟨⟨dq, osq⟩, hw''⟩ := hw'
            subst hw''
            go_wp2_with fail
            go_ret
            exact ⟨rfl, HE.out.t.b.trans ((below_regrown _ dq osq).mono HE.out.t.b.size)⟩
        · unfold GotOf at HG
          simp only at HG
          go_region_with ((with_reducible refine (HG.out _).mono ?_); rintro en w5 ⟨A5, len5, cap5, rfl, hf5, hi5, hb5⟩; unfold rootV; (first | (have hx5 := drawn_box hb5; obtain ⟨hz5, c0, c1, c2, f0, f1, f2⟩ := hx5.all; clear hx5) | skip))
          · have HE : Hid (EndW w e l f m A B len cap len2 cap2 T U (w5.heap.size) f m A5 len5 cap5 U (w5.alloc (.cells #[.int .i64 f, .int .i64 m, .slice A5 len5 cap5] 40 (0, 0)))) := Lib.hid (EndW.late H4.out hf5 hi5 hb5)
            clear hf5 hi5 hb5 H4
            go_wp2_with fail
            generalize w5.alloc (.cells #[.int .i64 f, .int .i64 m, .slice A5 len5 cap5] 40 (0, 0)) = wz at *
            generalize w5.heap.size = gx at *
            obtain ⟨x0, x1, x2⟩ := HE.out.x.q
            have x3 := fun d os => cell_regrown x0 d os
            have x4 := fun d os => cell_regrown x1 d os
            have x5 := fun d os => cell_regrown x2 d os
            obtain ⟨y0, y1, y2⟩ := HE.out.t.xa.q
            have y3 := fun d os => cell_regrown y0 d os
            have y4 := fun d os => cell_regrown y1 d os
            have y5 := fun d os => cell_regrown y2 d os
            obtain rfl : len5 = len2 := by rw [← HE.out.i.n, HE.out.t.ib.n]
            obtain ⟨z0, z1, z2⟩ := HE.out.t.xb.q
            have z3 := fun d os => cell_regrown z0 d os
            have z4 := fun d os => cell_regrown z1 d os
            have z5 := fun d os => cell_regrown z2 d os
            have HN := Lib.hid (fun (w' : World) => same_no (w := w') (A := A5) (B := A) (len := len5) (cap := cap5) (len2 := len) (cap2 := cap) f m e l (fun h => H3.out h.symm))
            have HS := Lib.hid (fun d os => same_yes f m (HE.out.i.to (below_regrown wz d os)) (HE.out.t.ib.to (below_regrown wz d os)))
            clear z0 z1 z2
            clear x0 x1 x2 y0 y1 y2
            unfold rootV at HS HN
            refine wp_region_quiet_below (by kernel_rfl) (by kernel_rfl) ?_
            quiet_step (exact Calls.regrown_of (awake13 _))
            repeat (quiet_step (fail))
            quiet_step (exact Calls.regrown_of (of_any _ _ _ _ _ _))
            repeat (quiet_step (fail))
            quiet_step (exact Calls.regrown_of (HN.out _))
            repeat (quiet_step (fail))
            quiet_step (exact Calls.regrown_of (of_any _ _ _ _ _ _))
            repeat (quiet_step (fail))
            quiet_step (exact Calls.regrown_of (HS.out _ _))
            repeat (quiet_step (fail))
            refine wpQuiet_nil ?_
            intro _ hw'
            obtain ⟨⟨dq, osq⟩, hw''⟩ := hw'
            subst hw''
            go_wp2_with fail
            go_ret
            exact ⟨rfl, HE.out.t.b.trans ((below_regrown _ dq osq).mono HE.out.t.b.size)⟩
          · have HE : Hid (EndW w e l f m A B len cap len2 cap2 T U (w4.heap.size) f m A5 len5 cap5 U (((w5.setCell ⟨w4.heap.size, 0, none⟩ (.int .i64 f)).setCell ⟨w4.heap.size, 1, none⟩ (.int .i64 m)).setCell ⟨w4.heap.size, 2, none⟩ (.slice A5 len5 cap5))) := Lib.hid (EndW.early H4.out hf5 hi5 hb5)
            clear hf5 hi5 hb5 H4 hz5 c0 c1 c2 f0 f1 f2
            go_wp2_with fail
            generalize ((w5.setCell ⟨w4.heap.size, 0, none⟩ (.int .i64 f)).setCell ⟨w4.heap.size, 1, none⟩ (.int .i64 m)).setCell ⟨w4.heap.size, 2, none⟩ (.slice A5 len5 cap5) = wz at *
            generalize w4.heap.size = gx at *
            obtain ⟨x0, x1, x2⟩ := HE.out.x.q
            have x3 := fun d os => cell_regrown x0 d os
            have x4 := fun d os => cell_regrown x1 d os
            have x5 := fun d os => cell_regrown x2 d os
            obtain ⟨y0, y1, y2⟩ := HE.out.t.xa.q
            have y3 := fun d os => cell_regrown y0 d os
            have y4 := fun d os => cell_regrown y1 d os
            have y5 := fun d os => cell_regrown y2 d os
            obtain rfl : len5 = len2 := by rw [← HE.out.i.n, HE.out.t.ib.n]
            obtain ⟨z0, z1, z2⟩ := HE.out.t.xb.q
            have z3 := fun d os => cell_regrown z0 d os
            have z4 := fun d os => cell_regrown z1 d os
            have z5 := fun d os => cell_regrown z2 d os
            have HN := Lib.hid (fun (w' : World) => same_no (w := w') (A := A5) (B := A) (len := len5) (cap := cap5) (len2 := len) (cap2 := cap) f m e l (fun h => H3.out h.symm))
            have HS := Lib.hid (fun d os => same_yes f m (HE.out.i.to (below_regrown wz d os)) (HE.out.t.ib.to (below_regrown wz d os)))
            clear z0 z1 z2
            clear x0 x1 x2 y0 y1 y2
            unfold rootV at HS HN
            refine wp_region_quiet_below (by kernel_rfl) (by kernel_rfl) ?_
            quiet_step (exact Calls.regrown_of (awake13 _))
            repeat (quiet_step (fail))
            quiet_step (exact Calls.regrown_of (of_any _ _ _ _ _ _))
            repeat (quiet_step (fail))
            quiet_step (exact Calls.regrown_of (HN.out _))
            repeat (quiet_step (fail))
            quiet_step (exact Calls.regrown_of (of_any _ _ _ _ _ _))
            repeat (quiet_step (fail))
            quiet_step (exact Calls.regrown_of (HS.out _ _))
            repeat (quiet_step (fail))
            refine wpQuiet_nil ?_
            intro _ hw'
            obtain ⟨⟨dq, osq⟩, hw''⟩ := hw'
            subst hw''
            go_wp2_with fail
            go_ret
            exact ⟨rfl, HE.out.t.b.trans ((below_regrown _ dq osq).mono HE.out.t.b.size)⟩
      · have HG : Hid (∀ w', Calls Try.prog 21 #[.string (SB.extract 0 k ++ SA.extract k 64)] w' fun e w'' => e = .returned (.tuple #[.agg #[.int .i64 0, .int .i64 0, .slice none 0 0], .bool false]) ∧ Below w'.heap.size w' w'') := Lib.hid fun w' => (root_get _ w' HSx.out).mono fun _ _ hh => by
          rcases hh with hh | ⟨r, _, _, _, _, hr, hl, _⟩
          · exact ⟨hh.1, hh.2.2⟩
          · exact absurd ⟨r, hr, hl⟩ hex
        clear hex HTx HSx
        go_region_with ((with_reducible refine (HG.out _).mono ?_); rintro en w5 ⟨rfl, hb5⟩; (first | (have hx5 := drawn_box hb5; obtain ⟨hz5, c0, c1, c2, f0, f1, f2⟩ := hx5.all; clear hx5) | skip))
        all_goals
          go_wp2_with fail
          refine wp_region_quiet_below (by kernel_rfl) (by kernel_rfl) ?_
          repeat (quiet_step (exact Calls.regrown_of (awake13 _)))
          refine wpQuiet_nil ?_
          intro _ hw'
          obtain ⟨⟨dq, osq⟩, hw''⟩ := hw'
          subst hw''
          go_wp2_with fail
          go_ret
          first
          | exact ⟨rfl, (torn_late H4.out.b hb5).trans ((below_regrown _ dq osq).mono (torn_late H4.out.b hb5).size)⟩
          | exact ⟨rfl, (torn_early H4.out.b hb5).trans ((below_regrown _ dq osq).mono (torn_early H4.out.b hb5).size)⟩
end Go.Proofs.Ytbjkefodlnkaeaa
