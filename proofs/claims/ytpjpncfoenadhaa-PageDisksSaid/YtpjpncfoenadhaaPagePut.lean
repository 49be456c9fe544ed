/- A page's bytes, laid by the program and by the document's answer. Condition: the identity is within an int. -/
import Derived.Test.YtpjpncfoenadhaaPageRight
import Derived.Lib.QuietBelow
import Derived.Deep.LoopGhost
import Derived.Deep.CutRange
namespace Go.Proofs.Ytpjpncfoenadhaa
open Go.RowKit Go.WideShapes Pg

/-- the box that the closure holds, and its row -/
structure AddR (w0 : World) (b : Nat) (l : List UInt8) (v : Value) (wr : World) : Prop where
  box : wr.heap[b]? = some (.cells #[v] 81 (0, 0))
  own : wr.ownsRow (b + 1) 5 1 v l.length (bs l)
  lo : w0.heap.size ≤ b
  b : Below w0.heap.size w0 wr
theorem AddR.below {w0 wr w' : World} {b : Nat} {l : List UInt8} {v : Value} (h : AddR w0 b l v wr) (hb : Below wr.heap.size wr w') : AddR w0 b l v w' := by
  have hlt := lt_of_block h.box
  refine ⟨(hb.block _ hlt).trans h.box, ?_, h.lo, h.b.trans (hb.mono h.b.size)⟩
  refine ⟨h.own.1, ?_⟩
  rcases h.own.2 with hn | ⟨g, cap, cur, rfl, hbg, hg, r⟩
  · exact .inl hn
  · exact .inr ⟨g, cap, cur, rfl, hbg, (hb.block g (lt_of_block hg)).trans hg, r⟩
theorem AddR.cell {w0 wr : World} {b : Nat} {l : List UInt8} {v : Value} (h : AddR w0 b l v wr) : wr.cell? ⟨b, 0, none⟩ = some v ∧ wr.frozen? ⟨b, 0, none⟩ = false :=
  ⟨cell_of_row wr b 0 _ _ (0, 0) h.box, frozen_of_row wr b 0 _ _ h.box⟩
theorem AddR.past {w0 wr w1 : World} {b : Nat} {l : List UInt8} {v : Value} (h : AddR w0 b l v wr) (hg : wr.grownBy w1 v.ownBlock) : w1.cell? ⟨b, 0, none⟩ = some v ∧ w1.frozen? ⟨b, 0, none⟩ = false ∧ w1.heap[b]? = some (.cells #[v] 81 (0, 0)) := by
  have hlt := lt_of_block h.box
  have e : w1.heap[b]? = some (.cells #[v] 81 (0, 0)) := (hg.block b hlt (fun e => by have := (h.own.lt b e.symm).1; omega)).trans h.box
  exact ⟨cell_of_row w1 b 0 _ _ (0, 0) e, frozen_of_row w1 b 0 _ _ e, e⟩
/-- the row has grown, the box is written -/
theorem AddR.grow {w0 wr w1 : World} {b : Nat} {l m : List UInt8} {v v' : Value} (h : AddR w0 b l v wr) (hg : wr.grownBy w1 v.ownBlock) (hown : w1.ownsRow (b + 1) 5 1 v' (l.length + m.length) (bs l ++ bs m)) :
    AddR w0 b (l ++ m) v' (w1.setCell ⟨b, 0, none⟩ v') := by
  have hlt := lt_of_block h.box
  have e := (h.past hg).2.2
  refine ⟨by rw [heap_setCell_same _ _ _ _ _ _ e]; rfl, ?_, h.lo, ?_⟩
  · rw [List.length_append, bs_append]
    refine ⟨hown.1, ?_⟩
    rcases hown.2 with hn | ⟨g, cap, cur, rfl, hbg, hgg, r⟩
    · exact .inl hn
    · exact .inr ⟨g, cap, cur, rfl, hbg, (Below.heap_setCell _ _ _ _ (show g ≠ b by omega)).trans hgg, r⟩
  · have hlo := h.lo
    refine h.b.trans ⟨hg.os, hg.tape, hg.output, Nat.le_trans hg.size (by simp [World.setCell]), fun i hi => ?_⟩
    rw [Below.heap_setCell _ _ _ _ (show i ≠ b by omega)]
    exact hg.block i (by omega) (fun e => by have := (h.own.lt i e.symm).1; omega)
theorem AddR.new (w : World) : AddR w w.heap.size [] (.slice none 0 0) (w.alloc (.cells #[.slice none 0 0] 81 (0, 0))) :=
  ⟨World.alloc_heap_new w _, World.ownsRow_nil _ _ _ _, Nat.le_refl _, (Below.refl _ _).alloc (Nat.le_refl _) _⟩
def Added (w0 : World) (b : Nat) (l : List UInt8) (e : Ending) (w' : World) : Prop := e = .returned (.tuple #[]) ∧ ∃ v, AddR w0 b l v w'
set_option maxRecDepth 100000 in
set_option maxHeartbeats 2000000 in
theorem add_any {w0 w : World} {b : Nat} {l : List UInt8} {v : Value} (h : AddR w0 b l v w) (s : List UInt8) (hs : l.length + s.length ≤ 4000) :
    Calls Try.prog 56 #[.string ⟨s.toArray⟩, .pointer (some ⟨b, 0, none⟩)] w (Added w0 b (l ++ s)) := by
  obtain ⟨i0, hi, hz0, hz1, hz2⟩ := info_parts u8_row
  obtain ⟨ad, n, cap, rfl, rfl⟩ := owns_form h.own
  have HA := Lib.hid h
  obtain ⟨hc, hf⟩ := h.cell
  have hsz : (⟨s.toArray⟩ : ByteArray).size = s.length := rfl
  have HZ := Lib.hid hsz
  have hst : Lib.strCells ⟨s.toArray⟩ = bs s := rfl
  have HT := Lib.hid hst
  clear h hsz hst
  go_enter Try.func56, Try.ntmps56
  go_wp2_with (at_builtin; refine Lib.wpList_append_own_string _ rfl (.tmp 3) (.tmp 4) 81 9 rfl (b + 1) 5 i0 Try.underlying81 Try.underlying9 hi hz0 hz1 hz2 _ _ _ rfl HA.out.own ⟨s.toArray⟩ rfl (by rw [HZ.out, show maxLen = 9223372036854775807 from rfl]; omega) (by rw [HZ.out]; omega) (by have := lt_of_block HA.out.box; omega) ?_; intro v2 w2 hown2 hgrow2 _; obtain ⟨ad2, m2, cap2, rfl, hm2⟩ := owns_form hown2; have p := HA.out.past hgrow2; have p1 := p.1; have p2 := p.2.1; have HG := Lib.hid (HA.out.grow (m := s) hgrow2 (by rw [HZ.out, HT.out] at hown2; exact hown2)); clear p hown2 hgrow2 hm2)
  go_end0
  exact ⟨rfl, _, HG.out⟩
/-- the page in its box -/
def PBox (w : World) (b : Nat) (p : Page) : Prop := w.heap[b]? = some (.cells #[.int .i64 p.id, .int .i64 p.epoch, .int .i64 p.kind, .string ⟨p.pay.toArray⟩] 56 (0, 0))
theorem PBox.below {w w' : World} {b B : Nat} {p : Page} (h : PBox w b p) (hb : Below B w w') (hB : b < B) : PBox w' b p := (hb.block b hB).trans h
theorem PBox.q {w : World} {b : Nat} {p : Page} (h : PBox w b p) : w.cell? ⟨b, 0, none⟩ = some (.int .i64 p.id) ∧ w.cell? ⟨b, 1, none⟩ = some (.int .i64 p.epoch) ∧ w.cell? ⟨b, 2, none⟩ = some (.int .i64 p.kind) ∧ w.cell? ⟨b, 3, none⟩ = some (.string ⟨p.pay.toArray⟩) :=
  ⟨cell_of_row w b 0 _ _ (0, 0) h, cell_of_row w b 1 _ _ (0, 0) h, cell_of_row w b 2 _ _ (0, 0) h, cell_of_row w b 3 _ _ (0, 0) h⟩
theorem PBox.new (w : World) (p : Page) : PBox (w.alloc (.cells #[.int .i64 p.id, .int .i64 p.epoch, .int .i64 p.kind, .string ⟨p.pay.toArray⟩] 56 (0, 0))) w.heap.size p := World.alloc_heap_new w _
/-- what Put holds while it lays -/
structure PutR (w w1 : World) (p : Page) (l : List UInt8) (v : Value) (wr : World) : Prop where
  add : AddR w1 w1.heap.size l v wr
  box : PBox wr w.heap.size p
  b : Below w.heap.size w wr
  z : w.heap.size < w1.heap.size
theorem PutR.below {w w1 wr w' : World} {p : Page} {l : List UInt8} {v : Value} (h : PutR w w1 p l v wr) (hb : Below wr.heap.size wr w') : PutR w w1 p l v w' :=
  ⟨h.add.below hb, h.box.below hb (lt_of_block h.box), h.b.trans (hb.mono h.b.size), h.z⟩
theorem putR_of {w w1 w' : World} {p : Page} {m : List UInt8} {v' : Value} (hp : PBox w1 w.heap.size p) (hw : Below w.heap.size w w1) (ha : AddR w1 w1.heap.size m v' w') : PutR w w1 p m v' w' :=
  ⟨ha, hp.below ha.b (lt_of_block hp), hw.trans (ha.b.mono (Nat.le_of_lt (lt_of_block hp))), lt_of_block hp⟩
theorem kind_tail (k : Nat) (hk : k ≤ 2147483647) : (⟨(Pk.beL 8 k).toArray⟩ : ByteArray).extract 4 8 = ⟨(Pk.beL 4 k).toArray⟩ := by
  have h4 : k < 256 ^ 4 := by have : (256 : Nat) ^ 4 = 4294967296 := rfl; omega
  have e := Pk.beL_zeros 4 4 k h4
  have hl := Pk.beL_length 4 k
  apply bytes_inj
  rw [Lib.extract_data]
  show List.take (8 - 4) (List.drop 4 (Pk.beL (4 + 4) k)) = Pk.beL 4 k
  rw [e, List.drop_append_of_le_length (by simp), List.drop_of_length_le (by simp), List.nil_append, List.take_of_length_le (by omega)]
theorem put_list_len (i e k : Nat) (s : List UInt8) : ([] ++ Pk.encI (i : Int) ++ Pk.encI (e : Int) ++ Pk.beL 4 k ++ s).length = 20 + s.length := by
  have h1 := Pk.encI_length (i : Int)
  have h2 := Pk.encI_length (e : Int)
  have h3 := Pk.beL_length 4 k
  generalize Pk.encI (i : Int) = a at *
  generalize Pk.encI (e : Int) = b at *
  generalize Pk.beL 4 k = c at *
  rw [List.nil_append, List.length_append, List.length_append, List.length_append]
  omega
theorem put_list (i e k : Nat) (s : List UInt8) : zerosTo ([] ++ Pk.encI (i : Int) ++ Pk.encI (e : Int) ++ Pk.beL 4 k ++ s) (232 - s.length) = body ⟨i, e, k, s⟩ := by
  show ([] ++ Pk.encI (i : Int) ++ Pk.encI (e : Int) ++ Pk.beL 4 k ++ s) ++ List.replicate (232 - s.length) 0 = (Pk.encI (i : Int) ++ (Pk.encI (e : Int) ++ Pk.beL 4 ((k : Nat) : Int).toNat)) ++ (s ++ List.replicate (232 - s.length) 0)
  have e0 : ((k : Nat) : Int).toNat = k := Int.toNat_natCast k
  rw [e0]
  generalize Pk.encI (i : Int) = a
  generalize Pk.encI (e : Int) = b
  generalize Pk.beL 4 k = c
  generalize List.replicate (232 - s.length) 0 = d
  rw [List.nil_append, List.append_assoc, List.append_assoc, List.append_assoc, List.append_assoc, List.append_assoc]
set_option maxRecDepth 100000 in
set_option maxHeartbeats 4000000 in
theorem put_ok (i e k : Nat) (s : List UInt8) (hi : i ≤ 9223372036854775807) (he : e ≤ 1099511627776) (hk : k ≤ 2147483647) (hs : s.length ≤ 232) (w : World) :
    Calls Try.prog 33 #[pageV ⟨i, e, k, s⟩] w fun en w' => en = .returned (.tuple #[.string ⟨(Crc.lay (body ⟨i, e, k, s⟩)).toArray⟩, .int .i64 0]) ∧ Below w.heap.size w w' := by
  have HRt := Lib.hid (show right ⟨i, e, k, s⟩ = true from decide_eq_true ⟨by simp, by simp, by simpa using (show (e : Int) ≤ 1099511627776 by omega), by simp, by simpa using (show (k : Int) ≤ 2147483647 by omega)⟩)
  have HB0 := Lib.hid (PBox.new w ⟨i, e, k, s⟩)
  have hsI : ¬ (232 : Int) < (s.length : Int) := by omega
  unfold pageV
  simp only
  go_enter Try.func33, Try.ntmps33
  go_wp2_with fail
  refine (right_any ⟨i, e, k, s⟩ _).mono ?_
  rintro en w1 ⟨rfl, hb⟩
  rw [HRt.out]
  have HB1 := Lib.hid (HB0.out.below hb (by simp))
  have HW1 := Lib.hid (((Below.refl w.heap.size w).alloc (Nat.le_refl _) _).trans (hb.mono (by simp)))
  have HI := Lib.hid (putR_of HB1.out HW1.out (AddR.new w1))
  obtain ⟨c0, c1, c2, c3⟩ := HB1.out.q
  obtain ⟨d0, d1, d2, d3⟩ := HI.out.box.q
  clear hb HB0
  go_wp2_with fail
  refine (i_any i _ hi).mono ?_
  rintro en w2 ⟨rfl, hb⟩
  have H2 := Lib.hid (HI.out.below hb)
  clear hb HI c0 c1 c2 c3 d0 d1 d2 d3
  go_wp2_with fail
  refine (add_any H2.out.add (Pk.encI i) (by rw [Pk.encI_length]; decide)).mono ?_
  rintro en w3 ⟨rfl, v3, ha⟩
  have H3 := Lib.hid (putR_of HB1.out HW1.out ha)
  obtain ⟨d0, d1, d2, d3⟩ := H3.out.box.q
  clear ha H2
  go_wp2_with fail
  refine (i_any e _ (by omega)).mono ?_
  rintro en w4 ⟨rfl, hb⟩
  have H4 := Lib.hid (H3.out.below hb)
  clear hb H3 d0 d1 d2 d3
  go_wp2_with fail
  refine (add_any H4.out.add (Pk.encI e) (by rw [List.length_append, Pk.encI_length, Pk.encI_length]; decide)).mono ?_
  rintro en w5 ⟨rfl, v5, ha⟩
  have H5 := Lib.hid (putR_of HB1.out HW1.out ha)
  obtain ⟨d0, d1, d2, d3⟩ := H5.out.box.q
  clear ha H4
  go_wp2_with fail
  refine (u_any k _ (by omega)).mono ?_
  rintro en w6 ⟨rfl, hb⟩
  have H6 := Lib.hid (H5.out.below hb)
  have hl8 := Pk.beL_length 8 k
  have hkt := kind_tail k hk
  clear hb H5 d0 d1 d2 d3
  go_wp2_with fail
  refine (add_any H6.out.add (Pk.beL 4 k) (by rw [List.length_append, List.length_append, Pk.encI_length, Pk.encI_length, Pk.beL_length]; decide)).mono ?_
  rintro en w7 ⟨rfl, v7, ha⟩
  have H7 := Lib.hid (putR_of HB1.out HW1.out ha)
  obtain ⟨d0, d1, d2, d3⟩ := H7.out.box.q
  clear ha H6 hl8 hkt
  have HF := Lib.hid (put_list i e k s)
  have HL := Lib.hid (put_list_len i e k s)
  go_upto_region 10 with (fail)
  go_cut [4] from 7 to 36 (fun s4 wx => s4 = .pointer (some ⟨w1.heap.size, 0, none⟩) ∧ ∃ v, Hid (PutR w w1 ⟨i, e, k, s⟩ ([] ++ Pk.encI (i : Int) ++ Pk.encI (e : Int) ++ Pk.beL 4 k ++ s) v wx))
  case first =>
    go_wp2_with fail
    refine (add_any H7.out.add s (by simp only [List.length_append, List.length_nil, Pk.encI_length, Pk.beL_length]; omega)).mono ?_
    rintro en w8 ⟨rfl, v8, ha⟩
    have H8 := Lib.hid (putR_of HB1.out HW1.out ha)
    clear ha H7 d0 d1 d2 d3
    go_wp2_with fail
    go_meet
    exact ⟨rfl, v8, H8⟩
  case rest =>
    obtain ⟨rfl, v8, H8⟩ := hcut
    clear H7 d0 d1 d2 d3
    generalize ([] ++ Pk.encI (i : Int) ++ Pk.encI (e : Int) ++ Pk.beL 4 k ++ s) = L at *
    obtain ⟨i0, zi, hz0, hz1, hz2⟩ := info_parts u8_row
    go_wp2_with fail
    go_loopg [37] (232 - s.length) (fun g _ wr => ∃ (j : Nat) (v : Value), j + g = 232 - s.length ∧ Hid (PutR w w1 ⟨i, e, k, s⟩ (zerosTo L j) v wr))
    case atStart => exact ⟨0, v8, by omega, by unfold zerosTo; rw [List.replicate_zero, List.append_nil]; exact H8⟩
    case round =>
      obtain ⟨j, v, hj, hR⟩ := hrel
      have hlen : (zerosTo L j).length = 20 + s.length + j := by
        have := HL.out
        simp only [zerosTo, List.length_append, List.length_replicate, this]
      have HN := Lib.hid hlen
      obtain ⟨ad, n, cap, rfl, hn⟩ := owns_form hR.out.add.own
      obtain ⟨c0, f0⟩ := hR.out.add.cell
      clear hlen
      rw [HN.out] at hn
      have HM := Lib.hid hn
      have hnb : n ≤ 20 + s.length + (232 - s.length) := by omega
      clear hn
      by_cases hlt : n < 252
      · have hltI : (n : Int) < 252 := by omega
        have HA := Lib.hid (hR.out.below ((Below.refl _ wr).alloc (Nat.le_refl _) (.cells #[.int .u8 0] 5 (0, 0))))
        obtain ⟨d0, g0⟩ := HA.out.add.cell
        go_wp2_with (at_builtin; refine wpList_append_own _ rfl (.tmp 40) (.tmp 41) 81 rfl (w1.heap.size + 1) 5 i0 (.int .u8 0) 1 1 Try.underlying81 zi hz0 hz1 hz2 rfl (by decide) _ _ _ rfl HA.out.add.own ⟨wr.heap.size, 0, none⟩ 1 1 [.int .u8 0] rfl rfl (one_news _ _ _) (one_cell _ _) (by rw [HN.out, show maxLen = 9223372036854775807 from rfl]; omega) (by rw [HN.out]; omega) (by have := lt_of_block hR.out.add.box; simp; omega) ?_; intro v2 w2 hown2 hgrow2 _; obtain ⟨ad2, m2, cap2, rfl, hm2⟩ := owns_form hown2; have p := HA.out.add.past hgrow2; have p1 := p.1; have p2 := p.2.1; have HG := Lib.hid (putR_of HB1.out HW1.out (HA.out.add.grow (m := [0]) hgrow2 hown2)); clear p hown2 hgrow2 hm2)
        go_wp2_with fail
        go_roundg (gk - 1)
        case measure => have := HM.out; omega
        case rel => exact ⟨j + 1, _, by have := HM.out; omega, by rw [show zerosTo L (j + 1) = zerosTo L j ++ [0] from by unfold zerosTo; rw [List.replicate_succ', List.append_assoc]]; exact HG⟩
      · have hltI : ¬ (n : Int) < 252 := by omega
        have hj2 : j = 232 - s.length := by have := HM.out; omega
        have hcv := conv_row (w := wr) (base := w1.heap.size + 1) (ad := ad) (n := n) (cap := cap) (l := zerosTo L j) (by rw [HM.out.trans HN.out.symm]; rw [HM.out.trans HN.out.symm] at hR; exact hR.out.add.own) (HM.out.trans HN.out.symm)
        have HJ := Lib.hid (show zerosTo L j = body ⟨i, e, k, s⟩ from by rw [hj2]; exact HF.out)
        have hbl : (body ⟨i, e, k, s⟩).length = 252 := body_length ⟨i, e, k, s⟩ hs
        rw [HJ.out] at hcv
        clear hj2 hj HF HJ HN HM hnb
        generalize hD : body ⟨i, e, k, s⟩ = D at *
        have HD := Lib.hid hD
        clear hD
        have hsz : (⟨D.toArray⟩ : ByteArray).size = 252 := hbl
        have HZ := Lib.hid hsz
        clear hsz hbl
        go_wp2_with fail
        refine (lay_any ⟨D.toArray⟩ _ (by rw [HZ.out]; decide)).mono ?_
        rintro en w9 ⟨rfl, hb9⟩
        have HB9 := Lib.hid (hR.out.b.trans (hb9.mono hR.out.b.size))
        clear hb9 hR hcv
        go_wp2_with fail
        go_ret2
        exact ⟨by rw [HD.out]; rfl, HB9.out⟩
theorem page_nat (p : Page) (h : right p = true) : ∃ i e k : Nat, p = ⟨i, e, k, p.pay⟩ ∧ e ≤ 1099511627776 ∧ k ≤ 2147483647 ∧ (p.id ≤ 9223372036854775807 → i ≤ 9223372036854775807) := by
  obtain ⟨h0, h1, h2, h3, h4⟩ := right_of h
  obtain ⟨a, b, c, s⟩ := p
  simp only at *
  refine ⟨a.toNat, b.toNat, c.toNat, ?_, by omega, by omega, by omega⟩
  rw [Int.toNat_of_nonneg h0, Int.toNat_of_nonneg h1, Int.toNat_of_nonneg h3]
def putV (p : Page) : Value := .tuple #[.string ⟨(put p).1.toArray⟩, .int .i64 (put p).2]
set_option maxRecDepth 100000 in
set_option maxHeartbeats 4000000 in
theorem put_any (p : Page) (w : World) (hi : p.id ≤ 9223372036854775807) (hs : p.pay.length ≤ 9223372036854775807) :
    Calls Try.prog 33 #[pageV p] w fun en w' => en = .returned (putV p) ∧ Below w.heap.size w w' := by
  cases hr : right p
  · have hp : putV p = .tuple #[.string ⟨#[]⟩, .int .i64 2] := by
      unfold putV put
      rw [if_pos hr]
    rw [hp]
    clear hp
    have HR := Lib.hid hr
    obtain ⟨i, e, k, s⟩ := p
    unfold pageV
    simp only
    clear hr
    go_enter Try.func33, Try.ntmps33
    go_wp2_with fail
    refine (right_any ⟨i, e, k, s⟩ _).mono ?_
    rintro en w1 ⟨rfl, hb⟩
    rw [HR.out]
    have HW1 := Lib.hid (((Below.refl w.heap.size w).alloc (Nat.le_refl _) _).trans (hb.mono (by simp)))
    clear hb
    go_wp2_with fail
    go_ret2
    exact ⟨rfl, HW1.out⟩
  · by_cases hl : 232 < p.pay.length
    · have hp : putV p = .tuple #[.string ⟨#[]⟩, .int .i64 4] := by
        unfold putV put
        rw [if_neg (by simp [hr]), if_pos hl]
      rw [hp]
      clear hp
      have HR := Lib.hid hr
      obtain ⟨i, e, k, s⟩ := p
      simp only at hl hs
      have hlI : (232 : Int) < (s.length : Int) := by omega
      have HB0 := Lib.hid (PBox.new w ⟨i, e, k, s⟩)
      unfold pageV
      simp only
      clear hr
      go_enter Try.func33, Try.ntmps33
      go_wp2_with fail
      refine (right_any ⟨i, e, k, s⟩ _).mono ?_
      rintro en w1 ⟨rfl, hb⟩
      rw [HR.out]
      have HW1 := Lib.hid (((Below.refl w.heap.size w).alloc (Nat.le_refl _) _).trans (hb.mono (by simp)))
      obtain ⟨d0, d1, d2, d3⟩ := (HB0.out.below hb (by simp)).q
      clear hb
      go_wp2_with fail
      go_ret2
      exact ⟨rfl, HW1.out⟩
    · have hp : putV p = .tuple #[.string ⟨(Crc.lay (body p)).toArray⟩, .int .i64 0] := by
        unfold putV put
        rw [if_neg (by simp [hr]), if_neg hl]
      rw [hp]
      obtain ⟨i, e, k, hpe, he, hk, hii⟩ := page_nat p hr
      generalize p.pay = s at *
      subst hpe
      exact put_ok i e k s (hii hi) he hk (by omega) w

end Go.Proofs.Ytpjpncfoenadhaa
