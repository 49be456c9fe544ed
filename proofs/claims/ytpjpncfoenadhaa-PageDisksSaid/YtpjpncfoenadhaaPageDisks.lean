/- PageDisks: every page that is written to a disk that crashes, or that somebody writes to, and what is read there. No condition. -/
import Derived.Test.YtpjpncfoenadhaaPageActs
import Derived.Test.YtpjpncfoenadhaaPageRefR
import Derived.Deep.RegionHeld3
import Derived.Deep.DeepCutAuto
namespace Go.Proofs.Ytpjpncfoenadhaa
open Go.ChangeShapes Go.WideShapes Go.ChangeAt Go.RowKit Go.ChangeMaps Pg Dk

theorem page_neql (a b c : Int) (s : ByteArray) (w : World) :
    (binOp .neq 56 (.agg #[.int .i64 a, .int .i64 b, .int .i64 c, .string s]) (.agg #[.int .i64 a, .int .i64 b, .int .i64 c, .string s])).run Try.prog w = .ok (.bool false) w := by
  have h1 : Try.prog.underlying 56 = some (.struct (Try.prog.fieldsOf 56)) := by kernel_rfl
  have h2 : Try.prog.stoodInHeld 56 = false := by kernel_rfl
  rw [run_neq_struct, run_equalIn_agg w 9999 _ _ _ h1 h2]
  simp [Program.fieldsOf, Try.underlying56, Op.eqFields, part, go_sem]
/-- the act in its box -/
def BoxP (w : World) (b : Nat) (a : PAct) (P : Option Addr) (l c : Nat) : Prop := w.heap[b]? = some (.cells (pactL a P l c).toArray 72 (0, 0))
theorem BoxP.q {w : World} {b : Nat} {a : PAct} {P : Option Addr} {l c : Nat} (h : BoxP w b a P l c) : ∀ j (v : Value), (pactL a P l c)[j]? = some v → w.cell? ⟨b, j, none⟩ = some v := fun j v hj => by
  rw [cell_of_row w b j _ _ (0, 0) h, List.getElem?_toArray]
  exact hj
theorem BoxP.touch {w w' : World} {b lo hi : Nat} {a : PAct} {P : Option Addr} {l c : Nat} (h : BoxP w b a P l c) (ht : Touch lo hi w w') (hb : hi ≤ b) : BoxP w' b a P l c :=
  (ht.block b (lt_of_block h) (.inr hb)).trans h
/-- between two rounds -/
structure PLaw (w : World) (k : DB) (r : RB) (wr : World) : Prop where
  two : ∃ A, Two w.heap.size wr k r A
  b : Below w.heap.size w wr
/-- in a round -/
structure Rd (w : World) (k : DB) (r : RB) (A : Dk.St) (b : Nat) (a : PAct) (P : Option Addr) (l c : Nat) (w1 : World) : Prop where
  two : Two w.heap.size w1 k r A
  box : BoxP w1 b a P l c
  rb : r.hi ≤ b
  bl : Below w.heap.size w w1
  keep : Bools w.heap.size w1 P l a.c.keep
section
variable {w : World} {k : DB} {r : RB} {A B : Dk.St} {b : Nat} {a : PAct} {P : Option Addr} {l c : Nat} {w1 w2 w3 : World}
theorem Rd.kb (h : Rd w k r A b a P l c w1) : k.hi ≤ b := by
  have h1 := h.two.ap
  have h2 := h.two.x.ok.g
  have h3 := h.rb
  omega
theorem Rd.law (h : Rd w k r A b a P l c w1) : PLaw w k r w1 := ⟨⟨A, h.two⟩, h.bl⟩
theorem Rd.both (h : Rd w k r A b a P l c w1) (hp : PD w2 k B) (ht : Touch k.lo k.hi w1 w2) (hx : XD w3 r B) (ht2 : Touch r.lo r.hi w2 w3) : Rd w k r B b a P l c w3 := by
  have h1 := h.two.both hp ht hx ht2
  exact ⟨h1.1, h.box.touch h1.2 h.rb, h.rb, h.bl.trans (h1.2.below h.two.lo h.bl.size), h.keep.touch h1.2 h.two.lo⟩
theorem Rd.below (h : Rd w k r A b a P l c w1) (hb : Below w1.heap.size w1 w2) : Rd w k r A b a P l c w2 :=
  ⟨h.two.below hb, (hb.block b (lt_of_block h.box)).trans h.box, h.rb, h.bl.trans (hb.mono h.bl.size), h.keep.touch (Touch.of_below (lo := w.heap.size) (hi := w.heap.size) hb) (Nat.le_refl _)⟩
theorem PLaw.below (h : PLaw w k r w1) (hb : Below w1.heap.size w1 w2) : PLaw w k r w2 := by
  obtain ⟨A, hT⟩ := h.two
  exact ⟨⟨A, hT.below hb⟩, h.b.trans (hb.mono h.b.size)⟩
end
set_option maxRecDepth 100000 in
set_option maxHeartbeats 16000000 in
theorem disks_any (s : Int) (P : Option Addr) (len cap : Nat) (w : World) (h0 : 0 ≤ s) (h1 : s ≤ 255) (ha : PActsAt w P len) :
    Calls Try.prog 14 #[.int .u8 s, .slice P len cap] w fun e w' => e = .returned (.bool true) ∧ Below w.heap.size w w' := by
  have HA := Lib.hid ha
  have hlen := ha.1
  rw [max_is] at hlen
  clear ha
  go_enter Try.func14, Try.ntmps14
  go_wp2_with fail
  have hz1 : 1 ≤ s % 40 + 1 := by omega
  have hz2 : s % 40 + 1 ≤ 40 := by omega
  generalize s % 40 + 1 = z at *
  obtain ⟨n, rfl⟩ := Int.eq_ofNat_of_zero_le (show 0 ≤ z by omega)
  have hn1 : 1 ≤ n := by omega
  have hn2 : n ≤ 4096 := by omega
  clear hz1 hz2
  generalize s % 40 = s40 at *
  refine (new_in n _ hn1 hn2).mono ?_
  rintro e w1 ⟨k, rfl, hp, hlo, hb⟩
  have HP := Lib.hid hp
  have HL := Lib.hid hlo
  have HB := Lib.hid hb
  clear hp hlo hb
  go_wp2_with fail
  refine (rmade_any n _ hn1 hn2).mono ?_
  rintro e w2 ⟨r, rfl, hx, hlo, hb⟩
  have HT : Hid (Two w.heap.size w2 k r (Dk.made n)) := ⟨HP.out.below hb, hx, Nat.le_of_eq HL.out.symm, by rw [hlo]; exact HP.out.inn⟩
  have HB2 := Lib.hid (HB.out.trans (hb.mono HB.out.size))
  have HM1 := Lib.hid (many_any HT.out.p)
  rw [Pg.n_made] at HM1
  have HM2 := Lib.hid (rmany_any n w2 hn2)
  clear hx hlo hb HP HL HB
  go_wp2_with fail
  refine HM1.out.mono ?_
  rintro e w' ⟨rfl, rfl⟩
  go_wp2_with fail
  refine HM2.out.mono ?_
  rintro e w' ⟨rfl, rfl⟩
  clear HM1 HM2
  go_wp2_with fail
  refine (pawake_any _).mono ?_
  rintro e w3 ⟨rfl, hb⟩
  have HI : Hid (PLaw w k r w3) := ⟨⟨_, HT.out.below hb⟩, HB2.out.trans (hb.mono HB2.out.size)⟩
  clear hb HT HB2
  go_wp2_with fail
  go_loopw [9] (fun i wr => ∃ m : Nat, m ≤ len ∧ m ≤ 40 ∧ i = .int .i64 m ∧ Hid (PLaw w k r wr)) (fun i _ => 100 - (intOf i).toNat)
  case atStart => exact ⟨0, Nat.zero_le _, Nat.zero_le _, rfl, HI⟩
  case round =>
    obtain ⟨m, hm, hm2, rfl, hR⟩ := hrel
    clear HI
    by_cases hlt : m < len
    · have hltI : (m : Int) < (len : Int) := by omega
      by_cases h40 : m < 40
      · have h40I : (m : Int) < 40 := by omega
        obtain ⟨ad, rfl, a, Q, l, c, hat⟩ := HA.out.2 m hlt
        obtain ⟨hq, hkp⟩ := hat.below hR.out.b
        have HOk := Lib.hid hat.ok
        obtain ⟨A, hT⟩ := hR.out.two
        have ea : ∀ j, 0 < j → (ad.add (m * 10)).add j = ⟨(ad.add (m * 10)).block, (ad.add (m * 10)).off + j, none⟩ := fun j hj => by
          unfold Addr.add
          rw [if_neg (by omega)]
        obtain ⟨kd, i, ⟨pi, pe, pk, ps⟩, s, ⟨ck, ct, cb⟩⟩ := a
        have q0 := hq 0 (.int .i64 kd) rfl
        rw [show (ad.add (m * 10)).add 0 = ad.add (m * 10) from rfl] at q0
        have q1 := hq 1 (.int .i64 i) rfl
        have q2 := hq 2 (.int .i64 pi) rfl
        have q3 := hq 3 (.int .i64 pe) rfl
        have q4 := hq 4 (.int .i64 pk) rfl
        have q5 := hq 5 (.string ⟨ps.toArray⟩) rfl
        have q6 := hq 6 (.string s) rfl
        have q7 := hq 7 (.slice Q l c) rfl
        have q8 := hq 8 (.int .i64 ct) rfl
        have q9 := hq 9 (.int .i64 cb) rfl
        rw [ea 1 (by decide)] at q1
        rw [ea 2 (by decide)] at q2
        rw [ea 3 (by decide)] at q3
        rw [ea 4 (by decide)] at q4
        rw [ea 5 (by decide)] at q5
        rw [ea 6 (by decide)] at q6
        rw [ea 7 (by decide)] at q7
        rw [ea 8 (by decide)] at q8
        rw [ea 9 (by decide)] at q9
        have hal : Below wr.heap.size wr (wr.alloc (.cells #[.int .i64 kd, .int .i64 i, .int .i64 pi, .int .i64 pe, .int .i64 pk, .string ⟨ps.toArray⟩, .string s, .slice Q l c, .int .i64 ct, .int .i64 cb] 72 (0, 0))) := (Below.refl _ _).alloc (Nat.le_refl _) _
        have HD : Hid (Rd w k r A wr.heap.size ⟨kd, i, ⟨pi, pe, pk, ps⟩, s, ⟨ck, ct, cb⟩⟩ Q l c (wr.alloc (.cells #[.int .i64 kd, .int .i64 i, .int .i64 pi, .int .i64 pe, .int .i64 pk, .string ⟨ps.toArray⟩, .string s, .slice Q l c, .int .i64 ct, .int .i64 cb] 72 (0, 0)))) :=
          ⟨hT.below hal, World.alloc_heap_new wr _, hT.x.inn, hR.out.b.trans (hal.mono hR.out.b.size), hkp.touch (Touch.of_below (lo := w.heap.size) (hi := w.heap.size) hal) (Nat.le_refl _)⟩
        clear ea hat hq hkp hT hal hR
        go_upto_region 14 with (fail)
        generalize wr.alloc (.cells #[.int .i64 kd, .int .i64 i, .int .i64 pi, .int .i64 pe, .int .i64 pk, .string ⟨ps.toArray⟩, .string s, .slice Q l c, .int .i64 ct, .int .i64 cb] 72 (0, 0)) = w4 at *
        generalize wr.heap.size = bx at *
        clear q0 q1 q2 q3 q4 q5 q6 q7 q8 q9
        have bk := HD.out.box.q 0 (.int .i64 kd) rfl
        have bi := HD.out.box.q 1 (.int .i64 i) rfl
        have b2 := HD.out.box.q 2 (.int .i64 pi) rfl
        have b3 := HD.out.box.q 3 (.int .i64 pe) rfl
        have b4 := HD.out.box.q 4 (.int .i64 pk) rfl
        have b5 := HD.out.box.q 5 (.string ⟨ps.toArray⟩) rfl
        have b6 := HD.out.box.q 6 (.string s) rfl
        have b7 := HD.out.box.q 7 (.slice Q l c) rfl
        have b8 := HD.out.box.q 8 (.int .i64 ct) rfl
        have b9 := HD.out.box.q 9 (.int .i64 cb) rfl
        by_cases hp6 : ps.length ≤ 600
        · have hp6I : ¬ (600 : Int) < (ps.length : Int) := by omega
          by_cases hs6 : s.size ≤ 600
          · have hs6I : ¬ (600 : Int) < (s.size : Int) := by omega
            by_cases k0 : kd = 0
            · subst k0
              have hd1 : Below w4.heap.size w4 w4.drew := below_drewN (Below.refl _ _) 1
              have HDd := Lib.hid (HD.out.below hd1)
              clear hd1
              have HW := Lib.hid (pwrite_any ⟨pi, pe, pk, ps⟩ HDd.out.two.p HOk.out.p.i1 HOk.out.p.s)
              have HX := Lib.hid (fun w' (hx : XD w' r A) => rpwrite_any ⟨pi, pe, pk, ps⟩ hx HOk.out.p.i1 HOk.out.p.s)
              unfold pageV at HW HX
              simp only at HW HX
              generalize Pg.write A ⟨pi, pe, pk, ps⟩ = R at *
              obtain ⟨e1, B⟩ := R
              unfold Left at HW
              unfold LeftR at HX
              simp only at HW HX
              go_upto_region 16 with (fail)
              go_cut [109] (fun v wx => v = .bool false ∧ Hid (PLaw w k r wx))
              case first =>
                go_region_held3 (fun w' => w'.cell? ⟨bx, 2, none⟩ = some (.int .i64 pi) ∧ w'.cell? ⟨bx, 3, none⟩ = some (.int .i64 pe) ∧ w'.cell? ⟨bx, 4, none⟩ = some (.int .i64 pk) ∧ w'.cell? ⟨bx, 5, none⟩ = some (.string ⟨ps.toArray⟩)) (first | exact ⟨b2, b3, b4, b5⟩ | exact ⟨d2, d3, d4, d5⟩ | exact ⟨f2, f3, f4, f5⟩)
                  (first
                  | (go_at_call 39; refine HW.out.mono ?_; rintro e w5 ⟨rfl, hp2, ht2⟩; have hq2 := (HDd.out.box.touch ht2 HDd.out.kb).q; have d2 := hq2 2 (.int .i64 pi) rfl; have d3 := hq2 3 (.int .i64 pe) rfl; have d4 := hq2 4 (.int .i64 pk) rfl; have d5 := hq2 5 (.string ⟨ps.toArray⟩) rfl; clear hq2)
                  | (go_at_call 45; refine (HX.out _ (HDd.out.two.stepP hp2 ht2)).mono ?_; rintro e w6 ⟨rfl, hp3, ht3⟩; have hq3 := ((HDd.out.box.touch ht2 HDd.out.kb).touch ht3 HDd.out.rb).q; have f2 := hq3 2 (.int .i64 pi) rfl; have f3 := hq3 3 (.int .i64 pe) rfl; have f4 := hq3 4 (.int .i64 pk) rfl; have f5 := hq3 5 (.string ⟨ps.toArray⟩) rfl; clear hq3))
                all_goals
                  have hM := Lib.hid (HDd.out.both hp2 ht2 hp3 ht3).law
                  clear hp2 ht2 hp3 ht3 d2 d3 d4 d5 f2 f3 f4 f5
                  go_wp2_with fail
                  go_meet
                  exact ⟨by simp, hM⟩
              case rest =>
                obtain ⟨rfl, hM⟩ := hcut
                go_wp2_with fail
                go_roundw
                case rel => exact ⟨m + 1, by omega, by omega, by go_num, hM⟩
                case measure => simp [intOf]; omega
            · by_cases k1 : kd = 1
              · subst k1
                have hd1 : Below w4.heap.size w4 w4.drew := below_drewN (Below.refl _ _) 1
                have HDd := Lib.hid (HD.out.below hd1)
                clear hd1
                have HW := Lib.hid (pwrite_any ⟨pi, pe, pk, ps⟩ HDd.out.two.p HOk.out.p.i1 HOk.out.p.s)
                have HX := Lib.hid (fun w' (hx : XD w' r A) => rpwrite_any ⟨pi, pe, pk, ps⟩ hx HOk.out.p.i1 HOk.out.p.s)
                unfold pageV at HW HX
                simp only at HW HX
                generalize Pg.write A ⟨pi, pe, pk, ps⟩ = R at *
                obtain ⟨e1, B⟩ := R
                unfold Left at HW
                unfold LeftR at HX
                simp only at HW HX
                go_upto_region 16 with (fail)
                go_cut [109] (fun v wx => v = .bool false ∧ Hid (PLaw w k r wx))
                case first =>
                  go_region_held3 (fun w' => w'.cell? ⟨bx, 2, none⟩ = some (.int .i64 pi) ∧ w'.cell? ⟨bx, 3, none⟩ = some (.int .i64 pe) ∧ w'.cell? ⟨bx, 4, none⟩ = some (.int .i64 pk) ∧ w'.cell? ⟨bx, 5, none⟩ = some (.string ⟨ps.toArray⟩)) (first | exact ⟨b2, b3, b4, b5⟩ | exact ⟨d2, d3, d4, d5⟩ | exact ⟨f2, f3, f4, f5⟩)
                    (first
                    | (go_at_call 39; refine HW.out.mono ?_; rintro e w5 ⟨rfl, hp2, ht2⟩; have hq2 := (HDd.out.box.touch ht2 HDd.out.kb).q; have d2 := hq2 2 (.int .i64 pi) rfl; have d3 := hq2 3 (.int .i64 pe) rfl; have d4 := hq2 4 (.int .i64 pk) rfl; have d5 := hq2 5 (.string ⟨ps.toArray⟩) rfl; clear hq2)
                    | (go_at_call 45; refine (HX.out _ (HDd.out.two.stepP hp2 ht2)).mono ?_; rintro e w6 ⟨rfl, hp3, ht3⟩; have hq3 := ((HDd.out.box.touch ht2 HDd.out.kb).touch ht3 HDd.out.rb).q; have f2 := hq3 2 (.int .i64 pi) rfl; have f3 := hq3 3 (.int .i64 pe) rfl; have f4 := hq3 4 (.int .i64 pk) rfl; have f5 := hq3 5 (.string ⟨ps.toArray⟩) rfl; clear hq3))
                  all_goals
                    have hM := Lib.hid (HDd.out.both hp2 ht2 hp3 ht3).law
                    clear hp2 ht2 hp3 ht3 d2 d3 d4 d5 f2 f3 f4 f5
                    go_wp2_with fail
                    go_meet
                    exact ⟨by simp, hM⟩
                case rest =>
                  obtain ⟨rfl, hM⟩ := hcut
                  go_wp2_with fail
                  go_roundw
                  case rel => exact ⟨m + 1, by omega, by omega, by go_num, hM⟩
                  case measure => simp [intOf]; omega
              · by_cases k3 : kd = 3
                · subst k3
                  go_wp2_with fail
                  refine (sync_any HD.out.two.p).mono ?_
                  rintro e w5 ⟨rfl, hp2, ht2⟩
                  have Hp2 := Lib.hid hp2
                  have Ht2 := Lib.hid ht2
                  clear hp2 ht2
                  go_wp2_with fail
                  refine (rsync_any (HD.out.two.stepP Hp2.out Ht2.out)).mono ?_
                  rintro e w6 ⟨rfl, hp3, ht3⟩
                  have hM := Lib.hid (HD.out.both Hp2.out Ht2.out hp3 ht3).law
                  clear hp3 ht3 Hp2 Ht2 bk bi b2 b3 b4 b5 b6 b7 b8 b9
                  go_wp2_with fail
                  go_roundw
                  case rel => exact ⟨m + 1, by omega, by omega, by go_num, hM⟩
                  case measure => simp [intOf]; omega
                · by_cases k4 : kd = 4
                  · subst k4
                    have HAr := Lib.hid (arm_any i HD.out.two.p HOk.out.i1)
                    cases hd : A.down
                    · by_cases hi1 : i < 1
                      · have HR := Lib.hid (show A.armed i = (2, A) by unfold St.armed; rw [if_neg (by simp [hd]), if_pos hi1])
                        rw [HR.out] at HAr
                        clear hd
                        go_wp2_with fail
                        refine HAr.out.mono ?_
                        rintro e w5 ⟨rfl, hp2, ht2⟩
                        have hM := Lib.hid (HD.out.both hp2 ht2 (HD.out.two.stepP hp2 ht2) (Touch.refl _ _ _)).law
                        clear hp2 ht2 bk bi b2 b3 b4 b5 b6 b7 b8 b9
                        go_wp2_with fail
                        go_roundw
                        case rel => exact ⟨m + 1, by omega, by omega, by go_num, hM⟩
                        case measure => simp [intOf]; omega
                      · have HR := Lib.hid (show A.armed i = (0, { A with arm := i }) by unfold St.armed; rw [if_neg (by simp [hd]), if_neg hi1])
                        have HG := Lib.hid (show St.Good { A with arm := i } from by
                          have := Good.armed HD.out.two.p.good i HOk.out.i1
                          rw [HR.out] at this
                          exact this)
                        rw [HR.out] at HAr
                        clear hd
                        go_wp2_with fail
                        refine HAr.out.mono ?_
                        rintro e w5 ⟨rfl, hp2, ht2⟩
                        have hX := HD.out.two.stepP hp2 ht2
                        have c3 := hX.c3
                        have f3 := hX.fr 3
                        have d1 := (HD.out.box.touch ht2 HD.out.kb).q 1 (.int .i64 i) rfl
                        have hw1 := headR_one hX 3 (.int .i64 i)
                        have hst := hX.stores { A with arm := i } rfl HG.out _ hw1.1 hw1.2
                        have hM := Lib.hid (HD.out.both hp2 ht2 hst.1 hst.2).law
                        clear hp2 ht2 hX hw1 hst bk bi b2 b3 b4 b5 b6 b7 b8 b9
                        go_wp2_with fail
                        go_roundw
                        case rel => exact ⟨m + 1, by omega, by omega, by go_num, hM⟩
                        case measure => simp [intOf]; omega
                    · have HR := Lib.hid (show A.armed i = (13, A) by unfold St.armed; rw [if_pos hd])
                      rw [HR.out] at HAr
                      clear hd
                      go_wp2_with fail
                      refine HAr.out.mono ?_
                      rintro e w5 ⟨rfl, hp2, ht2⟩
                      have hM := Lib.hid (HD.out.both hp2 ht2 (HD.out.two.stepP hp2 ht2) (Touch.refl _ _ _)).law
                      clear hp2 ht2 bk bi b2 b3 b4 b5 b6 b7 b8 b9
                      go_wp2_with fail
                      go_roundw
                      case rel => exact ⟨m + 1, by omega, by omega, by go_num, hM⟩
                      case measure => simp [intOf]; omega
                  · by_cases k5 : kd = 5
                    · subst k5
                      have HC := Lib.hid (crash_any (cap := c) (c := ⟨ck, ct, cb⟩) HD.out.two.p (HD.out.keep.lift HD.out.two.lo))
                      simp only at HC
                      go_wp2_with fail
                      refine HC.out.mono ?_
                      rintro e w5 ⟨rfl, hp2, ht2⟩
                      have hq2 := (HD.out.box.touch ht2 HD.out.kb).q
                      have d7 := hq2 7 (.slice Q l c) rfl
                      have d8 := hq2 8 (.int .i64 ct) rfl
                      have d9 := hq2 9 (.int .i64 cb) rfl
                      have HC2 := Lib.hid (rcrash_any (cap := c) (c := ⟨ck, ct, cb⟩) (HD.out.two.stepP hp2 ht2) ((HD.out.keep.touch ht2 HD.out.two.lo).lift (by have := HD.out.two.lo; have := HD.out.two.ap; have := HD.out.two.p.ok.g; omega)))
                      simp only at HC2
                      have Hp2 := Lib.hid hp2
                      have Ht2 := Lib.hid ht2
                      clear hp2 ht2 hq2 bk bi b2 b3 b4 b5 b6 b7 b8 b9 HC
                      go_wp2_with fail
                      refine HC2.out.mono ?_
                      rintro e w6 ⟨rfl, hp3, ht3⟩
                      have hM := Lib.hid (HD.out.both Hp2.out Ht2.out hp3 ht3).law
                      clear hp3 ht3 d7 d8 d9 HC2 Hp2 Ht2
                      go_wp2_with fail
                      go_roundw
                      case rel => exact ⟨m + 1, by omega, by omega, by go_num, hM⟩
                      case measure => simp [intOf]; omega
                    · by_cases k6 : kd = 6
                      · subst k6
                        have hd1 : Below w4.heap.size w4 w4.drew := below_drewN (Below.refl _ _) 1
                        have HDd := Lib.hid (HD.out.below hd1)
                        clear hd1
                        have HW := Lib.hid (write_any i s HDd.out.two.p)
                        have HX := Lib.hid (fun w' (hx : XD w' r A) => rwrite_any i s hx hs6)
                        generalize A.write i s.data.toList = R at *
                        obtain ⟨e1, B⟩ := R
                        unfold Left at HW
                        unfold LeftR at HX
                        simp only at HW HX
                        go_upto_region 28 with (fail)
                        go_cut [161] (fun v wx => v = .bool false ∧ Hid (PLaw w k r wx))
                        case first =>
                          go_region_held3 (fun w' => w'.cell? ⟨bx, 1, none⟩ = some (.int .i64 i) ∧ w'.cell? ⟨bx, 6, none⟩ = some (.string s)) (first | exact ⟨bi, b6⟩ | exact ⟨d1, d6⟩ | exact ⟨f1, f6⟩)
                            (first
                            | (go_at_call 21; refine HW.out.mono ?_; rintro e w5 ⟨rfl, hp2, ht2⟩; have hq2 := (HDd.out.box.touch ht2 HDd.out.kb).q; have d1 := hq2 1 (.int .i64 i) rfl; have d6 := hq2 6 (.string s) rfl; clear hq2)
                            | (go_at_call 22; refine (HX.out _ (HDd.out.two.stepP hp2 ht2)).mono ?_; rintro e w6 ⟨rfl, hp3, ht3⟩; have hq3 := ((HDd.out.box.touch ht2 HDd.out.kb).touch ht3 HDd.out.rb).q; have f1 := hq3 1 (.int .i64 i) rfl; have f6 := hq3 6 (.string s) rfl; clear hq3))
                          all_goals
                            have hM := Lib.hid (HDd.out.both hp2 ht2 hp3 ht3).law
                            clear hp2 ht2 hp3 ht3 d1 d6 f1 f6
                            go_wp2_with fail
                            go_meet
                            exact ⟨by simp, hM⟩
                        case rest =>
                          obtain ⟨rfl, hM⟩ := hcut
                          go_wp2_with fail
                          go_roundw
                          case rel => exact ⟨m + 1, by omega, by omega, by go_num, hM⟩
                          case measure => simp [intOf]; omega
                      · have e0 : (kd == 0) = false := by rw [beq_eq_false_iff_ne]; omega
                        have e1 : (kd == 1) = false := by rw [beq_eq_false_iff_ne]; omega
                        have e3 : (kd == 3) = false := by rw [beq_eq_false_iff_ne]; omega
                        have e4 : (kd == 4) = false := by rw [beq_eq_false_iff_ne]; omega
                        have e5 : (kd == 5) = false := by rw [beq_eq_false_iff_ne]; omega
                        have e6 : (kd == 6) = false := by rw [beq_eq_false_iff_ne]; omega
                        clear k0 k1 k3 k4 k5 k6
                        have HR1 := Lib.hid (pread_any i HD.out.two.p)
                        have HR2 := Lib.hid (fun w' (hx : XD w' r A) => rpread_any i hx)
                        have hpg := page_guard
                        generalize Pg.read A i = R at *
                        obtain ⟨⟨gi, ge, gk, gs⟩, gr⟩ := R
                        unfold readPV pageV at HR1 HR2
                        simp only at HR1 HR2
                        generalize (⟨gs.toArray⟩ : ByteArray) = S at *
                        have hpe := fun w' => page_neql gi ge gk S w'
                        go_wp2_with fail
                        refine HR1.out.mono ?_
                        rintro e w5 ⟨rfl, hb⟩
                        have hal : Below w5.heap.size w5 (w5.alloc (.cells #[.int .i64 gi, .int .i64 ge, .int .i64 gk, .string S] 56 (0, 0))) := (Below.refl _ _).alloc (Nat.le_refl _) _
                        have HX5 : Hid ((w5.alloc (.cells #[.int .i64 gi, .int .i64 ge, .int .i64 gk, .string S] 56 (0, 0))).heap[w5.heap.size]? = some (.cells #[.int .i64 gi, .int .i64 ge, .int .i64 gk, .string S] 56 (0, 0))) := World.alloc_heap_new w5 _
                        have HD6 := Lib.hid ((HD.out.below hb).below hal)
                        have hq5 := (HD.out.below hb).box
                        have d1 := hq5.q 1 (.int .i64 i) rfl
                        have hz5 := lt_of_block hq5
                        clear hb hal HR1 bk bi b2 b3 b4 b5 b6 b7 b8 b9 HD hq5
                        go_wp2_with fail
                        clear d1
                        generalize w5.alloc (.cells #[.int .i64 gi, .int .i64 ge, .int .i64 gk, .string S] 56 (0, 0)) = w6 at *
                        generalize w5.heap.size = b5 at *
                        refine (HR2.out _ HD6.out.two.x).mono ?_
                        rintro e w7 ⟨rfl, hb⟩
                        have hx7 := (hb.block b5 (lt_of_block HX5.out)).trans HX5.out
                        have hal : Below w7.heap.size w7 (w7.alloc (.cells #[.int .i64 gi, .int .i64 ge, .int .i64 gk, .string S] 56 (0, 0))) := (Below.refl _ _).alloc (Nat.le_refl _) _
                        have hz7 := lt_of_block hx7
                        have r0 := cell_of_row w7 b5 0 _ _ (0, 0) hx7
                        have r1 := cell_of_row w7 b5 1 _ _ (0, 0) hx7
                        have r2 := cell_of_row w7 b5 2 _ _ (0, 0) hx7
                        have r3 := cell_of_row w7 b5 3 _ _ (0, 0) hx7
                        have hM := Lib.hid ((HD6.out.below hb).below hal).law
                        clear hb hal HD6 HR2 HX5 hx7
                        go_wp2_with fail
                        go_roundw
                        case rel => exact ⟨m + 1, by omega, by omega, by go_num, hM⟩
                        case measure => simp [intOf]; omega
          · have hs6I : (600 : Int) < (s.size : Int) := by omega
            go_wp2_with fail
            go_roundw
            case rel => exact ⟨m + 1, by omega, by omega, by go_num, Lib.hid HD.out.law⟩
            case measure => simp [intOf]; omega
        · have hp6I : (600 : Int) < (ps.length : Int) := by omega
          go_wp2_with fail
          go_roundw
          case rel => exact ⟨m + 1, by omega, by omega, by go_num, Lib.hid HD.out.law⟩
          case measure => simp [intOf]; omega
      · have h40I : ¬ (m : Int) < 40 := by omega
        clear HA
        go_wp2_with fail
        go_loopw [15] (fun i wr => ∃ j : Nat, j ≤ 6 ∧ i = .int .i64 j ∧ Hid (PLaw w k r wr)) (fun i _ => 100 - (intOf i).toNat)
        case atStart => exact ⟨0, Nat.zero_le _, rfl, hR⟩
        case round =>
          obtain ⟨j, hj, rfl, hS⟩ := hrel
          clear hR
          by_cases h6 : j < 6
          · have h6I : (j : Int) < 6 := by omega
            obtain ⟨A, hT⟩ := hS.out.two
            have HT := Lib.hid hT
            have HR1 := Lib.hid (pread_any (j : Int) HT.out.p)
            have HR2 := Lib.hid (fun w' (hx : XD w' r A) => rpread_any (j : Int) hx)
            have hpg := page_guard
            generalize Pg.read A (j : Int) = R at *
            obtain ⟨⟨gi, ge, gk, gs⟩, gr⟩ := R
            unfold readPV pageV at HR1 HR2
            simp only at HR1 HR2
            generalize (⟨gs.toArray⟩ : ByteArray) = S at *
            have hpe := fun w' => page_neql gi ge gk S w'
            clear hT
            go_wp2_with fail
            refine HR1.out.mono ?_
            rintro e w3 ⟨rfl, hb⟩
            have hal : Below w3.heap.size w3 (w3.alloc (.cells #[.int .i64 gi, .int .i64 ge, .int .i64 gk, .string S] 56 (0, 0))) := (Below.refl _ _).alloc (Nat.le_refl _) _
            have HX3 : Hid ((w3.alloc (.cells #[.int .i64 gi, .int .i64 ge, .int .i64 gk, .string S] 56 (0, 0))).heap[w3.heap.size]? = some (.cells #[.int .i64 gi, .int .i64 ge, .int .i64 gk, .string S] 56 (0, 0))) := World.alloc_heap_new w3 _
            have HS3 := Lib.hid ((hS.out.below hb).below hal)
            have HT3 := Lib.hid ((HT.out.below hb).below hal)
            clear hb hal hS HT HR1
            go_wp2_with fail
            generalize w3.alloc (.cells #[.int .i64 gi, .int .i64 ge, .int .i64 gk, .string S] 56 (0, 0)) = w4 at *
            generalize w3.heap.size = b3 at *
            refine (HR2.out _ HT3.out.x).mono ?_
            rintro e w5 ⟨rfl, hb⟩
            have hx5 := (hb.block b3 (lt_of_block HX3.out)).trans HX3.out
            have hal : Below w5.heap.size w5 (w5.alloc (.cells #[.int .i64 gi, .int .i64 ge, .int .i64 gk, .string S] 56 (0, 0))) := (Below.refl _ _).alloc (Nat.le_refl _) _
            have hz5 := lt_of_block hx5
            have r0 := cell_of_row w5 b3 0 _ _ (0, 0) hx5
            have r1 := cell_of_row w5 b3 1 _ _ (0, 0) hx5
            have r2 := cell_of_row w5 b3 2 _ _ (0, 0) hx5
            have r3 := cell_of_row w5 b3 3 _ _ (0, 0) hx5
            have HS5 := Lib.hid ((HS3.out.below hb).below hal)
            clear hb hal HS3 HT3 HR2 HX3 hx5
            go_wp2_with fail
            go_roundw
            case rel => exact ⟨j + 1, by omega, by go_num, HS5⟩
            case measure => simp [intOf]; omega
          · obtain rfl : j = 6 := by omega
            go_wp2_with fail
            go_ret
            exact ⟨rfl, hS.out.b⟩
    · obtain rfl : m = len := by omega
      clear HA
      go_wp2_with fail
      go_loopw [15] (fun i wr => ∃ j : Nat, j ≤ 6 ∧ i = .int .i64 j ∧ Hid (PLaw w k r wr)) (fun i _ => 100 - (intOf i).toNat)
      case atStart => exact ⟨0, Nat.zero_le _, rfl, hR⟩
      case round =>
        obtain ⟨j, hj, rfl, hS⟩ := hrel
        clear hR
        by_cases h6 : j < 6
        · have h6I : (j : Int) < 6 := by omega
          obtain ⟨A, hT⟩ := hS.out.two
          have HT := Lib.hid hT
          have HR1 := Lib.hid (pread_any (j : Int) HT.out.p)
          have HR2 := Lib.hid (fun w' (hx : XD w' r A) => rpread_any (j : Int) hx)
          have hpg := page_guard
          generalize Pg.read A (j : Int) = R at *
          obtain ⟨⟨gi, ge, gk, gs⟩, gr⟩ := R
          unfold readPV pageV at HR1 HR2
          simp only at HR1 HR2
          generalize (⟨gs.toArray⟩ : ByteArray) = S at *
          have hpe := fun w' => page_neql gi ge gk S w'
          clear hT
          go_wp2_with fail
          refine HR1.out.mono ?_
          rintro e w3 ⟨rfl, hb⟩
          have hal : Below w3.heap.size w3 (w3.alloc (.cells #[.int .i64 gi, .int .i64 ge, .int .i64 gk, .string S] 56 (0, 0))) := (Below.refl _ _).alloc (Nat.le_refl _) _
          have HX3 : Hid ((w3.alloc (.cells #[.int .i64 gi, .int .i64 ge, .int .i64 gk, .string S] 56 (0, 0))).heap[w3.heap.size]? = some (.cells #[.int .i64 gi, .int .i64 ge, .int .i64 gk, .string S] 56 (0, 0))) := World.alloc_heap_new w3 _
          have HS3 := Lib.hid ((hS.out.below hb).below hal)
          have HT3 := Lib.hid ((HT.out.below hb).below hal)
          clear hb hal hS HT HR1
          go_wp2_with fail
          generalize w3.alloc (.cells #[.int .i64 gi, .int .i64 ge, .int .i64 gk, .string S] 56 (0, 0)) = w4 at *
          generalize w3.heap.size = b3 at *
          refine (HR2.out _ HT3.out.x).mono ?_
          rintro e w5 ⟨rfl, hb⟩
          have hx5 := (hb.block b3 (lt_of_block HX3.out)).trans HX3.out
          have hal : Below w5.heap.size w5 (w5.alloc (.cells #[.int .i64 gi, .int .i64 ge, .int .i64 gk, .string S] 56 (0, 0))) := (Below.refl _ _).alloc (Nat.le_refl _) _
          have hz5 := lt_of_block hx5
          have r0 := cell_of_row w5 b3 0 _ _ (0, 0) hx5
          have r1 := cell_of_row w5 b3 1 _ _ (0, 0) hx5
          have r2 := cell_of_row w5 b3 2 _ _ (0, 0) hx5
          have r3 := cell_of_row w5 b3 3 _ _ (0, 0) hx5
          have HS5 := Lib.hid ((HS3.out.below hb).below hal)
          clear hb hal HS3 HT3 HR2 HX3 hx5
          go_wp2_with fail
          go_roundw
          case rel => exact ⟨j + 1, by omega, by go_num, HS5⟩
          case measure => simp [intOf]; omega
        · obtain rfl : j = 6 := by omega
          go_wp2_with fail
          go_ret
          exact ⟨rfl, hS.out.b⟩
set_option maxRecDepth 100000 in
theorem disks_law : Frame.LawCalls 14 Try.f14 := by
  intro H enc W base args ds p hval hA _ _ _
  rw [Try.params14] at hA hval
  obtain ⟨v0, vs0, d0, ds0, p0, q0, hargs, rfl, rfl, h0, r0⟩ := trodAll_cons hA
  obtain ⟨v1, vs1, d1, ds1, p1, q1, rfl, rfl, rfl, h1, r1⟩ := trodAll_cons r0
  obtain ⟨rfl, rfl, rfl⟩ := trodAll_nil r1
  obtain rfl : args = #[v0, v1] := by cases args; simp_all
  obtain ⟨s, rfl, rfl, rfl, ws⟩ := open_int Try.underlying5 (hval 0 5 v0 rfl rfl) h0
  obtain ⟨A, len, cap, rfl, ha⟩ := pacts_args (hval 1 68 v1 rfl rfl) h1
  simp [Lit.wf, IntKind.min, IntKind.max, IntKind.signed, IntKind.bits] at ws
  exact disks_any s A len cap W (by omega) (by omega) ha
set_option maxRecDepth 100000 in
theorem disks_lifted (os : Os) (started : os.Started) (H : Type) (enc : TypeId × Value → H) :
    ReturnsInHanded {} Try.checked os 14 .any (Rows.pageDisksSpec.pre6 enc Try.prog Try.f14 Rows.pageDisksRow.domain false) (Rows.pageDisksSpec.post enc Try.prog Try.f14 false true false false) :=
  Frame.lifted (s := Rows.pageDisksSpec) (by kernel_rfl) Try.func14 (by kernel_rfl) rfl (tb := 4) (by kernel_rfl) Try.underlying4
    (fun H ds h => by
      obtain ⟨d, e, rfl⟩ := two_data ds h
      rfl) disks_law os started H enc
    (ChangeSpec.witness6 (enc := enc) (C := Try.checked) false ⟨#[], #[.int .u8 0, .slice none 0 0], []⟩ 8 (by kernel_rfl) (by kernel_rfl) (by kernel_rfl) (by kernel_rfl))
theorem disks_holds : Rows.PageDisksSaid :=
  OpenClaim.holds_of_wide 14 Try.f14 rfl rfl rfl rfl rfl rfl rfl ⟨rfl, rfl, rfl, rfl, rfl⟩ rfl rfl rfl rfl rfl (by kernel_rfl) Try.func14 (by kernel_rfl)
    (of_decide_eq_true (by kernel_rfl)) (by unfold Func.isWrapper; first | (rw [if_pos (by decide +kernel)]; kernel_rfl) | (rw [if_neg (by decide +kernel)]; exact ⟨rfl, rfl⟩))
    (fun os started H enc _ => disks_lifted os started H enc)
#print axioms disks_holds
end Go.Proofs.Ytpjpncfoenadhaa
