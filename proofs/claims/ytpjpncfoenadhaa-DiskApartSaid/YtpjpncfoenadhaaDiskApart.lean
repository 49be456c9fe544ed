/- DiskApart: a write changes no other sector. No condition. -/
import Derived.Test.YtpjpncfoenadhaaDiskLaw
import Derived.Deep.DeepCutAuto
namespace Go.Proofs.Ytpjpncfoenadhaa
open Go.ChangeShapes Go.WideShapes Go.ChangeAt Go.RowKit Go.ChangeMaps Dk

theorem write_at (A : St) (m : Nat) (s : List UInt8) (hm : m < A.n) (hd : (A.write m s).2.down = false) : (A.write m s).2.at_ m = fill s := by
  have hm' : m < A.secs.length := hm
  cases ha : A.down
  · have e : A.write m s = (A.put m s).count := by
      unfold St.write
      rw [if_neg (by simp [ha]), if_neg (by unfold St.n; omega)]
      rfl
    have ec : (A.put m s).count.2.secs = (A.put m s).secs := by
      unfold St.count
      split
      · rfl
      · split <;> rfl
    rw [e]
    unfold St.at_
    rw [ec]
    simp [St.put, List.getD_eq_getElem?_getD, hm', Dk.put, Sec.now]
  · unfold St.write at hd
    rw [if_pos ha] at hd
    simp only at hd
    rw [ha] at hd
    cases hd
structure ApR (w : World) (k : DB) (r : RB) (B : St) (wr : World) : Prop where
  two : Two w.heap.size wr k r B
  b : Below w.heap.size w wr
theorem ApR.below {w : World} {k : DB} {r : RB} {B : St} {wr wr' : World} (h : ApR w k r B wr) (hb : Below wr.heap.size wr wr') : ApR w k r B wr' :=
  ⟨h.two.below hb, h.b.trans (hb.mono h.b.size)⟩
set_option maxRecDepth 100000 in
set_option maxHeartbeats 8000000 in
theorem apart_in (P : Option Addr) (len cap : Nat) (i : Int) (s : ByteArray) (w : World) (ha : ActsAt w P len) (hs : s.size ≤ 500) :
    Calls Try.prog 4 #[.slice P len cap, .int .i64 i, .string s] w fun e w' => e = .returned (.bool true) ∧ Below w.heap.size w w' := by
  have HN := Lib.hid (made_in 6 P len cap w (by decide) (by decide) ha)
  have hsI : ¬ (500 : Int) < (s.size : Int) := by omega
  clear ha
  go_enter Try.func4, Try.ntmps4
  go_wp2_with fail
  refine HN.out.mono ?_
  rintro e w1 ⟨k, r, A, rfl, hT, hn, hb⟩
  have HB1 := Lib.hid hb
  have HT1 := Lib.hid hT
  have HA := Lib.hid hn
  clear hb hT HN hn
  go_wp2_with fail
  refine (awake_any _).mono ?_
  rintro e w2 ⟨rfl, hb⟩
  have HB := Lib.hid (HB1.out.trans (hb.mono HB1.out.size))
  have HT := Lib.hid (HT1.out.below hb)
  clear hb HT1 HB1
  go_wp2_with fail
  refine (write_any i s HT.out.p).mono ?_
  rintro e w3 ⟨rfl, hp3, ht3⟩
  have hd : Below w3.heap.size w3 w3.drew := below_drewN (Below.refl _ _) 1
  have HX3 := Lib.hid ((HT.out.stepP hp3 ht3).below hd)
  have HP3 := Lib.hid (hp3.below hd)
  have HT3 := Lib.hid (ht3.trans (Touch.of_below hd))
  clear hd
  clear hp3 ht3
  have HM : Hid (∀ w4, XD w4 r (A.write i s.data.toList).2 → Touch r.lo r.hi w3.drew w4 → Hid (ApR w k r (A.write i s.data.toList).2 w4)) := fun w4 hx ht => by
    have hM := HT.out.both HP3.out HT3.out hx ht
    exact ⟨hM.1, HB.out.trans (hM.2.below HT.out.lo HB.out.size)⟩
  go_wp2_with fail
  go_upto_region 5 with (fail)
  go_cut [57] (fun c wx => c = .bool false ∧ Hid (ApR w k r (A.write i s.data.toList).2 wx))
  case first =>
    go_region_with ((first
      | (go_at_call 22; (with_reducible refine (rwrite_any i s HX3.out (by omega)).mono ?_); rintro e w4 ⟨rfl, hx4, ht4⟩; have c5 := hx4.c5; have HM4 := HM.out w4 hx4 ht4; clear hx4 ht4)
      | (go_at_call 20; (with_reducible refine (down_any HM4.out.two.p).mono ?_); rintro e w5 ⟨rfl, rfl⟩)))
    all_goals
      go_wp2_with fail
      go_meet
      exact ⟨by simp, HM4⟩
  case rest =>
    obtain ⟨rfl, hI⟩ := hcut
    clear HM HT3 HX3 HP3 HT HB
    have HF : Hid (∀ m : Nat, m < 6 → (A.write i s.data.toList).2.down = false → (m : Int) = i → (A.write i s.data.toList).2.at_ m = fill s.data.toList) := fun m hm hd hi => by
      subst hi
      exact write_at A m _ (by have := HA.out; omega) hd
    have HN : Hid ((A.write i s.data.toList).2.n = 6) := (n_write _ _ _).trans HA.out
    generalize (A.write i s.data.toList).2 = B at *
    generalize (A.write i s.data.toList).1 = e1 at *
    go_wp2_with fail
    go_loopw [11] (fun i wr => ∃ m : Nat, m ≤ 6 ∧ i = .int .i64 m ∧ Hid (ApR w k r B wr)) (fun i _ => 100 - (intOf i).toNat)
    case atStart => exact ⟨0, Nat.zero_le _, rfl, hI⟩
    case round =>
      obtain ⟨m, hm, rfl, hR⟩ := hrel
      have c5 := hR.out.two.x.c5
      by_cases hlt : m < 6
      · have hltI : (m : Int) < 6 := by omega
        cases hd : B.down
        · rw [hd] at c5
          have HR1 := Lib.hid (read_in m hR.out.two.p hd (by rw [HN.out]; exact hlt))
          have HN1 := Lib.hid (rnow_any m hR.out.two.x (by rw [HN.out]; exact hlt))
          have HF1 := HF.out m hlt hd
          clear hd
          by_cases hi : (m : Int) = i
          · have HF2 := Lib.hid (HF1 hi)
            clear HF1
            subst hi
            go_wp2_with fail
            refine HR1.out.mono ?_
            rintro e w' ⟨rfl, rfl⟩
            go_wp2_with fail
            refine HN1.out.mono ?_
            rintro e w' ⟨rfl, rfl⟩
            unfold str
            go_wp2_with fail
            refine (fill_any s _ (by omega)).mono ?_
            rintro e w5 ⟨rfl, hb5⟩
            rw [← HF2.out]
            have hR5 := Lib.hid (hR.out.below hb5)
            clear hb5 c5
            go_wp2_with fail
            go_roundw
            case rel => exact ⟨m + 1, by omega, by go_num, hR5⟩
            case measure => simp [intOf]; omega
          · have hi2 : ((m : Int) == i) = false := by simpa using hi
            clear HF1
            go_wp2_with fail
            refine HR1.out.mono ?_
            rintro e w' ⟨rfl, rfl⟩
            go_wp2_with fail
            refine HN1.out.mono ?_
            rintro e w' ⟨rfl, rfl⟩
            unfold str
            go_wp2_with fail
            go_roundw
            case rel => exact ⟨m + 1, by omega, by go_num, hR⟩
            case measure => simp [intOf]; omega
        · rw [hd] at c5
          clear hd
          go_wp2_with fail
          go_ret
          exact ⟨rfl, hR.out.b⟩
      · obtain rfl : m = 6 := by omega
        go_wp2_with fail
        go_ret
        exact ⟨rfl, hR.out.b⟩
set_option maxRecDepth 100000 in
set_option maxHeartbeats 8000000 in
theorem apart_out (P : Option Addr) (len cap : Nat) (i : Int) (s : ByteArray) (w : World) (ha : ActsAt w P len) (hs : ¬ s.size ≤ 500) (hs2 : s.size ≤ 9223372036854775807) :
    Calls Try.prog 4 #[.slice P len cap, .int .i64 i, .string s] w fun e w' => e = .returned (.bool true) ∧ Below w.heap.size w w' := by
  have HN := Lib.hid (made_in 6 P len cap w (by decide) (by decide) ha)
  have hsI : (500 : Int) < (s.size : Int) := by omega
  clear ha hs
  go_enter Try.func4, Try.ntmps4
  go_wp2_with fail
  refine HN.out.mono ?_
  rintro e w1 ⟨k, r, A, rfl, hT, hn, hb⟩
  have HB1 := Lib.hid hb
  clear hb hT HN hn
  go_wp2_with fail
  refine (awake_any _).mono ?_
  rintro e w2 ⟨rfl, hb⟩
  have HB := Lib.hid (HB1.out.trans (hb.mono HB1.out.size))
  clear hb HB1
  go_wp2_with fail
  refine (awake_any _).mono ?_
  rintro e w3 ⟨rfl, hb⟩
  have HB3 := Lib.hid (HB.out.trans (hb.mono HB.out.size))
  clear hb HB
  go_wp2_with fail
  go_ret
  exact ⟨rfl, HB3.out⟩
set_option maxRecDepth 100000 in
theorem apart_law : Frame.LawCalls 4 Try.f4 := by
  intro H enc W base args ds p hval hA _ _ _
  rw [Try.params4] at hA hval
  obtain ⟨v0, vs0, d0, ds0, p0, q0, hargs, rfl, rfl, h0, r0⟩ := trodAll_cons hA
  obtain ⟨v1, vs1, d1, ds1, p1, q1, rfl, rfl, rfl, h1, r1⟩ := trodAll_cons r0
  obtain ⟨v2, vs2, d2, ds2, p2, q2, rfl, rfl, rfl, h2, r2⟩ := trodAll_cons r1
  obtain ⟨rfl, rfl, rfl⟩ := trodAll_nil r2
  obtain rfl : args = #[v0, v1, v2] := by cases args; simp_all
  obtain ⟨A, len, cap, rfl, ha⟩ := acts_args (hval 0 22 v0 rfl rfl) h0
  obtain ⟨i, rfl, rfl, rfl, _⟩ := open_int Try.underlying3 (hval 1 3 v1 rfl rfl) h1
  obtain ⟨s, rfl, rfl, rfl, ws⟩ := open_string Try.underlying9 (hval 2 9 v2 rfl rfl) h2
  rw [max_is] at ws
  by_cases hs : s.size ≤ 500
  · exact apart_in A len cap i s W ha hs
  · exact apart_out A len cap i s W ha hs ws
set_option maxRecDepth 100000 in
theorem apart_lifted (os : Os) (started : os.Started) (H : Type) (enc : TypeId × Value → H) :
    ReturnsInHanded {} Try.checked os 4 .any (Rows.diskApartSpec.pre6 enc Try.prog Try.f4 Rows.diskApartRow.domain false) (Rows.diskApartSpec.post enc Try.prog Try.f4 false true false false) :=
  Frame.lifted (s := Rows.diskApartSpec) (by kernel_rfl) Try.func4 (by kernel_rfl) rfl (tb := 4) (by kernel_rfl) Try.underlying4
    (fun H ds h => by
      obtain ⟨d, e, g, rfl⟩ := three_data ds h
      rfl) apart_law os started H enc
    (ChangeSpec.witness6 (enc := enc) (C := Try.checked) false ⟨#[], #[.slice none 0 0, .int .i64 0, .string ⟨#[]⟩], []⟩ 8 (by kernel_rfl) (by kernel_rfl) (by kernel_rfl) (by kernel_rfl))
theorem apart_holds : Rows.DiskApartSaid :=
  OpenClaim.holds_of_wide 4 Try.f4 rfl rfl rfl rfl rfl rfl rfl ⟨rfl, rfl, rfl, rfl, rfl⟩ rfl rfl rfl rfl rfl (by kernel_rfl) Try.func4 (by kernel_rfl)
    (of_decide_eq_true (by kernel_rfl)) (by unfold Func.isWrapper; first | (rw [if_pos (by decide +kernel)]; kernel_rfl) | (rw [if_neg (by decide +kernel)]; exact ⟨rfl, rfl⟩))
    (fun os started H enc _ => apart_lifted os started H enc)
#print axioms apart_holds
end Go.Proofs.Ytpjpncfoenadhaa
