/- A table goes into parts, and back: the law's call returns true at every table. No condition. -/
import Derived.Test.YtbjkefodlnkaeaaRootAwake
import Derived.Test.YtbjkefodlnkaeaaFrame
import Derived.Test.YtbjkefodlnkaeaaData
namespace Go.Proofs.Ytbjkefodlnkaeaa
open Go.ChangeShapes Go.WideShapes Go.ChangeAt Go.RowKit

theorem seg_next (T : List Int) (i : Nat) : T.take (116 * (i + 1)) = T.take (116 * i) ++ Rt.seg T i := by
  unfold Rt.seg
  rw [Nat.mul_add, Nat.mul_one, List.take_add]
theorem seg_length (T : List Int) (i : Nat) : (Rt.seg T i).length = min 116 (T.length - 116 * i) := by
  unfold Rt.seg
  rw [List.length_take, List.length_drop]
theorem is_map_at (T : List Int) (j : Nat) (h : j < T.length) : (is (T.map Rt.down))[j]? = some (.int .i64 (Rt.down (T.getD j 0))) := by
  rw [is_at, List.getElem?_map, List.getElem?_eq_getElem h, List.getD_eq_getElem?_getD, List.getElem?_eq_getElem h]
  rfl
theorem part_ok (T : List Int) (i : Nat) (h : (Rt.seg T i).all (fun p => decide (p ≤ 1023)) = true) : Rt.putPart T i = ((Rt.seg T i).flatMap Rt.enc, 0) := by
  unfold Rt.putPart
  rw [if_pos h]
theorem part_no (T : List Int) (i : Nat) (h : (Rt.seg T i).all (fun p => decide (p ≤ 1023)) = false) : Rt.putPart T i = ([], 2) := by
  unfold Rt.putPart
  rw [if_neg (by simp [h])]
theorem own_to {w w' : World} {base e n : Nat} {v : Value} {xs : List Value} (h : w.ownsRow base e 1 v n xs) (hb : Below w.heap.size w w') : w'.ownsRow base e 1 v n xs := by
  refine ⟨h.1, ?_⟩
  rcases h.2 with hn | ⟨g, cap, cur, hv, hg, hh, hr⟩
  · exact .inl hn
  · exact .inr ⟨g, cap, cur, hv, hg, (hb.block g (lt_of_block hh)).trans hh, hr⟩
set_option maxRecDepth 100000 in
set_option maxHeartbeats 2000000 in
theorem tables_big {A : Option Addr} {len cap : Nat} (w : World) (hl : 700 < len) (hc : len ≤ 9223372036854775807) :
    Calls Try.prog 9 #[.slice A len cap] w fun e w' => e = .returned (.bool true) ∧ Below w.heap.size w w' := by
  have hlI : (700 : Int) < (len : Int) := by omega
  go_enter Try.func9, Try.ntmps9
  go_wp2_with fail
  refine (awake13 _).mono ?_
  rintro en w1 ⟨rfl, hb⟩
  have HB := Lib.hid hb
  clear hb
  go_wp2_with fail
  go_ret
  exact ⟨rfl, HB.out⟩
set_option maxRecDepth 100000 in
set_option maxHeartbeats 800000 in
theorem tables_any {w : World} {A : Option Addr} {len cap : Nat} {T : List Int} (h : Ints w.heap.size w A len cap T) (hl : len ≤ 700) :
    Calls Try.prog 9 #[.slice A len cap] w fun e w' => e = .returned (.bool true) ∧ Below w.heap.size w w' := by
  obtain ⟨i0, hi, hz0, hz1, hz2⟩ := info_parts int_row
  have HN := Lib.hid h.n
  have HH : Hid (∀ wr, Below w.heap.size w wr → Ints wr.heap.size wr A len cap T) := Lib.hid fun wr hb => h.to hb
  have HNeed := Lib.hid (fun w => need_any (len : Int) w (by omega))
  have hnd : Rt.need (len : Int) ≤ 7 := by unfold Rt.need; split <;> omega
  have HND1 := Lib.hid (show ∀ i, i < Rt.need (len : Int) → 116 * i < len by intro i hi; unfold Rt.need at hi; split at hi <;> omega)
  have HND2 := Lib.hid (show len ≤ 116 * Rt.need (len : Int) by unfold Rt.need; split <;> omega)
  have HP : Hid (∀ (i : Nat) wr, Below w.heap.size w wr → i < Rt.need (len : Int) → Calls Try.prog 25 #[.slice A len cap, .int .i64 (i : Int)] wr fun e w' => e = .returned (.tuple #[.string ⟨(Rt.putPart T i).1.toArray⟩, .int .i64 (Rt.putPart T i).2]) ∧ Below wr.heap.size wr w') :=
    Lib.hid fun i wr hb hi => putpart_any i (h.to hb) hl hi
  clear h
  generalize Rt.need (len : Int) = nd at *
  go_enter Try.func9, Try.ntmps9
  go_wp2_with fail
  try rw [show decide ((700 : Int) < (len : Int)) = false by rw [decide_eq_false_iff_not]; omega]
  go_loopw [3, 4] (fun v x wr => ∃ i : Nat, i ≤ nd ∧ x = .int .i64 i ∧ Hid (wr.ownsRow w.heap.size 3 1 v (T.take (116 * i)).length (is ((T.take (116 * i)).map Rt.down))) ∧ Hid (Below w.heap.size w wr)) (fun _ x _ => 1000 - (intOf x).toNat)
  case atStart => exact ⟨0, Nat.zero_le _, rfl, World.ownsRow_nil _ _ _ _, Below.refl _ _⟩
  case round =>
    obtain ⟨i, hi7, rfl, hR, hB⟩ := hrel
    by_cases hlt : i < nd
    · have hltI : (i : Int) < (nd : Int) := by omega
      have hlen := HND1.out i hlt
      have HW := Lib.hid (HP.out i wr hB.out hlt)
      cases hall : (Rt.seg T i).all (fun p => decide (p ≤ 1023))
      · rw [part_no T i hall] at HW
        clear hall
        go_wp2_with fail
        refine (HNeed.out _).mono ?_
        rintro en w1 ⟨rfl, rfl⟩
        go_wp2_with fail
        refine HW.out.mono ?_
        rintro en w1 ⟨rfl, hb1⟩
        have HB1 := Lib.hid (hB.out.trans (hb1.mono hB.out.size))
        clear hb1 HW
        go_wp2_with fail
        refine (awake13 _).mono ?_
        rintro en w2 ⟨rfl, hb2⟩
        have HB2 := Lib.hid (HB1.out.trans (hb2.mono HB1.out.size))
        clear hb2
        go_wp2_with fail
        go_ret
        exact ⟨rfl, HB2.out⟩
      · rw [part_ok T i hall] at HW
        have HAll := Lib.hid (fun p hp => of_decide_eq_true (List.all_eq_true.1 hall p hp))
        clear hall
        have hsl := seg_length T i
        rw [HN.out] at hsl
        have HTk := Lib.hid (show (T.take (116 * i)).length ≤ 700 by rw [List.length_take, HN.out]; omega)
        by_cases hm : 116 ≤ len - 116 * i
        · have HSL := Lib.hid (show (Rt.seg T i).length = 116 by omega)
          have hmI : (116 : Int) ≤ (len : Int) - (i : Int) * 116 := by omega
          have HGet : Hid (∀ wr', Calls Try.prog 26 #[.string ⟨((Rt.seg T i).flatMap Rt.enc).toArray⟩, .int .i64 116] wr' (GotP wr' (Rt.seg T i))) := Lib.hid fun wr' => by
            have := getpart_any (w := wr') ⟨((Rt.seg T i).flatMap Rt.enc).toArray⟩ (Rt.seg T i) (by rw [HSL.out]; exact Nat.le_refl _) rfl HAll.out
            rw [HSL.out] at this
            exact this
          have HSN := Lib.hid (seg_next T i)
          clear hsl hm HAll
          generalize (⟨((Rt.seg T i).flatMap Rt.enc).toArray⟩ : ByteArray) = SB at *
          generalize Rt.seg T i = L at *
          go_wp2_with fail
          refine (HNeed.out _).mono ?_
          rintro en w1 ⟨rfl, rfl⟩
          go_wp2_with fail
          refine HW.out.mono ?_
          rintro en w1 ⟨rfl, hb1⟩
          have HB1 := Lib.hid (hB.out.trans (hb1.mono hB.out.size))
          have HR1 := Lib.hid (own_to hR.out hb1)
          clear hb1 HW hR hB
          go_wp2_with fail
          refine (HGet.out _).mono ?_
          rintro en w2 ⟨ad2, cap2, rfl, ho2, hb2⟩
          rw [HSL.out]
          rw [HSL.out] at ho2
          have HB2 := Lib.hid (HB1.out.trans (hb2.mono HB1.out.size))
          have HR2 := Lib.hid (own_to HR1.out hb2)
          obtain ⟨g2, cp2, hv, hcs⟩ := owns_cells ho2 (by omega)
          cases hv
          have HCs := Lib.hid hcs
          clear hb2 ho2 hcs HR1 HB1 HGet
          have htl := HTk.out
          go_wp2_with (at_builtin; refine wpList_append_own _ rfl (.tmp 60) (.tmp 61) 36 rfl w.heap.size 3 i0 (.int .i64 0) 1 8 Try.underlying36 hi hz0 hz1 hz2 rfl (by decide) _ (T.take (116 * i)).length _ rfl HR2.out ⟨g2, 0, none⟩ 116 cap2 (is (L.map Rt.down)) rfl (by rw [is_length, List.length_map, HSL.out, Nat.mul_one]) (fun j u hu => (HCs.out j u hu).2) (is_one _) (by rw [show maxLen = 9223372036854775807 from rfl]; omega) (by omega) HB2.out.size ?_; intro v3 w3 hown3 hgrow3 _)
          have HB3 := Lib.hid (below_row HB2.out HR2.out hgrow3 (Nat.le_refl _) HB2.out.size)
          have HR3 := Lib.hid (show w3.ownsRow w.heap.size 3 1 v3 (T.take (116 * (i + 1))).length (is ((T.take (116 * (i + 1))).map Rt.down)) by
            rw [HSN.out, List.length_append, HSL.out, List.map_append, is_append]
            exact hown3)
          clear hown3 hgrow3 HR2 HB2 HCs htl
          go_wp2_with fail
          go_roundw
          case rel => exact ⟨i + 1, by omega, by go_num, HR3, HB3⟩
          case measure => simp [intOf]; omega
        · obtain ⟨k, hk⟩ : ∃ k, len - 116 * i = k := ⟨_, rfl⟩
          have HSL := Lib.hid (show (Rt.seg T i).length = k by omega)
          have hk0 : 0 < k := by omega
          have hk1 : k < 116 := by omega
          have HK := Lib.hid (show (len : Int) - (i : Int) * 116 = (k : Int) by omega)
          have hmI : (len : Int) - (i : Int) * 116 < (116 : Int) := by omega
          have HGet : Hid (∀ wr', Calls Try.prog 26 #[.string ⟨((Rt.seg T i).flatMap Rt.enc).toArray⟩, .int .i64 (k : Int)] wr' (GotP wr' (Rt.seg T i))) := Lib.hid fun wr' => by
            have := getpart_any (w := wr') ⟨((Rt.seg T i).flatMap Rt.enc).toArray⟩ (Rt.seg T i) (by rw [HSL.out]; omega) rfl HAll.out
            rw [HSL.out] at this
            exact this
          have HSN := Lib.hid (seg_next T i)
          clear hsl hm HAll hk
          generalize (⟨((Rt.seg T i).flatMap Rt.enc).toArray⟩ : ByteArray) = SB at *
          generalize Rt.seg T i = L at *
          go_wp2_with fail
          refine (HNeed.out _).mono ?_
          rintro en w1 ⟨rfl, rfl⟩
          go_wp2_with fail
          refine HW.out.mono ?_
          rintro en w1 ⟨rfl, hb1⟩
          have HB1 := Lib.hid (hB.out.trans (hb1.mono hB.out.size))
          have HR1 := Lib.hid (own_to hR.out hb1)
          clear hb1 HW hR hB
          go_wp2_with fail
          rw [HK.out]
          refine (HGet.out _).mono ?_
          rintro en w2 ⟨ad2, cap2, rfl, ho2, hb2⟩
          rw [HSL.out]
          rw [HSL.out] at ho2
          have HB2 := Lib.hid (HB1.out.trans (hb2.mono HB1.out.size))
          have HR2 := Lib.hid (own_to HR1.out hb2)
          obtain ⟨g2, cp2, hv, hcs⟩ := owns_cells ho2 (by omega)
          cases hv
          have HCs := Lib.hid hcs
          clear hb2 ho2 hcs HR1 HB1 HGet
          have hkI : (k : Int) < 116 := by omega
          have htl := HTk.out
          go_wp2_with (at_builtin; refine wpList_append_own _ rfl (.tmp 60) (.tmp 61) 36 rfl w.heap.size 3 i0 (.int .i64 0) 1 8 Try.underlying36 hi hz0 hz1 hz2 rfl (by decide) _ (T.take (116 * i)).length _ rfl HR2.out ⟨g2, 0, none⟩ k cap2 (is (L.map Rt.down)) rfl (by rw [is_length, List.length_map, HSL.out, Nat.mul_one]) (fun j u hu => (HCs.out j u hu).2) (is_one _) (by rw [show maxLen = 9223372036854775807 from rfl]; omega) (by omega) HB2.out.size ?_; intro v3 w3 hown3 hgrow3 _)
          have HB3 := Lib.hid (below_row HB2.out HR2.out hgrow3 (Nat.le_refl _) HB2.out.size)
          have HR3 := Lib.hid (show w3.ownsRow w.heap.size 3 1 v3 (T.take (116 * (i + 1))).length (is ((T.take (116 * (i + 1))).map Rt.down)) by
            rw [HSN.out, List.length_append, HSL.out, List.map_append, is_append]
            exact hown3)
          clear hown3 hgrow3 HR2 HB2 HCs htl
          go_wp2_with fail
          go_roundw
          case rel => exact ⟨i + 1, by omega, by go_num, HR3, HB3⟩
          case measure => simp [intOf]; omega
    · obtain rfl : i = nd := by omega
      obtain ⟨wo, rfl⟩ : ∃ wo : World, wo = wr := ⟨_, rfl⟩
      have HTT := Lib.hid (show T.take (116 * i) = T from List.take_of_length_le (by rw [HN.out]; exact HND2.out))
      rw [HTT.out, HN.out] at hR
      have HIn := Lib.hid (HH.out wo hB.out)
      obtain ⟨ad3, m3, cap3, rfl, hm3⟩ := owns_form hR.out
      subst hm3
      have HOwn : Hid (∀ j, j < m3 → ∃ g, ad3 = some ⟨g, 0, none⟩ ∧ wo.cell? ((⟨g, 0, none⟩ : Addr).add j) = some (.int .i64 (Rt.down (T.getD j 0)))) := Lib.hid fun j hj => by
        obtain ⟨g, cp, hv, hcs⟩ := owns_cells hR.out (by omega)
        cases hv
        exact ⟨g, rfl, (hcs j _ (is_map_at T j (by rw [HN.out]; exact hj))).2⟩
      have hcb := HIn.out.big
      have hlc := HIn.out.le
      clear HP HND1 HND2 HTT hR
      go_wp2_with fail
      refine (HNeed.out _).mono ?_
      rintro en w1 ⟨rfl, rfl⟩
      clear HNeed
      go_wp2_with fail
      go_loopw [10] (fun x wx => ∃ j : Nat, j ≤ m3 ∧ x = .int .i64 j ∧ Hid (∃ n, wx = wo.drewN n)) (fun x _ => 1000 - (intOf x).toNat)
      case atStart => exact ⟨0, Nat.zero_le _, rfl, Lib.hid ⟨0, by rw [World.drewN_zero]⟩⟩
      case round =>
        obtain ⟨j, hj, rfl, hD⟩ := hrel
        obtain ⟨m, rfl⟩ := hD.out
        clear hD
        by_cases hlt2 : j < m3
        · have hltI : (j : Int) < (m3 : Int) := by omega
          obtain ⟨bd, e0, _, q0⟩ := HIn.out.at_ j hlt2
          obtain ⟨g, e1, q1⟩ := HOwn.out j hlt2
          subst e0
          subst e1
          rw [Addr.add_lit, Nat.zero_add] at q1
          generalize T.getD j 0 = q at *
          have g0 : 0 ≤ (j : Int) := by omega
          have g2 : (j : Int).toNat = j := by omega
          by_cases hq : q < -1
          · have hq1 : ¬ -1 ≤ q := by omega
            rw [show Rt.down q = -1 by unfold Rt.down; omega] at q1
            have q2 : ∀ k, (wo.drewN k).cell? (bd.add j) = some (.int .i64 q) := fun _ => q0
            have q3 : ∀ k, (wo.drewN k).cell? ⟨g, j, none⟩ = some (.int .i64 (-1)) := fun _ => q1
            have dd : ((m3 : Int) != (m3 : Int)) = false := by simp
            go_wp2_with fail
            go_quiet (fail)
            go_wp2_with fail
            go_roundw
            case rel => exact ⟨j + 1, by omega, by go_num, Lib.hid ⟨_, rfl⟩⟩
            case measure => simp [intOf]; omega
          · have hq1 : -1 ≤ q := by omega
            rw [show Rt.down q = q by unfold Rt.down; omega] at q1
            have q2 : ∀ k, (wo.drewN k).cell? (bd.add j) = some (.int .i64 q) := fun _ => q0
            have q3 : ∀ k, (wo.drewN k).cell? ⟨g, j, none⟩ = some (.int .i64 q) := fun _ => q1
            have dd : ((m3 : Int) != (m3 : Int)) = false := by simp
            go_wp2_with fail
            go_quiet (fail)
            go_wp2_with fail
            go_roundw
            case rel => exact ⟨j + 1, by omega, by go_num, Lib.hid ⟨_, rfl⟩⟩
            case measure => simp [intOf]; omega
        · obtain rfl : j = m3 := by omega
          go_wp2_with fail
          refine (awake13 _).mono ?_
          rintro en w2 ⟨rfl, hb2⟩
          have HB2 := Lib.hid ((below_drewN hB.out m).trans (hb2.mono (below_drewN hB.out m).size))
          clear hb2
          go_wp2_with fail
          go_ret
          exact ⟨rfl, HB2.out⟩
section
variable {H : Type} {enc : TypeId × Value → H} {W : World}
theorem ints_part {fuel : Nat} {c : Value} {y : DataW H × List MemPlace} (h : DataW.trod enc Try.prog W 0 (fun _ => true) true fuel 36 [c] = some y) : ∃ A len cap T, c = .slice A len cap ∧ Ints W.heap.size W A len cap T := by
  rcases open_ints Try.underlying36 Try.underlying3 (by kernel_rfl) h with ⟨hcs, _⟩ | ⟨a, len, cap, zs, hcs, _, hl, hm, hz, _, hcell, _⟩
  · have hc : c = .slice none 0 0 := by simpa using hcs
    exact ⟨none, 0, 0, [], hc, by omega, Nat.le_refl _, rfl, fun k hk => absurd hk (Nat.not_lt_zero _)⟩
  · have hc : c = .slice (some a) len cap := by simpa using hcs
    rw [if_pos rfl] at hz
    rw [max_is] at hm
    refine ⟨some a, len, cap, zs.take len, hc, hm, hl, by rw [List.length_take]; omega, fun k hk => ⟨a, rfl, ?_, ?_⟩⟩
    · have := block_lt_of_cell (hcell k (by omega))
      rwa [addr_block] at this
    · rw [hcell k (by omega), List.getD_eq_getElem?_getD, List.getD_eq_getElem?_getD, List.getElem?_take, if_pos hk]
end
set_option maxRecDepth 100000 in
theorem tables_law : Frame.LawCalls 9 Try.f9 := by
  intro H enc W base args ds p hval hA _ _ _
  rw [Try.params9] at hA hval
  obtain ⟨v0, vs0, d0, ds0, p0, q0, hargs, rfl, rfl, h0, r0⟩ := trodAll_cons hA
  obtain ⟨rfl, rfl, rfl⟩ := trodAll_nil r0
  obtain rfl : args = #[v0] := by cases args; simp_all
  obtain ⟨fuel, hf⟩ := h0
  obtain ⟨A, len, cap, rfl⟩ := okWide_slice Try.underlying36 (hval 0 36 v0 rfl rfl)
  obtain ⟨A', len', cap', T, hc, hI⟩ := ints_part (c := .slice A len cap) hf
  cases hc
  by_cases hl : len ≤ 700
  · exact tables_any hI hl
  · exact tables_big W (by omega) (Nat.le_trans hI.le hI.big)
set_option maxRecDepth 100000 in
theorem tables_lifted (os : Os) (started : os.Started) (H : Type) (enc : TypeId × Value → H) :
    ReturnsInHanded {} Try.checked os 9 .any (Rows.rootTablesSpec.pre6 enc Try.prog Try.f9 Rows.rootTablesRow.domain false) (Rows.rootTablesSpec.post enc Try.prog Try.f9 false true false false) :=
  Frame.lifted (s := Rows.rootTablesSpec) (by kernel_rfl) Try.func9 (by kernel_rfl) rfl (tb := 4) (by kernel_rfl) Try.underlying4
    (fun H ds h => by
      obtain ⟨d, rfl⟩ := one_datum ds h
      rfl) tables_law os started H enc
    (ChangeSpec.witness6 (enc := enc) (C := Try.checked) false ⟨#[], #[.slice none 0 0], []⟩ 8 (by kernel_rfl) (by kernel_rfl) (by kernel_rfl) (by kernel_rfl))
theorem tables_holds : Rows.RootTablesSaid :=
  OpenClaim.holds_of_wide 9 Try.f9 rfl rfl rfl rfl rfl rfl rfl ⟨rfl, rfl, rfl, rfl, rfl⟩ rfl rfl rfl rfl rfl (by kernel_rfl) Try.func9 (by kernel_rfl)
    (of_decide_eq_true (by kernel_rfl)) (by unfold Func.isWrapper; first | (rw [if_pos (by decide +kernel)]; kernel_rfl) | (rw [if_neg (by decide +kernel)]; exact ⟨rfl, rfl⟩))
    (fun os started H enc _ => tables_lifted os started H enc)
#print axioms tables_holds
end Go.Proofs.Ytbjkefodlnkaeaa
