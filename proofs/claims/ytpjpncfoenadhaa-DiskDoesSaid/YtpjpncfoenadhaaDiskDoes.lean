/- DiskDoes: every call of a disk is answered as the document says. No condition. -/
import Derived.Test.YtpjpncfoenadhaaDiskLaw
namespace Go.Proofs.Ytpjpncfoenadhaa
open Go.ChangeShapes Go.WideShapes Go.ChangeAt Go.RowKit Dk

set_option maxRecDepth 100000 in
set_option maxHeartbeats 8000000 in
theorem does_out (n : Int) (P : Option Addr) (len cap : Nat) (o : Int) (w : World) (h : n < 1 ∨ 4096 < n) :
    Calls Try.prog 6 #[.int .i64 n, .slice P len cap, .int .i64 o] w fun e w' => e = .returned (.bool true) ∧ Below w.heap.size w w' := by
  have HN := Lib.hid (made_out n P len cap w h)
  clear h
  go_enter Try.func6, Try.ntmps6
  go_wp2_with fail
  refine HN.out.mono ?_
  rintro e w' ⟨rfl, rfl⟩
  clear HN
  go_wp2_with fail
  refine (awake_any _).mono ?_
  rintro e w1 ⟨rfl, hb⟩
  have HB := Lib.hid hb
  clear hb
  go_wp2_with fail
  refine (awake_any _).mono ?_
  rintro e w2 ⟨rfl, hb⟩
  have HB2 := Lib.hid (HB.out.trans (hb.mono HB.out.size))
  clear hb
  go_wp2_with fail
  go_ret
  exact ⟨rfl, HB2.out⟩
set_option maxRecDepth 100000 in
set_option maxHeartbeats 8000000 in
theorem does_in (n : Nat) (P : Option Addr) (len cap : Nat) (o : Int) (w : World) (h1 : 1 ≤ n) (h2 : n ≤ 4096) (ha : ActsAt w P len) :
    Calls Try.prog 6 #[.int .i64 n, .slice P len cap, .int .i64 o] w fun e w' => e = .returned (.bool true) ∧ Below w.heap.size w w' := by
  have HN := Lib.hid (made_in n P len cap w h1 h2 ha)
  clear ha
  go_enter Try.func6, Try.ntmps6
  go_wp2_with fail
  refine HN.out.mono ?_
  rintro e w1 ⟨k, r, A, rfl, hT, hn, hb⟩
  have HB1 := Lib.hid hb
  have HT1 := Lib.hid hT
  subst hn
  clear hb hT HN
  go_wp2_with fail
  refine (awake_any _).mono ?_
  rintro e w2 ⟨rfl, hb⟩
  have HB := Lib.hid (HB1.out.trans (hb.mono HB1.out.size))
  have HT := Lib.hid (HT1.out.below hb)
  clear hb HT1 HB1
  go_wp2_with fail
  refine (read_any o HT.out.p).mono ?_
  rintro e w3 ⟨rfl, rfl⟩
  unfold readV
  generalize hR : A.read o = R at *
  have HR := Lib.hid hR
  clear hR
  obtain ⟨rs, re⟩ := R
  go_wp2_with fail
  refine (rread_any o HT.out.x).mono ?_
  rintro e w3 ⟨rfl, rfl⟩
  unfold readV
  rw [HR.out]
  have c5 := HT.out.x.c5
  have c4 := HT.out.x.c4
  go_wp2_with fail
  go_quiet ((first
    | (go_at_call 20; exact Calls.quiet_of_same (same_of (down_any (HT.out.p.below (below_drewN (Below.refl _ _) _)))))
    | (go_at_call 30; exact Calls.quiet_of_same (same_of (sectors_any (HT.out.p.below (below_drewN (Below.refl _ _) _)))))
    | (go_at_call 19; exact Calls.quiet_of_same (same_of (loose_any (HT.out.p.below (below_drewN (Below.refl _ _) _)))))
    | (go_at_call 31; exact Calls.quiet_of_same (same_of (rloose_any (HT.out.x.below (below_drewN (Below.refl _ _) _)))))
    | (go_at_call 28; exact Calls.quiet_of_same (same_of (calls_any (HT.out.p.below (below_drewN (Below.refl _ _) _)))))))
  have hd : Below w2.heap.size w2 (w2.drewN nq) := below_drewN (Below.refl _ _) nq
  have HB3 := Lib.hid (HB.out.trans (hd.mono HB.out.size))
  have HT3 := Lib.hid (HT.out.below hd)
  clear hd c5 c4 HT HB HR
  generalize w2.drewN nq = w3 at *
  go_wp2_with fail
  go_loop [14] (fun i => ∃ m : Nat, m ≤ A.n ∧ m ≤ 12 ∧ i = .int .i64 m) (fun i => 100 - (intOf i).toNat)
  case atStart => exact ⟨0, Nat.zero_le _, Nat.zero_le _, rfl⟩
  case round =>
    obtain ⟨m, hm, hm2, rfl⟩ := hrel
    by_cases hlt : m < A.n
    · have hltI : (m : Int) < (A.n : Int) := by omega
      by_cases h12 : m < 12
      · have h12I : (m : Int) < 12 := by omega
        go_wp2_with fail
        refine (read_any (m : Int) HT3.out.p).mono ?_
        rintro e w' ⟨rfl, rfl⟩
        unfold readV
        generalize hR : A.read (m : Int) = R at *
        have HR := Lib.hid hR
        clear hR
        obtain ⟨qs, qe⟩ := R
        go_wp2_with fail
        refine (rread_any (m : Int) HT3.out.x).mono ?_
        rintro e w' ⟨rfl, rfl⟩
        unfold readV
        rw [HR.out]
        go_wp2_with fail
        go_round
        case rel => exact ⟨m + 1, by omega, by omega, by go_num⟩
        case measure => simp [intOf]; omega
      · have h12I : ¬ (m : Int) < 12 := by omega
        go_wp2_with fail
        go_ret
        exact ⟨rfl, HB3.out⟩
    · obtain rfl : m = A.n := by omega
      go_wp2_with fail
      go_ret
      exact ⟨rfl, HB3.out⟩
set_option maxRecDepth 100000 in
theorem does_law : Frame.LawCalls 6 Try.f6 := by
  intro H enc W base args ds p hval hA _ _ _
  rw [Try.params6] at hA hval
  obtain ⟨v0, vs0, d0, ds0, p0, q0, hargs, rfl, rfl, h0, r0⟩ := trodAll_cons hA
  obtain ⟨v1, vs1, d1, ds1, p1, q1, rfl, rfl, rfl, h1, r1⟩ := trodAll_cons r0
  obtain ⟨v2, vs2, d2, ds2, p2, q2, rfl, rfl, rfl, h2, r2⟩ := trodAll_cons r1
  obtain ⟨rfl, rfl, rfl⟩ := trodAll_nil r2
  obtain rfl : args = #[v0, v1, v2] := by cases args; simp_all
  obtain ⟨n, rfl, rfl, rfl, _⟩ := open_int Try.underlying3 (hval 0 3 v0 rfl rfl) h0
  obtain ⟨A, len, cap, rfl, ha⟩ := acts_args (hval 1 22 v1 rfl rfl) h1
  obtain ⟨o, rfl, rfl, rfl, _⟩ := open_int Try.underlying3 (hval 2 3 v2 rfl rfl) h2
  by_cases hn : n < 1 ∨ 4096 < n
  · exact does_out n A len cap o W hn
  · obtain ⟨m, rfl⟩ := Int.eq_ofNat_of_zero_le (show 0 ≤ n by omega)
    exact does_in m A len cap o W (by omega) (by omega) ha
set_option maxRecDepth 100000 in
theorem does_lifted (os : Os) (started : os.Started) (H : Type) (enc : TypeId × Value → H) :
    ReturnsInHanded {} Try.checked os 6 .any (Rows.diskDoesSpec.pre6 enc Try.prog Try.f6 Rows.diskDoesRow.domain false) (Rows.diskDoesSpec.post enc Try.prog Try.f6 false true false false) :=
  Frame.lifted (s := Rows.diskDoesSpec) (by kernel_rfl) Try.func6 (by kernel_rfl) rfl (tb := 4) (by kernel_rfl) Try.underlying4
    (fun H ds h => by
      obtain ⟨d, e, g, rfl⟩ := three_data ds h
      rfl) does_law os started H enc
    (ChangeSpec.witness6 (enc := enc) (C := Try.checked) false ⟨#[], #[.int .i64 0, .slice none 0 0, .int .i64 0], []⟩ 8 (by kernel_rfl) (by kernel_rfl) (by kernel_rfl) (by kernel_rfl))
theorem does_holds : Rows.DiskDoesSaid :=
  OpenClaim.holds_of_wide 6 Try.f6 rfl rfl rfl rfl rfl rfl rfl ⟨rfl, rfl, rfl, rfl, rfl⟩ rfl rfl rfl rfl rfl (by kernel_rfl) Try.func6 (by kernel_rfl)
    (of_decide_eq_true (by kernel_rfl)) (by unfold Func.isWrapper; first | (rw [if_pos (by decide +kernel)]; kernel_rfl) | (rw [if_neg (by decide +kernel)]; exact ⟨rfl, rfl⟩))
    (fun os started H enc _ => does_lifted os started H enc)
#print axioms does_holds
end Go.Proofs.Ytpjpncfoenadhaa
