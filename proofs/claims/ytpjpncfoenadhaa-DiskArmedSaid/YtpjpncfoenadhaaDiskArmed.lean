/- DiskArmed: a disk goes down at just the call that it was armed for. No condition. -/
import Derived.Test.YtpjpncfoenadhaaDiskOpen
namespace Go.Proofs.Ytpjpncfoenadhaa
open Go.ChangeShapes Go.WideShapes Go.ChangeAt Go.RowKit Dk

/-- armed for k, then written to the sectors 1 up to below i + 1 -/
def armS (k : Nat) : Nat → St
  | 0 => ((Dk.made 9).armed k).2
  | i + 1 => ((armS k i).write ((i : Int) + 1) [120]).2
theorem armS_arm : ∀ k : Nat, k < 7 → 1 ≤ k → ((Dk.made 9).armed k).1 = 0 := by decide +kernel
theorem armS_ok : ∀ k, k < 7 → ∀ i, i < 7 → i + 1 < k → ((armS k i).write ((i : Int) + 1) [120]).1 = 0 ∧ (armS k (i + 1)).down = false := by decide +kernel
theorem armS_sync : ∀ k, k < 7 → 1 ≤ k → (armS k (k - 1)).sync.1 = 13 ∧ (armS k (k - 1)).sync.2.down = true ∧ (armS k (k - 1)).sync.2.loose = k - 1 ∧ (armS k (k - 1)).sync.2.calls = k := by decide +kernel
theorem crash_loose (c : Cr) : ∀ (l : List Sec) (j : Nat), looseL (crashL c j l) = 0
  | [], _ => rfl
  | x :: r, j => by
    unfold crashL
    cases h : x.is
    · simp only [Bool.false_eq_true, if_false]
      unfold looseL
      rw [List.countP_cons, h]
      exact crash_loose c r j
    · simp only [if_true]
      unfold looseL
      rw [List.countP_cons]
      exact crash_loose c r (j + 1)
structure ArmR (w1 : World) (k : DB) (kk m : Nat) (wr : World) : Prop where
  pd : PD wr k (armS kk m)
  t : Touch k.lo k.hi w1 wr
theorem down_write {A : St} (h : A.down = true) (i : Int) (s : List UInt8) : A.write i s = (13, A) := by unfold St.write; rw [if_pos h]
theorem down_sync {A : St} (h : A.down = true) : A.sync = (13, A) := by unfold St.sync; rw [if_pos h]
theorem down_armed {A : St} (h : A.down = true) (i : Int) : A.armed i = (13, A) := by unfold St.armed; rw [if_pos h]
theorem down_read {A : St} (h : A.down = true) (i : Int) : A.read i = ([], 13) := by unfold St.read; rw [if_pos h]
set_option maxRecDepth 100000 in
set_option maxHeartbeats 8000000 in
theorem armed_walk (n : Nat) (hn : n < 256) (a : Act) (P : Option Addr) (len cap : Nat) (w : World) (ok : ActOk w a P len) :
    Calls Try.prog 5 #[.int .u8 n, actV a P len cap] w fun e w' => e = .returned (.bool true) ∧ Below w.heap.size w w' := by
  obtain ⟨q, hq⟩ : ∃ q, q = n % 6 := ⟨_, rfl⟩
  have hk2 : q < 6 := by omega
  have HK := Lib.hid ok.k
  have Hi := Lib.hid (And.intro ok.i0 ok.i1)
  obtain ⟨kd, i, s, c⟩ := a
  unfold actV
  simp only at *
  clear ok
  have hb0 : Below w.heap.size w (w.alloc (.cells #[.int .i64 kd, .int .i64 i, .string s, .slice P len cap, .int .i64 c.torn, .int .i64 c.bytes] 45 (0, 0))) := (Below.refl _ w).alloc (Nat.le_refl _) _
  have g0 := World.alloc_heap_new w (.cells #[.int .i64 kd, .int .i64 i, .string s, .slice P len cap, .int .i64 c.torn, .int .i64 c.bytes] 45 (0, 0))
  have hsz : (w.alloc (.cells #[.int .i64 kd, .int .i64 i, .string s, .slice P len cap, .int .i64 c.torn, .int .i64 c.bytes] 45 (0, 0))).heap.size = w.heap.size + 1 := by simp
  have G0 := Lib.hid g0
  have B0 := Lib.hid hb0
  have Z0 := Lib.hid hsz
  clear hb0 g0 hsz
  have hm6 : (n : Int) % 6 = (q : Int) := by omega
  clear hq
  go_enter Try.func5, Try.ntmps5
  go_wp2_with fail
  refine (new_in 9 _ (by decide) (by decide)).mono ?_
  rintro e w1 ⟨k, rfl, hp, hlo, hb⟩
  have G1 := Lib.hid ((hb.block w.heap.size (by rw [Z0.out]; omega)).trans G0.out)
  have B1 := Lib.hid (B0.out.trans (hb.mono B0.out.size))
  have L1 := Lib.hid (hlo.trans Z0.out)
  have P1 := Lib.hid hp
  clear hp hlo hb
  generalize w.alloc (.cells #[.int .i64 kd, .int .i64 i, .string s, .slice P len cap, .int .i64 c.torn, .int .i64 c.bytes] 45 (0, 0)) = w0 at *
  have HA := Lib.hid (arm_any ((q : Int) + 1) P1.out (by omega))
  go_wp2_with fail
  refine HA.out.mono ?_
  rintro e w2 ⟨rfl, hp, ht⟩
  have e0 : ((Dk.made 9).armed ((q : Int) + 1)).1 = 0 := armS_arm (q + 1) (by omega) (by omega)
  have HR0 := Lib.hid (show ArmR w1 k (q + 1) 0 w2 from ⟨hp, ht⟩)
  rw [e0]
  clear hp ht HA e0
  go_wp2_with fail
  refine (awake_any _).mono ?_
  rintro e w3 ⟨rfl, hb⟩
  have HR1 := Lib.hid (show ArmR w1 k (q + 1) 0 w3 from ⟨HR0.out.pd.below hb, HR0.out.t.trans (Touch.of_below hb)⟩)
  clear hb HR0
  go_wp2_with fail
  go_loopw [8] (fun i wr => ∃ m : Nat, m ≤ q ∧ i = .int .i64 ((m : Int) + 1) ∧ Hid (ArmR w1 k (q + 1) m wr)) (fun i _ => 100 - (intOf i).toNat)
  case atStart => exact ⟨0, Nat.zero_le _, rfl, HR1⟩
  case round =>
    obtain ⟨m, hm, rfl, hR⟩ := hrel
    by_cases hlt : m < q
    · have hltI : (m : Int) + 1 < (q : Int) + 1 := by omega
      have HC := Lib.hid (armS_ok (q + 1) (by omega) m (by omega) (by omega))
      go_wp2_with fail
      refine (write_any ((m : Int) + 1) ⟨#[120]⟩ hR.out.pd).mono ?_
      rintro e w4 ⟨rfl, hp, ht⟩
      have HR2 := Lib.hid (show ArmR w1 k (q + 1) (m + 1) w4 from ⟨hp, hR.out.t.trans ht⟩)
      rw [show ((armS (q + 1) m).write ((m : Int) + 1) (ByteArray.mk #[120]).data.toList).1 = 0 from HC.out.1]
      clear hp ht
      go_wp2_with fail
      refine (down_any HR2.out.pd).mono ?_
      rintro e w5 ⟨rfl, rfl⟩
      rw [HC.out.2]
      go_wp2_with fail
      go_roundw
      case rel => exact ⟨m + 1, by omega, by go_num, HR2⟩
      case measure => simp [intOf]; omega
    · obtain rfl : m = q := by omega
      have HC := Lib.hid (armS_sync (m + 1) (by omega) (by omega))
      simp only [Nat.add_sub_cancel] at HC
      go_wp2_with fail
      refine (sync_any hR.out.pd).mono ?_
      rintro e w4 ⟨rfl, hp, ht⟩
      have HP := Lib.hid hp
      have HT := Lib.hid (hR.out.t.trans ht)
      rw [HC.out.1]
      clear hp ht
      generalize (armS (m + 1) m).sync.2 = D at *
      go_wp2_with fail
      refine (down_any HP.out).mono ?_
      rintro e w5 ⟨rfl, rfl⟩
      rw [HC.out.2.1]
      go_wp2_with fail
      refine (loose_any HP.out).mono ?_
      rintro e w5 ⟨rfl, rfl⟩
      rw [HC.out.2.2.1]
      go_wp2_with fail
      refine (read_any 0 HP.out).mono ?_
      rintro e w5 ⟨rfl, rfl⟩
      rw [down_read HC.out.2.1]
      unfold readV
      have g1 := (HT.out.block w.heap.size (lt_of_block G1.out) (.inl (by rw [L1.out]; omega))).trans G1.out
      have q1 := cell_of_row w4 w.heap.size 1 _ _ (0, 0) g1
      have q2 := cell_of_row w4 w.heap.size 2 _ _ (0, 0) g1
      simp only [List.getElem?_toArray, List.getElem?_cons_succ, List.getElem?_cons_zero] at q1 q2
      clear g1
      go_wp2_with fail
      refine (write_any i s HP.out).mono ?_
      rintro e w5 ⟨rfl, hp, ht⟩
      rw [down_write HC.out.2.1] at hp ⊢
      have HP5 := Lib.hid hp
      have HT5 := Lib.hid (HT.out.trans ht)
      clear hp ht q1 q2 HP
      go_wp2_with fail
      refine (sync_any HP5.out).mono ?_
      rintro e w6 ⟨rfl, hp, ht⟩
      rw [down_sync HC.out.2.1] at hp ⊢
      have HP6 := Lib.hid hp
      have HT6 := Lib.hid (HT5.out.trans ht)
      clear hp ht HP5 HT5
      have g1 := (HT6.out.block w.heap.size (lt_of_block G1.out) (.inl (by rw [L1.out]; omega))).trans G1.out
      have q1 := cell_of_row w6 w.heap.size 1 _ _ (0, 0) g1
      simp only [List.getElem?_toArray, List.getElem?_cons_succ, List.getElem?_cons_zero] at q1
      clear g1
      go_wp2_with fail
      refine (arm_any i HP6.out Hi.out.2).mono ?_
      rintro e w7 ⟨rfl, hp, ht⟩
      rw [down_armed HC.out.2.1] at hp ⊢
      have HP7 := Lib.hid hp
      have HT7 := Lib.hid (HT6.out.trans ht)
      clear hp ht HP6 HT6 q1
      go_wp2_with fail
      refine (calls_any HP7.out).mono ?_
      rintro e w8 ⟨rfl, rfl⟩
      rw [HC.out.2.2.2]
      have g1 := (HT7.out.block w.heap.size (lt_of_block G1.out) (.inl (by rw [L1.out]; omega))).trans G1.out
      have q3 := cell_of_row w7 w.heap.size 3 _ _ (0, 0) g1
      have q4 := cell_of_row w7 w.heap.size 4 _ _ (0, 0) g1
      have q5 := cell_of_row w7 w.heap.size 5 _ _ (0, 0) g1
      simp only [List.getElem?_toArray, List.getElem?_cons_succ, List.getElem?_cons_zero] at q3 q4 q5
      have hB7 := Lib.hid ((HK.out.touch (Touch.of_below (lo := w.heap.size) (hi := w.heap.size) B1.out) (Nat.le_refl _)).touch HT7.out (by rw [L1.out]; omega) |>.lift (show w.heap.size ≤ k.lo by rw [L1.out]; omega))
      rw [show ((m + 1 : Nat) : Int) = (m : Int) + 1 by omega]
      clear g1
      go_wp2_with fail
      refine (crash_any (c := c) HP7.out hB7.out).mono ?_
      rintro e w9 ⟨rfl, hp, ht⟩
      have HP9 := Lib.hid hp
      have HT9 := Lib.hid (HT7.out.trans ht)
      clear hp ht HP7 HT7 q3 q4 q5 hB7
      go_wp2_with fail
      refine (down_any HP9.out).mono ?_
      rintro e w10 ⟨rfl, rfl⟩
      rw [show (D.crash c).down = false from rfl]
      go_wp2_with fail
      refine (loose_any HP9.out).mono ?_
      rintro e w10 ⟨rfl, rfl⟩
      rw [show (D.crash c).loose = 0 from crash_loose c D.secs 0]
      go_wp2_with fail
      go_ret
      exact ⟨rfl, B1.out.trans (HT9.out.below (by rw [L1.out]; omega) B1.out.size)⟩
set_option maxRecDepth 100000 in
theorem armed_law : Frame.LawCalls 5 Try.f5 := by
  intro H enc W base args ds p hval hA _ _ _
  rw [Try.params5] at hA hval
  obtain ⟨v0, vs0, d0, ds0, p0, q0, hargs, rfl, rfl, h0, r0⟩ := trodAll_cons hA
  obtain ⟨v1, vs1, d1, ds1, p1, q1, rfl, rfl, rfl, h1, r1⟩ := trodAll_cons r0
  obtain ⟨rfl, rfl, rfl⟩ := trodAll_nil r1
  obtain rfl : args = #[v0, v1] := by cases args; simp_all
  obtain ⟨a0, rfl, rfl, rfl, w0⟩ := open_int Try.underlying5 (hval 0 5 v0 rfl rfl) h0
  obtain ⟨a, P, len, cap, rfl, ok⟩ := act_args (hval 1 45 v1 rfl rfl) h1
  have hw : 0 ≤ a0 ∧ a0 ≤ 255 := by
    have := w0
    simp [Lit.wf] at this
    exact this
  obtain ⟨n, rfl⟩ := Int.eq_ofNat_of_zero_le hw.1
  exact armed_walk n (by omega) a P len cap W ok
set_option maxRecDepth 100000 in
theorem armed_lifted (os : Os) (started : os.Started) (H : Type) (enc : TypeId × Value → H) :
    ReturnsInHanded {} Try.checked os 5 .any (Rows.diskArmedSpec.pre6 enc Try.prog Try.f5 Rows.diskArmedRow.domain false) (Rows.diskArmedSpec.post enc Try.prog Try.f5 false true false false) :=
  Frame.lifted (s := Rows.diskArmedSpec) (by kernel_rfl) Try.func5 (by kernel_rfl) rfl (tb := 4) (by kernel_rfl) Try.underlying4
    (fun H ds h => by
      obtain ⟨d, e, rfl⟩ := two_data ds h
      rfl) armed_law os started H enc
    (ChangeSpec.witness6 (enc := enc) (C := Try.checked) false ⟨#[], #[.int .u8 0, .agg #[.int .i64 0, .int .i64 0, .string ⟨#[]⟩, .slice none 0 0, .int .i64 0, .int .i64 0]], []⟩ 8 (by kernel_rfl) (by kernel_rfl) (by kernel_rfl) (by kernel_rfl))
theorem armed_holds : Rows.DiskArmedSaid :=
  OpenClaim.holds_of_wide 5 Try.f5 rfl rfl rfl rfl rfl rfl rfl ⟨rfl, rfl, rfl, rfl, rfl⟩ rfl rfl rfl rfl rfl (by kernel_rfl) Try.func5 (by kernel_rfl)
    (of_decide_eq_true (by kernel_rfl)) (by unfold Func.isWrapper; first | (rw [if_pos (by decide +kernel)]; kernel_rfl) | (rw [if_neg (by decide +kernel)]; exact ⟨rfl, rfl⟩))
    (fun os started H enc _ => armed_lifted os started H enc)
#print axioms armed_holds
end Go.Proofs.Ytpjpncfoenadhaa
