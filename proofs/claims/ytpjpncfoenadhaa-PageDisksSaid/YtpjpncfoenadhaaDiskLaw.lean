/- The law's made: both disks behind some calls, never apart. Condition: the acts lie in memory as they came in. -/
import Derived.Test.YtpjpncfoenadhaaDiskDo
import Derived.Test.YtpjpncfoenadhaaDiskActs
namespace Go.Proofs.Ytpjpncfoenadhaa
open Go.RowKit Dk

theorem n_after (A : St) (a : Act) : (St.after A a).n = A.n := by
  unfold St.after
  split
  · exact n_write _ _ _
  · split
    · exact n_sync _
    · split
      · exact n_armed _ _
      · exact n_crash _ _
section
variable {lo : Nat} {w : World} {k : DB} {r : RB} {A : St}
theorem do_any {a : Act} {P : Option Addr} {len cap : Nat} (h : Two lo w k r A) (hs : a.s.size ≤ 600) (hi : a.i ≤ 9223372036854775807) (hb : Bools lo w P len a.c.keep) :
    Calls Try.prog 49 #[.pointer (some ⟨k.g, 0, none⟩), .pointer (some ⟨r.g, 0, none⟩), actV a P len cap] w (Done lo w k r (St.after A a)) := by
  by_cases h1 : a.kind = 0 ∨ a.kind = 1 ∨ a.kind = 2
  · have e : St.after A a = (A.write a.i a.s.data.toList).2 := by unfold St.after; rw [if_pos h1]
    rw [e]
    exact do_write h h1 hs
  · by_cases h2 : a.kind = 3
    · have e : St.after A a = A.sync.2 := by unfold St.after; rw [if_neg h1, if_pos h2]
      rw [e]
      exact do_sync h h2
    · by_cases h3 : a.kind = 4
      · have e : St.after A a = (A.armed a.i).2 := by unfold St.after; rw [if_neg h1, if_neg h2, if_pos h3]
        rw [e]
        exact do_arm h h3 hi
      · have e : St.after A a = A.crash a.c := by unfold St.after; rw [if_neg h1, if_neg h2, if_neg h3]
        rw [e]
        exact do_crash h (by omega) hb
end
/-- what made hands back -/
def MadeOk (w : World) (n : Nat) (e : Ending) (w' : World) : Prop :=
  ∃ (k : DB) (r : RB) (A : St), e = .returned (.tuple #[.pointer (some ⟨k.g, 0, none⟩), .pointer (some ⟨r.g, 0, none⟩), .bool true]) ∧ Two w.heap.size w' k r A ∧ A.n = n ∧ Below w.heap.size w w'
structure LawR (w : World) (k : DB) (r : RB) (n : Nat) (wr : World) : Prop where
  two : ∃ A, Two w.heap.size wr k r A ∧ A.n = n
  b : Below w.heap.size w wr
set_option maxRecDepth 100000 in
set_option maxHeartbeats 4000000 in
theorem made_out (n : Int) (P : Option Addr) (len cap : Nat) (w : World) (h : n < 1 ∨ 4096 < n) :
    Calls Try.prog 15 #[.int .i64 n, .slice P len cap] w fun e w' => e = .returned (.tuple #[.pointer none, .pointer none, .bool true]) ∧ w = w' := by
  have HN := Lib.hid (new_out n w h)
  by_cases h1 : n < 1
  · clear h
    go_enter Try.func15, Try.ntmps15
    go_wp2_with fail
    refine HN.out.mono ?_
    rintro e w' ⟨rfl, rfl⟩
    go_wp2_with fail
    go_ret3
    exact ⟨rfl, rfl⟩
  · have h2 : 4096 < n := by omega
    clear h
    go_enter Try.func15, Try.ntmps15
    go_wp2_with fail
    refine HN.out.mono ?_
    rintro e w' ⟨rfl, rfl⟩
    go_wp2_with fail
    go_ret3
    exact ⟨rfl, rfl⟩
set_option maxRecDepth 100000 in
set_option maxHeartbeats 4000000 in
theorem made_in (n : Nat) (P : Option Addr) (len cap : Nat) (w : World) (h1 : 1 ≤ n) (h2 : n ≤ 4096) (ha : ActsAt w P len) :
    Calls Try.prog 15 #[.int .i64 n, .slice P len cap] w (MadeOk w n) := by
  have HA := Lib.hid ha
  have hlen := ha.1
  rw [max_is] at hlen
  clear ha
  have c1 : ¬ (n : Int) < 1 := by omega
  have c2 : ¬ (4096 : Int) < (n : Int) := by omega
  go_enter Try.func15, Try.ntmps15
  go_wp2_with fail
  refine (new_in n _ h1 h2).mono ?_
  rintro e w1 ⟨k, rfl, hp, hlo, hb⟩
  have HP := Lib.hid hp
  have HL := Lib.hid hlo
  have HB := Lib.hid hb
  clear hp hlo hb
  go_wp2_with fail
  refine (rmade_any n _ h1 h2).mono ?_
  rintro e w2 ⟨r, rfl, hx, hlo, hb⟩
  have HI := Lib.hid (show LawR w k r n w2 from ⟨⟨Dk.made n, ⟨HP.out.below hb, hx, Nat.le_of_eq HL.out.symm, by rw [hlo]; exact HP.out.inn⟩, by simp [Dk.made, St.n]⟩, HB.out.trans (hb.mono HB.out.size)⟩)
  clear hx hlo hb HP HL HB
  go_wp2_with fail
  go_loopw [10] (fun i wr => ∃ m : Nat, m ≤ len ∧ m ≤ 60 ∧ i = .int .i64 m ∧ Hid (LawR w k r n wr)) (fun i _ => 100 - (intOf i).toNat)
  case atStart => exact ⟨0, Nat.zero_le _, Nat.zero_le _, rfl, HI⟩
  case round =>
    obtain ⟨m, hm, hm2, rfl, hR⟩ := hrel
    by_cases hlt : m < len
    · have hltI : (m : Int) < (len : Int) := by omega
      by_cases h60 : m < 60
      · have h60I : (m : Int) < 60 := by omega
        obtain ⟨ad, rfl, a, Q, l, c, hat⟩ := HA.out.2 m hlt
        obtain ⟨q0, q1, q2, q3, q4, q5, qb⟩ := hat.below hR.out.b
        rw [show (ad.add (m * 6)).add 0 = ad.add (m * 6) from rfl] at q0
        have ea : ∀ j, 0 < j → (ad.add (m * 6)).add j = ⟨(ad.add (m * 6)).block, (ad.add (m * 6)).off + j, none⟩ := fun j hj => by
          unfold Addr.add
          rw [if_neg (by omega)]
        rw [ea 1 (by decide)] at q1
        rw [ea 2 (by decide)] at q2
        rw [ea 3 (by decide)] at q3
        rw [ea 4 (by decide)] at q4
        rw [ea 5 (by decide)] at q5
        clear ea
        have hok := hat.ok
        obtain ⟨A, hT, hn⟩ := hR.out.two
        by_cases hs : a.s.size < 500
        · have hsI : (a.s.size : Int) < 500 := by omega
          have HD := Lib.hid (do_any (cap := c) hT (by omega) hok.i1 qb)
          have HN := Lib.hid hn
          have HT := Lib.hid hT
          obtain ⟨kd, i, s, cr⟩ := a
          simp only at *
          unfold actV at HD
          simp only at HD
          clear hT hn hok hat qb
          go_wp2_with fail
          refine HD.out.mono ?_
          rintro e w3 ⟨rfl, hT3, ht3⟩
          have hR3 := Lib.hid (show LawR w k r n w3 from ⟨⟨_, hT3, (n_after _ _).trans HN.out⟩, hR.out.b.trans (ht3.below HT.out.lo hR.out.b.size)⟩)
          clear hT3 ht3 q0 q1 q2 q3 q4 q5 HD
          go_wp2_with fail
          go_roundw
          case rel => exact ⟨m + 1, by omega, by omega, by go_num, hR3⟩
          case measure => simp [intOf]; omega
        · have hsI : ¬ (a.s.size : Int) < 500 := by omega
          obtain ⟨kd, i, s, cr⟩ := a
          simp only at *
          clear hT hn hok hat qb
          go_wp2_with fail
          go_roundw
          case rel => exact ⟨m + 1, by omega, by omega, by go_num, hR⟩
          case measure => simp [intOf]; omega
      · have h60I : ¬ (m : Int) < 60 := by omega
        go_wp2_with fail
        go_ret3
        obtain ⟨A, hT, hn⟩ := hR.out.two
        exact ⟨k, r, A, rfl, hT, hn, hR.out.b⟩
    · obtain rfl : m = len := by omega
      go_wp2_with fail
      go_ret3
      obtain ⟨A, hT, hn⟩ := hR.out.two
      exact ⟨k, r, A, rfl, hT, hn, hR.out.b⟩
end Go.Proofs.Ytpjpncfoenadhaa
