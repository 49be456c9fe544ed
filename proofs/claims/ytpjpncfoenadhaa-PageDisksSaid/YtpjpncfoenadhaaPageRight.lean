/- Whether a page may be, in the program and in the document's answer; the payload filled up. No condition but sizes. -/
import Derived.Test.YtpjpncfoenadhaaPagePlain
import Derived.Test.YtpjpncfoenadhaaPack
import Derived.Test.YtpjpncfoenadhaaCrcCut
import Derived.Test.YtpjpncfoenadhaaDiskFill
namespace Go.Proofs.Ytpjpncfoenadhaa
open Go.RowKit Pg

def pageV (p : Page) : Value := .agg #[.int .i64 p.id, .int .i64 p.epoch, .int .i64 p.kind, .string ⟨p.pay.toArray⟩]
theorem ret_bool {a b : Bool} (h : a = b) : Ending.returned (.bool a) = .returned (.bool b) := by rw [h]
set_option maxRecDepth 100000 in
set_option maxHeartbeats 2000000 in
theorem right_any (p : Page) (w : World) : Calls Try.prog 55 #[pageV p] w fun e w' => e = .returned (.bool (right p)) ∧ Below w.heap.size w w' := by
  obtain ⟨i, e, k, s⟩ := p
  unfold pageV right
  simp only
  by_cases h1 : 0 ≤ i
  · by_cases h2 : 0 ≤ e
    · by_cases h3 : e ≤ 1099511627776
      · by_cases h4 : 0 ≤ k
        · by_cases h5 : k ≤ 2147483647
          · have HD := Lib.hid (show decide (0 ≤ i ∧ 0 ≤ e ∧ e ≤ 1099511627776 ∧ 0 ≤ k ∧ k ≤ 2147483647) = true from decide_eq_true ⟨h1, h2, h3, h4, h5⟩)
            rw [HD.out]
            go_enter Try.func55, Try.ntmps55
            go_wp2_with fail
            go_ret
            exact ⟨rfl, (Below.refl _ _).alloc (Nat.le_refl _) _⟩
          · have HD := Lib.hid (show decide (0 ≤ i ∧ 0 ≤ e ∧ e ≤ 1099511627776 ∧ 0 ≤ k ∧ k ≤ 2147483647) = false from decide_eq_false (fun h => h5 h.2.2.2.2))
            rw [HD.out]
            go_enter Try.func55, Try.ntmps55
            go_wp2_with fail
            go_ret
            exact ⟨ret_bool (by simp), (Below.refl _ _).alloc (Nat.le_refl _) _⟩
        · have HD := Lib.hid (show decide (0 ≤ i ∧ 0 ≤ e ∧ e ≤ 1099511627776 ∧ 0 ≤ k ∧ k ≤ 2147483647) = false from decide_eq_false (fun h => h4 h.2.2.2.1))
          rw [HD.out]
          go_enter Try.func55, Try.ntmps55
          go_wp2_with fail
          go_ret
          exact ⟨rfl, (Below.refl _ _).alloc (Nat.le_refl _) _⟩
      · have HD := Lib.hid (show decide (0 ≤ i ∧ 0 ≤ e ∧ e ≤ 1099511627776 ∧ 0 ≤ k ∧ k ≤ 2147483647) = false from decide_eq_false (fun h => h3 h.2.2.1))
        rw [HD.out]
        go_enter Try.func55, Try.ntmps55
        go_wp2_with fail
        go_ret
        exact ⟨rfl, (Below.refl _ _).alloc (Nat.le_refl _) _⟩
    · have HD := Lib.hid (show decide (0 ≤ i ∧ 0 ≤ e ∧ e ≤ 1099511627776 ∧ 0 ≤ k ∧ k ≤ 2147483647) = false from decide_eq_false (fun h => h2 h.2.1))
      rw [HD.out]
      go_enter Try.func55, Try.ntmps55
      go_wp2_with fail
      go_ret
      exact ⟨rfl, (Below.refl _ _).alloc (Nat.le_refl _) _⟩
  · have HD := Lib.hid (show decide (0 ≤ i ∧ 0 ≤ e ∧ e ≤ 1099511627776 ∧ 0 ≤ k ∧ k ≤ 2147483647) = false from decide_eq_false (fun h => h1 h.1))
    rw [HD.out]
    go_enter Try.func55, Try.ntmps55
    go_wp2_with fail
    go_ret
    exact ⟨rfl, (Below.refl _ _).alloc (Nat.le_refl _) _⟩
set_option maxRecDepth 100000 in
set_option maxHeartbeats 2000000 in
theorem rright_any (p : Page) (w : World) : Calls Try.prog 40 #[pageV p] w fun e w' => e = .returned (.bool (right p)) ∧ Below w.heap.size w w' := by
  obtain ⟨i, e, k, s⟩ := p
  unfold pageV right
  simp only
  by_cases h1 : 0 ≤ i
  · by_cases h2 : 0 ≤ e
    · by_cases h3 : e ≤ 1099511627776
      · by_cases h4 : 0 ≤ k
        · by_cases h5 : k ≤ 2147483647
          · have HD := Lib.hid (show decide (0 ≤ i ∧ 0 ≤ e ∧ e ≤ 1099511627776 ∧ 0 ≤ k ∧ k ≤ 2147483647) = true from decide_eq_true ⟨h1, h2, h3, h4, h5⟩)
            rw [HD.out]
            go_enter Try.func40, Try.ntmps40
            go_wp2_with fail
            go_ret
            exact ⟨rfl, (Below.refl _ _).alloc (Nat.le_refl _) _⟩
          · have HD := Lib.hid (show decide (0 ≤ i ∧ 0 ≤ e ∧ e ≤ 1099511627776 ∧ 0 ≤ k ∧ k ≤ 2147483647) = false from decide_eq_false (fun h => h5 h.2.2.2.2))
            rw [HD.out]
            go_enter Try.func40, Try.ntmps40
            go_wp2_with fail
            go_ret
            exact ⟨ret_bool (by simp), (Below.refl _ _).alloc (Nat.le_refl _) _⟩
        · have HD := Lib.hid (show decide (0 ≤ i ∧ 0 ≤ e ∧ e ≤ 1099511627776 ∧ 0 ≤ k ∧ k ≤ 2147483647) = false from decide_eq_false (fun h => h4 h.2.2.2.1))
          rw [HD.out]
          go_enter Try.func40, Try.ntmps40
          go_wp2_with fail
          go_ret
          exact ⟨rfl, (Below.refl _ _).alloc (Nat.le_refl _) _⟩
      · have HD := Lib.hid (show decide (0 ≤ i ∧ 0 ≤ e ∧ e ≤ 1099511627776 ∧ 0 ≤ k ∧ k ≤ 2147483647) = false from decide_eq_false (fun h => h3 h.2.2.1))
        rw [HD.out]
        go_enter Try.func40, Try.ntmps40
        go_wp2_with fail
        go_ret
        exact ⟨rfl, (Below.refl _ _).alloc (Nat.le_refl _) _⟩
    · have HD := Lib.hid (show decide (0 ≤ i ∧ 0 ≤ e ∧ e ≤ 1099511627776 ∧ 0 ≤ k ∧ k ≤ 2147483647) = false from decide_eq_false (fun h => h2 h.2.1))
      rw [HD.out]
      go_enter Try.func40, Try.ntmps40
      go_wp2_with fail
      go_ret
      exact ⟨rfl, (Below.refl _ _).alloc (Nat.le_refl _) _⟩
  · have HD := Lib.hid (show decide (0 ≤ i ∧ 0 ≤ e ∧ e ≤ 1099511627776 ∧ 0 ≤ k ∧ k ≤ 2147483647) = false from decide_eq_false (fun h => h1 h.1))
    rw [HD.out]
    go_enter Try.func40, Try.ntmps40
    go_wp2_with fail
    go_ret
    exact ⟨rfl, (Below.refl _ _).alloc (Nat.le_refl _) _⟩
/-- a row of bytes that a call owns, read back whole -/
theorem BRow.back {w : World} {base g cap n : Nat} {l : List UInt8} (h : BRow w base 5 (.slice (some ⟨g, 0, none⟩) n cap) l) (hn : n = l.length) :
    (convert 81 9 (.slice (some ⟨g, 0, none⟩) n cap)).run Try.prog w = .ok (.string ⟨l.toArray⟩) w := by
  subst hn
  refine run_convert_bytes_back (P := Try.prog) w 81 9 5 ⟨g, 0, none⟩ cap l Try.underlying81 Try.underlying5 Try.underlying9 (fun j hj => ?_)
  rw [Addr.add_lit, Nat.zero_add]
  exact h.cell j hj
theorem full_zeros (s : List UInt8) : zerosTo s (232 - s.length) = full s := rfl
set_option maxRecDepth 100000 in
set_option maxHeartbeats 2000000 in
theorem full_any (s : ByteArray) (w : World) (h : s.size ≤ 600) : Calls Try.prog 38 #[.string s] w fun e w' => e = .returned (.string ⟨(full s.data.toList).toArray⟩) ∧ Below w.heap.size w w' := by
  obtain ⟨i0, z0, q1, q2, q3, q4, q5⟩ := u8_info
  have hcv := Lib.run_convert_string_bytes (P := Try.prog) w 9 81 5 s Try.underlying9 Try.underlying81 Try.underlying5
  have hB := BRow.conv w 5 s (by have : maxLen = 9223372036854775807 := rfl; omega)
  have hw : Below w.heap.size w (Lib.bytesWorld w 5 s) := ⟨rfl, rfl, rfl, by rw [Lib.bytesWorld_size]; omega, fun k hk => Lib.bytesWorld_at_old w _ s k hk⟩
  have hl : s.data.toList.length = s.size := by simp
  generalize Lib.bytesWorld w 5 s = w1 at *
  generalize Value.slice (some ⟨w.heap.size, 0, none⟩) s.size (grownCap w s.size 0 5) = v1 at *
  generalize hS : s.data.toList = S at *
  have HS := Lib.hid hS
  have HB := Lib.hid hB
  have HW := Lib.hid hw
  clear hS hB hw
  go_enter Try.func38, Try.ntmps38
  go_wp2_with fail
  go_loopw [3] (fun v wr => ∃ k : Nat, k ≤ 232 - S.length ∧ Hid (BRow wr w.heap.size 5 v (zerosTo S k)) ∧ Hid (Below w.heap.size w wr)) (fun v _ => 1000 - lenV v)
  case atStart => exact ⟨0, Nat.zero_le _, by unfold zerosTo; rw [List.replicate_zero, List.append_nil]; exact HB, HW⟩
  case round =>
    obtain ⟨k, hk, hR, hb⟩ := hrel
    obtain ⟨g, cap, cur, fz, rfl, r1, r2, r3, r4, r5, r6, r7⟩ := hR.out
    have hlen : (zerosTo S k).length = S.length + k := by simp [zerosTo]
    have HLn := Lib.hid hlen
    generalize hn : (zerosTo S k).length = n at *
    have HN := Lib.hid hn
    by_cases hlt : n < 232
    · have hlt2 : (n : Int) < 232 := by omega
      have hk2 : k + 1 ≤ 232 - S.length := by omega
      clear r1 r2 r3 r4 r5 r6 r7 hcv hn hlen hl hk
      go_wp2_with (first
        | (at_builtin; refine wpList_append_byte rfl (.tmp 9) (.tmp 10) 81 rfl 5 i0 z0 Try.underlying81 q1 q2 q3 q4 q5 w.heap.size _ _ rfl (hR.out.grown ((Below.refl _ wr).alloc (Nat.le_refl _) _)) ⟨wr.heap.size, 0, none⟩ 1 0 rfl (cell_one_new _ _ _ 0 _ rfl) (by rw [HN.out]; omega) (by have := hb.out.size; simp; omega) ?_; intro v2 w2 hB2 hW2))
      go_roundw
      case rel =>
        refine ⟨k + 1, hk2, ?_, hb.out.trans (((Below.refl _ wr).alloc (Nat.le_refl _) _ |>.mono hb.out.size).trans hW2.out)⟩
        have := hB2.out
        unfold zerosTo at this ⊢
        rw [List.append_assoc] at this
        rw [List.replicate_succ']
        exact this
      case measure =>
        obtain ⟨g2, cap2, cur2, fz2, rfl, _⟩ := hB2.out
        have := HN.out
        simp only [lenV, List.length_append, List.length_singleton, this]
        omega
    · have hk2 : k = 232 - S.length := by omega
      have hlt2 : ¬ (n : Int) < 232 := by omega
      have hcv2 := hR.out.back HN.out.symm
      have HF := Lib.hid (show zerosTo S k = full S from by rw [hk2]; exact full_zeros S)
      clear r1 r2 r3 r4 r5 r6 r7 hcv hn hlen hl hk hk2
      rw [HF.out] at hcv2
      clear HF
      go_wp2_with fail
      go_ret
      exact ⟨rfl, hb.out⟩
end Go.Proofs.Ytpjpncfoenadhaa
