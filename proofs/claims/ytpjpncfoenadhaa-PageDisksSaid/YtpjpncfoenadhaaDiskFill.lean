/- The reference's Fill: a text cut at 64, zeros behind it. Condition: the text has at most 600 bytes. -/
import Derived.Test.YtpjpncfoenadhaaByteRow
import Derived.Test.YtpjpncfoenadhaaDiskOf
namespace Go.Proofs.Ytpjpncfoenadhaa
open Go.RowKit Dk

theorem u8_info : ∃ i z, Try.prog.info? 5 = some i ∧ i.zero = some z ∧ i.size = 1 ∧ i.bytes = 1 ∧ z.cells.size = 1 := by
  cases hq : Try.prog.info? 5 with
  | none =>
    have : (Try.prog.info? 5).map (·.size) = some 1 := by kernel_rfl
    simp [hq] at this
  | some i =>
    have h1 : (Try.prog.info? 5).map (·.size) = some 1 := by kernel_rfl
    have h2 : (Try.prog.info? 5).map (·.bytes) = some 1 := by kernel_rfl
    have h3 : (Try.prog.info? 5).map (·.zero) = some (some (.int .u8 0)) := by kernel_rfl
    exact ⟨i, .int .u8 0, rfl, by simpa [hq] using h3, by simpa [hq] using h1, by simpa [hq] using h2, rfl⟩
def lenV : Value → Nat | .slice _ n _ => n | _ => 0
def zerosTo (s : List UInt8) (k : Nat) : List UInt8 := s ++ List.replicate k 0
theorem fill_zeros (s : List UInt8) : (zerosTo s (64 - s.length)).take 64 = fill s := by
  unfold zerosTo fill
  by_cases h : s.length ≤ 64
  · rw [List.take_of_length_le (by simp; omega), List.take_append, List.take_of_length_le h, List.take_replicate, Nat.min_eq_left (by omega)]
  · rw [show 64 - s.length = 0 by omega, List.replicate_zero, List.append_nil, List.take_append_of_le_length (by omega)]
set_option maxRecDepth 100000 in
set_option maxHeartbeats 2000000 in
theorem fill_any (s : ByteArray) (w : World) (h : s.size ≤ 600) : Calls Try.prog 24 #[.string s] w fun e w' => e = .returned (.string ⟨(fill s.data.toList).toArray⟩) ∧ Below w.heap.size w w' := by
  obtain ⟨i0, z0, q1, q2, q3, q4, q5⟩ := u8_info
  have hcv := Lib.run_convert_string_bytes (P := Try.prog) w 9 81 5 s Try.underlying9 Try.underlying81 Try.underlying5
  have hB := BRow.conv w 5 s (by have : maxLen = 9223372036854775807 := rfl; omega)
  have hw : Below w.heap.size w (Lib.bytesWorld w 5 s) := ⟨rfl, rfl, rfl, by rw [Lib.bytesWorld_size]; omega, fun k hk => Lib.bytesWorld_at_old w _ s k hk⟩
  have hl : s.data.toList.length = s.size := by simp
  generalize Lib.bytesWorld w 5 s = w1 at *
  generalize Value.slice (some ⟨w.heap.size, 0, none⟩) s.size (grownCap w s.size 0 5) = v1 at *
  generalize hS : s.data.toList = S at *
  have HS := Lib.hid hS
  have HB := Lib.hid hB
  have HW := Lib.hid hw
  clear hS hB hw
  go_enter Try.func24, Try.ntmps24
  go_wp2_with fail
  go_loopw [3] (fun v wr => ∃ k : Nat, k ≤ 64 - S.length ∧ Hid (BRow wr w.heap.size 5 v (zerosTo S k)) ∧ Hid (Below w.heap.size w wr)) (fun v _ => 1000 - lenV v)
  case atStart => exact ⟨0, Nat.zero_le _, by unfold zerosTo; rw [List.replicate_zero, List.append_nil]; exact HB, HW⟩
  case round =>
    obtain ⟨k, hk, hR, hb⟩ := hrel
    obtain ⟨g, cap, cur, fz, rfl, r1, r2, r3, r4, r5, r6, r7⟩ := hR.out
    have hlen : (zerosTo S k).length = S.length + k := by simp [zerosTo]
    have HLn := Lib.hid hlen
    generalize hn : (zerosTo S k).length = n at *
    have HN := Lib.hid hn
    by_cases hlt : n < 64
    · have hlt2 : (n : Int) < 64 := by omega
      have hk2 : k + 1 ≤ 64 - S.length := by omega
      clear r1 r2 r3 r4 r5 r6 r7 hcv hn hlen hl hk
      go_wp2_with (first
        | (at_builtin; refine wpList_append_byte rfl (.tmp 9) (.tmp 10) 81 rfl 5 i0 z0 Try.underlying81 q1 q2 q3 q4 q5 w.heap.size _ _ rfl (hR.out.grown ((Below.refl _ wr).alloc (Nat.le_refl _) _)) ⟨wr.heap.size, 0, none⟩ 1 0 rfl (cell_one_new _ _ _ 0 _ rfl) (by rw [HN.out]; omega) (by have := hb.out.size; simp; omega) ?_; intro v2 w2 hB2 hW2))
      go_roundw
      case rel =>
        refine ⟨k + 1, hk2, ?_, hb.out.trans (((Below.refl _ wr).alloc (Nat.le_refl _) _ |>.mono hb.out.size).trans hW2.out)⟩
        have := hB2.out
        unfold zerosTo at this ⊢
        rw [List.append_assoc] at this
        rw [List.replicate_succ']
        exact this
      case measure =>
        obtain ⟨g2, cap2, cur2, fz2, rfl, _⟩ := hB2.out
        have := HN.out
        simp only [lenV, List.length_append, List.length_singleton, this]
        omega
    · have hk2 : k = 64 - S.length := by omega
      have hcap : (64 : Int) ≤ (cap : Int) := by omega
      have hlt2 : ¬ (n : Int) < 64 := by omega
      have hcv2 := run_convert_bytes_back (P := Try.prog) wr 81 9 5 ⟨g, 0, none⟩ cap (fill S) Try.underlying81 Try.underlying5 Try.underlying9 (fun j hj => by
        rw [fill_length] at hj
        have e : (⟨g, 0, none⟩ : Addr).add j = ⟨g, j, none⟩ := by unfold Addr.add; split <;> simp_all
        rw [e, hR.out.cell j (by rw [HN.out]; omega)]
        have hz := fill_zeros S
        rw [← hk2] at hz
        have : (fill S)[j]? = (zerosTo S k)[j]? := by rw [← hz, List.getElem?_take, if_pos hj]
        have hjl : j < (fill S).length := by rw [fill_length]; exact hj
        rw [List.getElem?_eq_getElem (show j < (zerosTo S k).length by rw [HN.out]; omega), List.getElem?_eq_getElem hjl] at this
        rw [Option.some.inj this])
      rw [fill_length] at hcv2
      have HF := Lib.hid (show S = s.data.toList from HS.out.symm)
      clear r1 r2 r3 r4 r5 r6 r7 hcv hn hlen hl hk hk2
      generalize hfl : fill S = F at *
      go_wp2_with fail
      go_ret
      exact ⟨rfl, hb.out⟩
end Go.Proofs.Ytpjpncfoenadhaa
