/- A page's bytes, laid by the document's answer. Condition: the identity is within an int. -/
import Derived.Test.YtpjpncfoenadhaaPagePut
namespace Go.Proofs.Ytpjpncfoenadhaa
open Go.RowKit Go.WideShapes Pg

theorem kind_bytes (k : Nat) (hk : k ≤ 2147483647) : bs (Pk.beL 4 k) = [.int .u8 ((k : Int) / 16777216), .int .u8 ((k : Int) / 65536 % 256), .int .u8 ((k : Int) / 256 % 256), .int .u8 ((k : Int) % 256)] := by
  have h : ∀ n : Nat, ((UInt8.ofNat (n % 256)).toNat : Int) = ((n % 256 : Nat) : Int) := fun n => by rw [Pk.ofNat_toNat]
  show [Value.int .u8 ((UInt8.ofNat (k / 256 / 256 / 256 % 256)).toNat : Int), .int .u8 ((UInt8.ofNat (k / 256 / 256 % 256)).toNat : Int), .int .u8 ((UInt8.ofNat (k / 256 % 256)).toNat : Int), .int .u8 ((UInt8.ofNat (k % 256)).toNat : Int)] = _
  rw [h, h, h, h]
  have e0 : ((k / 256 / 256 / 256 % 256 : Nat) : Int) = (k : Int) / 16777216 := by omega
  have e1 : ((k / 256 / 256 % 256 : Nat) : Int) = (k : Int) / 65536 % 256 := by omega
  have e2 : ((k / 256 % 256 : Nat) : Int) = (k : Int) / 256 % 256 := by omega
  have e3 : ((k % 256 : Nat) : Int) = (k : Int) % 256 := by omega
  rw [e0, e1, e2, e3]
theorem conv_any {w : World} (g : Nat) (l : List UInt8) (h : ∀ j (hj : j < l.length), w.cell? ⟨g, j, none⟩ = some (.int .u8 (l[j].toNat : Int))) (n : Nat) (hn : n = l.length) :
    (convert 81 9 (.slice (some ⟨g, 0, none⟩) n n)).run Try.prog w = .ok (.string ⟨l.toArray⟩) w := by
  subst hn
  exact run_convert_bytes_back (P := Try.prog) w 81 9 5 ⟨g, 0, none⟩ l.length l Try.underlying81 Try.underlying5 Try.underlying9 (fun j hj => by rw [Addr.add_lit, Nat.zero_add]; exact h j hj)
theorem rput_text (i e k : Nat) (s : List UInt8) (_hs : s.length ≤ 232) :
    (⟨(Pk.encI (i : Int)).toArray⟩ : ByteArray).data.toList ++ ((⟨(Pk.encI (e : Int)).toArray⟩ : ByteArray).data.toList ++ ((⟨(Pk.beL 4 k).toArray⟩ : ByteArray).data.toList ++ (⟨(full s).toArray⟩ : ByteArray).data.toList)) = body ⟨i, e, k, s⟩ := by
  have e0 : body ⟨i, e, k, s⟩ = (Pk.encI (i : Int) ++ (Pk.encI (e : Int) ++ Pk.beL 4 ((k : Nat) : Int).toNat)) ++ full s := rfl
  rw [e0, Int.toNat_natCast k]
  generalize Pk.encI (i : Int) = a
  generalize Pk.encI (e : Int) = b
  generalize Pk.beL 4 k = c
  generalize full s = d
  simp
set_option maxRecDepth 100000 in
set_option maxHeartbeats 4000000 in
theorem rput_ok (i e k : Nat) (s : List UInt8) (hi : i ≤ 9223372036854775807) (he : e ≤ 1099511627776) (hk : k ≤ 2147483647) (hs : s.length ≤ 232) (w : World) :
    Calls Try.prog 34 #[pageV ⟨i, e, k, s⟩] w fun en w' => en = .returned (.tuple #[.string ⟨(Crc.lay (body ⟨i, e, k, s⟩)).toArray⟩, .int .i64 0]) ∧ Below w.heap.size w w' := by
  have HRt := Lib.hid (show right ⟨i, e, k, s⟩ = true from decide_eq_true ⟨by simp, by simp, by simpa using (show (e : Int) ≤ 1099511627776 by omega), by simp, by simpa using (show (k : Int) ≤ 2147483647 by omega)⟩)
  have HB0 := Lib.hid (PBox.new w ⟨i, e, k, s⟩)
  have hsI : ¬ (232 : Int) < (s.length : Int) := by omega
  unfold pageV
  simp only
  go_enter Try.func34, Try.ntmps34
  go_wp2_with fail
  refine (rright_any ⟨i, e, k, s⟩ _).mono ?_
  rintro en w1 ⟨rfl, hb⟩
  rw [HRt.out]
  have HB1 := Lib.hid (HB0.out.below hb (by simp))
  have HW1 := Lib.hid (((Below.refl w.heap.size w).alloc (Nat.le_refl _) _).trans (hb.mono (by simp)))
  obtain ⟨c0, c1, c2, c3⟩ := HB1.out.q
  clear hb HB0
  have HK := Lib.hid (kind_bytes k hk)
  go_wp2_with fail
  have h2 : Below w1.heap.size w1 (w1.alloc (.cells #[.int .u8 ((k : Int) / 16777216), .int .u8 ((k : Int) / 65536 % 256), .int .u8 ((k : Int) / 256 % 256), .int .u8 ((k : Int) % 256)] 5 (0, 0))) := (Below.refl _ _).alloc (Nat.le_refl _) _
  have hg : (w1.alloc (.cells #[.int .u8 ((k : Int) / 16777216), .int .u8 ((k : Int) / 65536 % 256), .int .u8 ((k : Int) / 256 % 256), .int .u8 ((k : Int) % 256)] 5 (0, 0))).heap[w1.heap.size]? = some (.cells (bs (Pk.beL 4 k)).toArray 5 (0, 0)) := by
    rw [HK.out]
    exact World.alloc_heap_new w1 _
  have HB2 := Lib.hid (HB1.out.below h2 (lt_of_block HB1.out))
  have HW2 := Lib.hid (HW1.out.trans (h2.mono (Nat.le_of_lt (lt_of_block HB1.out))))
  clear h2 HK c0 c1 c2 c3 HB1 HW1
  generalize w1.alloc (.cells #[.int .u8 ((k : Int) / 16777216), .int .u8 ((k : Int) / 65536 % 256), .int .u8 ((k : Int) / 256 % 256), .int .u8 ((k : Int) % 256)] 5 (0, 0)) = w2 at *
  generalize w1.heap.size = g at *
  obtain ⟨c0, c1, c2, c3⟩ := HB2.out.q
  have q0 := fun d os => cell_regrown c0 d os
  have q1 := fun d os => cell_regrown c1 d os
  have q3 := fun d os => cell_regrown c3 d os
  have hl4 := Pk.beL_length 4 k
  have hcv : ∀ d os, (convert 81 9 (.slice (some ⟨g, 0, none⟩) 4 4)).run Try.prog (Sort.grow (redrawn w2 d) os) = .ok (.string ⟨(Pk.beL 4 k).toArray⟩) (Sort.grow (redrawn w2 d) os) := fun d os =>
    conv_any g (Pk.beL 4 k) (fun j hj => cell_regrown (by rw [cell_of_row w2 g j _ _ (0, 0) hg]; simpa using bs_get _ j hj) d os) 4 hl4.symm
  have HC := fun (x : Nat) (hx : x ≤ 9223372036854775807) (w' : World) => ri_any x w' hx
  have HFl := fun (w' : World) => full_any ⟨s.toArray⟩ w' (show s.length ≤ 600 by omega)
  have HA := Lib.hid (rput_text i e k s hs)
  have s1 : (⟨(Pk.encI (i : Int)).toArray⟩ : ByteArray).size = 8 := Pk.encI_length _
  have s2 : (⟨(Pk.encI (e : Int)).toArray⟩ : ByteArray).size = 8 := Pk.encI_length _
  have s3 : (⟨(Pk.beL 4 k).toArray⟩ : ByteArray).size = 4 := hl4
  have s4 : (⟨(full s).toArray⟩ : ByteArray).size = 232 := full_length s hs
  rw [show (⟨s.toArray⟩ : ByteArray).data.toList = s from rfl] at HFl
  clear hg hl4 c0 c1 c2 c3
  have HI := Lib.hid (HC i hi)
  have HE := Lib.hid (HC e (by omega))
  clear HC
  generalize (⟨(Pk.encI (i : Int)).toArray⟩ : ByteArray) = t1 at *
  generalize (⟨(Pk.encI (e : Int)).toArray⟩ : ByteArray) = t2 at *
  generalize (⟨(Pk.beL 4 k).toArray⟩ : ByteArray) = t3 at *
  generalize (⟨(full s).toArray⟩ : ByteArray) = t4 at *
  have HLy := Lib.hid (fun w' => rlay_any (t1 ++ t2 ++ t3 ++ t4) w' (by simp [ByteArray.size_append, s1, s2, s3, s4]))
  have HFf := Lib.hid HFl
  clear HFl
  refine wp_region_quiet_below (by kernel_rfl) (by kernel_rfl) ?_
  repeat (quiet_step (first
    | exact Calls.regrown_of (HI.out _)
    | exact Calls.regrown_of (HE.out _)
    | exact Calls.regrown_of (HFf.out _)
    | exact Calls.regrown_of (HLy.out _)))
  refine wpQuiet_nil ?_
  intro _ hw'
  obtain ⟨⟨dq, osq⟩, hw''⟩ := hw'
  subst hw''
  have HB3 := Lib.hid (HW2.out.trans ((below_regrown w2 dq osq).mono HW2.out.size))
  go_wp2_with fail
  go_ret2
  exact ⟨by rw [← HA.out]; rfl, HB3.out⟩
set_option maxRecDepth 100000 in
set_option maxHeartbeats 4000000 in
theorem rput_any (p : Page) (w : World) (hi : p.id ≤ 9223372036854775807) (hs : p.pay.length ≤ 9223372036854775807) :
    Calls Try.prog 34 #[pageV p] w fun en w' => en = .returned (putV p) ∧ Below w.heap.size w w' := by
  cases hr : right p
  · have hp : putV p = .tuple #[.string ⟨#[]⟩, .int .i64 2] := by
      unfold putV put
      rw [if_pos hr]
    rw [hp]
    clear hp
    have HR := Lib.hid hr
    obtain ⟨i, e, k, s⟩ := p
    unfold pageV
    simp only
    clear hr
    go_enter Try.func34, Try.ntmps34
    go_wp2_with fail
    refine (rright_any ⟨i, e, k, s⟩ _).mono ?_
    rintro en w1 ⟨rfl, hb⟩
    rw [HR.out]
    have HW1 := Lib.hid (((Below.refl w.heap.size w).alloc (Nat.le_refl _) _).trans (hb.mono (by simp)))
    clear hb
    go_wp2_with fail
    go_ret2
    exact ⟨rfl, HW1.out⟩
  · by_cases hl : 232 < p.pay.length
    · have hp : putV p = .tuple #[.string ⟨#[]⟩, .int .i64 4] := by
        unfold putV put
        rw [if_neg (by simp [hr]), if_pos hl]
      rw [hp]
      clear hp
      have HR := Lib.hid hr
      obtain ⟨i, e, k, s⟩ := p
      simp only at hl hs
      have hlI : (232 : Int) < (s.length : Int) := by omega
      have HB0 := Lib.hid (PBox.new w ⟨i, e, k, s⟩)
      unfold pageV
      simp only
      clear hr
      go_enter Try.func34, Try.ntmps34
      go_wp2_with fail
      refine (rright_any ⟨i, e, k, s⟩ _).mono ?_
      rintro en w1 ⟨rfl, hb⟩
      rw [HR.out]
      have HW1 := Lib.hid (((Below.refl w.heap.size w).alloc (Nat.le_refl _) _).trans (hb.mono (by simp)))
      obtain ⟨d0, d1, d2, d3⟩ := (HB0.out.below hb (by simp)).q
      clear hb
      go_wp2_with fail
      go_ret2
      exact ⟨rfl, HW1.out⟩
    · have hp : putV p = .tuple #[.string ⟨(Crc.lay (body p)).toArray⟩, .int .i64 0] := by
        unfold putV put
        rw [if_neg (by simp [hr]), if_neg hl]
      rw [hp]
      obtain ⟨i, e, k, hpe, he, hk, hii⟩ := page_nat p hr
      generalize p.pay = s at *
      subst hpe
      exact rput_ok i e k s (hii hi) he hk (by omega) w
end Go.Proofs.Ytpjpncfoenadhaa
