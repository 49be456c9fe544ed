/- The small calls of root: how many parts, two bytes of a number. Conditions: the bytes lie in a row of their own. -/
import Derived.Test.YtbjkefodlnkaeaaRootPlain
import Derived.Test.YtbjkefodlnkaeaaPackCr
namespace Go.Proofs.Ytbjkefodlnkaeaa
open Go.RowKit

theorem need_any (l : Int) (w : World) (h : l ≤ 9223372036854775807) : Calls Try.prog 24 #[.int .i64 l] w fun e w' => e = .returned (.int .i64 (Rt.need l : Nat)) ∧ w = w' := by
  by_cases h1 : l < 1
  · have HN := Lib.hid (show (0 : Int) = ((Rt.need l : Nat) : Int) by unfold Rt.need; rw [if_pos h1]; rfl)
    go_enter Try.func24, Try.ntmps24
    go_wp2_with fail
    go_ret
    exact ⟨ret_int HN.out, rfl⟩
  · have HN := Lib.hid (show (l - 1) / 116 + 1 = ((Rt.need l : Nat) : Int) by unfold Rt.need; rw [if_neg h1]; omega)
    go_enter Try.func24, Try.ntmps24
    go_wp2_with fail
    go_ret
    exact ⟨ret_int HN.out, rfl⟩
theorem two_news (w : World) (t : TypeId) (v u : Value) : ∀ j x, [v, u][j]? = some x → (w.alloc (.cells #[v, u] t)).cell? ((⟨w.heap.size, 0, none⟩ : Addr).add j) = some x := by
  intro j x hx
  match j, hx with
  | 0, hx => exact cell_at_new w t #[v, u] 0 x (by simpa using hx)
  | 1, hx => exact cell_at_new w t #[v, u] 1 x (by simpa using hx)
theorem two_cells (k : IntKind) (n m : Int) : ∀ u ∈ [Value.int k n, Value.int k m], u.oneCell' = true := fun u hu => by
  rcases List.mem_cons.1 hu with rfl | hu
  · rfl
  · rw [List.mem_singleton.1 hu]; rfl
theorem two_bytes (n : Nat) (hn : n ≤ 65535) : bs (Pk.beL 2 n) = [.int .u8 ((n : Int) / 256), .int .u8 ((n : Int) % 256)] := by
  rw [show (n : Int) / 256 = (n : Int) / 256 % 256 by omega]
  have h0 := shr_byte n 0
  have h1 := shr_byte n 1
  simp only [Nat.mul_zero, Int.pow_zero, Int.ediv_one, Nat.mul_one] at h0 h1
  rw [show (2 : Int) ^ 8 = 256 from rfl] at h1
  rw [h0, h1]
  show bs (Pk.beL (1 + 1) n) = _
  rw [Pk.beL_front]
  show bs (_ :: Pk.beL (0 + 1) n) = _
  rw [Pk.beL_front]
  rfl
/-- what two hands back -/
def Two2 (w : World) (base : Nat) (v : Value) (l : List UInt8) (n : Nat) (e : Ending) (w' : World) : Prop :=
  ∃ (ad : Option Addr) (cap : Nat), e = .returned (.slice ad (l.length + 2) cap) ∧ w'.ownsRow base 5 1 (.slice ad (l.length + 2) cap) (l.length + 2) (bs (l ++ Pk.beL 2 n)) ∧ w.grownBy w' v.ownBlock
set_option maxRecDepth 100000 in
set_option maxHeartbeats 2000000 in
theorem two_any {w : World} {base : Nat} {v : Value} {l : List UInt8} (n : Nat) (hn : n ≤ 65535) (hown : w.ownsRow base 5 1 v l.length (bs l)) (hb : base ≤ w.heap.size) (hl : l.length ≤ 4000) :
    Calls Try.prog 32 #[v, .int .i64 (n : Int)] w (Two2 w base v l n) := by
  obtain ⟨i0, hi, hz0, hz1, hz2⟩ := info_parts u8_row
  have HT := Lib.hid (two_bytes n hn)
  obtain ⟨ad, m, cap, rfl, hm⟩ := owns_form hown
  have HM := Lib.hid hm
  clear hm
  have HO := Lib.hid hown
  clear hown
  go_enter Try.func32, Try.ntmps32
  go_wp2_with (at_builtin; refine wpList_append_own _ rfl (.tmp 5) (.tmp 11) 34 rfl base 5 i0 (.int .u8 0) 1 1 Try.underlying34 hi hz0 hz1 hz2 rfl (by decide) _ l.length _ rfl (HO.out.alloc _) ⟨w.heap.size, 0, none⟩ 2 2 [.int .u8 ((n : Int) / 256), .int .u8 ((n : Int) % 256)] rfl rfl (two_news _ _ _ _) (two_cells _ _ _) (by rw [show maxLen = 9223372036854775807 from rfl]; omega) (by omega) (by simp; omega) ?_; intro v2 w2 hown2 hgrow2 _)
  have HO2 := Lib.hid (show w2.ownsRow base 5 1 v2 (l.length + 2) (bs (l ++ Pk.beL 2 n)) by rw [bs_append, HT.out]; exact hown2)
  have HG : Hid (w.grownBy w2 (Value.slice ad m cap).ownBlock) := ⟨hgrow2.os, hgrow2.tape, hgrow2.output, by have := hgrow2.size; simp at this; omega, fun k hk hne => (hgrow2.block k (by simp; omega) hne).trans (Below.block ((Below.refl w.heap.size w).alloc (Nat.le_refl _) _) k hk)⟩
  clear hown2 hgrow2
  obtain ⟨ad2, m2, cap2, rfl, hm2⟩ := owns_form HO2.out
  subst hm2
  go_wp2_with fail
  go_ret
  exact ⟨ad2, cap2, rfl, HO2.out, HG.out⟩
end Go.Proofs.Ytbjkefodlnkaeaa
