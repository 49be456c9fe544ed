/- The small function in root.Get: two bytes of the text as a number. Conditions: the text lies in the captured variable; both bytes are there. -/
import Derived.Test.YtbjkefodlnkaeaaRootGetP
import Derived.Test.YtbjkefodlnkaeaaRootPut
namespace Go.Proofs.Ytbjkefodlnkaeaa
open Go.RowKit

set_option maxRecDepth 100000 in
set_option maxHeartbeats 2000000 in
theorem number_any {w : World} (p : Addr) (b : ByteArray) (k : Nat) (h : k + 1 < b.size) (hk : k ≤ 1000) (hc : w.cell? p = some (.string b)) :
    Calls Try.prog 35 #[.int .i64 (k : Int), .pointer (some p)] w fun e w' => e = .returned (.int .i64 (Rt.num b.data.toList k : Nat)) ∧ ∃ n, w' = w.drewN n := by
  have h0 : k < b.size := by omega
  have HV := Lib.hid (show (Rt.num b.data.toList k : Nat) = b[k].toNat * 256 + b[k + 1].toNat by
    rw [Rt.num_two b.data.toList k (by rw [size_list]; omega)]
    rfl)
  have b0 := b[k].toNat_lt
  have b1 := b[k + 1].toNat_lt
  have HO := Lib.hid (show bits .or .i64 ((b[k].toNat : Int) * 256) (b[k + 1].toNat : Int) = (Rt.num b.data.toList k : Nat) by rw [or_two _ _ b0 b1, HV.out])
  have hw2 : IntKind.i64.wrap ((k : Int) + 1) = (k : Int) + 1 := IntWalk.i64_in _ (by omega)
  have g0 : 0 ≤ (k : Int) := by omega
  have g1 : (k : Int) < (b.size : Int) := by omega
  have g2 : ((k : Int)).toNat = k := by omega
  have k0 : 0 ≤ (k : Int) + 1 := by omega
  have k1 : (k : Int) + 1 < (b.size : Int) := by omega
  have k2 : ((k : Int) + 1).toNat = k + 1 := by omega
  go_enter Try.func35, Try.ntmps35
  go_wp2_with fail
  go_quiet (fail)
  rw [HO.out]
  go_wp2_with fail
  go_ret
  exact ⟨rfl, _, rfl⟩
end Go.Proofs.Ytbjkefodlnkaeaa
