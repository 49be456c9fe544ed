/- What the laws of layer 10 ask at any rate: awake. No condition. -/
import Derived.Test.YtpjpncfoenadhaaDiskBoth
import Derived.Test.YtpjpncfoenadhaaDiskWrite
namespace Go.Proofs.Ytpjpncfoenadhaa
open Go.RowKit Dk

theorem write_any {w : World} {k : DB} {A : St} (i : Int) (s : ByteArray) (h : PD w k A) :
    Calls Try.prog 21 #[.pointer (some ⟨k.g, 0, none⟩), .int .i64 i, .string s] w (Left w k (A.write i s.data.toList)) :=
  write_any_of i s h (fun hd => write_down i s h hd) (fun hd ho => write_out i s h hd ho) (fun hd n hn hi => by subst hn; exact write_in n s h hd hi)
theorem Bools.none (lo : Nat) (w : World) : Bools lo w none 0 [] := ⟨by decide, rfl, fun k hk => by omega⟩

def aw1 : St := ((Dk.made 2).write 0 [97, 97]).2
def aw2 : St := aw1.sync.2
def aw3 : St := (aw2.write 0 [98, 98, 98]).2
def aw4 : St := aw3.crash ⟨[], 0, 1⟩
theorem aw1c : ((Dk.made 2).write 0 [97, 97]).1 = 0 := by decide +kernel
theorem aw2c : aw1.sync.1 = 0 := by decide +kernel
theorem aw3c : (aw2.write 0 [98, 98, 98]).1 = 0 := by decide +kernel
theorem aw4r : aw4.read 0 = (Dk.fill [98, 97], 0) := by decide +kernel
theorem aw4n : aw4.calls = 3 := by decide +kernel
theorem aw4l : aw4.loose = 0 := by decide +kernel
set_option maxRecDepth 100000 in
set_option maxHeartbeats 4000000 in
theorem awake_any (w : World) : Calls Try.prog 16 #[] w fun e w' => e = .returned (.bool true) ∧ Below w.heap.size w w' := by
  go_enter Try.func16, Try.ntmps16
  go_wp2_with fail
  refine (new_in 2 w (by decide) (by decide)).mono ?_
  rintro e w1 ⟨k, rfl, hp, hlo, hb⟩
  have hp1 := Lib.hid hp
  have hb1 := Lib.hid hb
  have hl := Lib.hid hlo
  clear hp hb hlo
  go_wp2_with fail
  refine (write_any 0 ⟨#[97, 97]⟩ hp1.out).mono ?_
  rintro e w2 ⟨rfl, hp, ht⟩
  have hp2 := Lib.hid (show PD w2 k aw1 from hp)
  have hb2 := Lib.hid (hb1.out.trans (ht.below (B := w.heap.size) (by rw [hl.out]; exact Nat.le_refl _) hb1.out.size))
  rw [show ((Dk.made 2).write 0 (ByteArray.mk #[97, 97]).data.toList).1 = 0 from aw1c]
  clear hp ht hp1 hb1
  go_wp2_with fail
  refine (sync_any hp2.out).mono ?_
  rintro e w3 ⟨rfl, hp, ht⟩
  have hp3 := Lib.hid (show PD w3 k aw2 from hp)
  have hb3 := Lib.hid (hb2.out.trans (ht.below (B := w.heap.size) (by rw [hl.out]; exact Nat.le_refl _) hb2.out.size))
  rw [aw2c]
  clear hp ht hp2 hb2
  go_wp2_with fail
  refine (write_any 0 ⟨#[98, 98, 98]⟩ hp3.out).mono ?_
  rintro e w4 ⟨rfl, hp, ht⟩
  have hp4 := Lib.hid (show PD w4 k aw3 from hp)
  have hb4 := Lib.hid (hb3.out.trans (ht.below (B := w.heap.size) (by rw [hl.out]; exact Nat.le_refl _) hb3.out.size))
  rw [show (aw2.write 0 (ByteArray.mk #[98, 98, 98]).data.toList).1 = 0 from aw3c]
  clear hp ht hp3 hb3
  go_wp2_with fail
  refine (crash_any (c := ⟨[], 0, 1⟩) hp4.out (Bools.none _ _)).mono ?_
  rintro e w5 ⟨rfl, hp, ht⟩
  have hp5 := Lib.hid (show PD w5 k aw4 from hp)
  have hb5 := Lib.hid (hb4.out.trans (ht.below (B := w.heap.size) (by rw [hl.out]; exact Nat.le_refl _) hb4.out.size))
  clear hp ht hp4 hb4
  go_wp2_with fail
  refine (read_any 0 hp5.out).mono ?_
  rintro e w6 ⟨rfl, rfl⟩
  rw [aw4r]
  unfold readV
  go_wp2_with fail
  refine (fill_any ⟨#[98, 97]⟩ _ (by decide)).mono ?_
  rintro e w6 ⟨rfl, hb⟩
  have hb6 := Lib.hid (hb5.out.trans (hb.mono hb5.out.size))
  have hp6 := Lib.hid (hp5.out.below hb)
  clear hb
  rw [show (ByteArray.mk #[98, 97]).data.toList = [98, 97] from rfl]
  go_wp2_with fail
  refine (calls_any hp6.out).mono ?_
  rintro e w7 ⟨rfl, rfl⟩
  rw [aw4n]
  go_wp2_with fail
  refine (loose_any hp6.out).mono ?_
  rintro e w7 ⟨rfl, rfl⟩
  rw [aw4l]
  go_wp2_with fail
  go_ret
  exact ⟨rfl, hb6.out⟩
end Go.Proofs.Ytpjpncfoenadhaa
