/- The program's New: what it makes. No condition. -/
import Derived.Test.YtpjpncfoenadhaaDiskCrash
namespace Go.Proofs.Ytpjpncfoenadhaa
open Go.RowKit Dk

/-- new sectors; new bools -/
def zSecs (n : Nat) : Obj := .cells (bs (List.replicate (n * 64) 0)).toArray 83 (0, 0)
def zBools (n : Nat) : Obj := .cells (Array.replicate n (.bool false)) 4 (0, 0)
def headO (a b c : Nat) (n : Nat) : Obj := .cells #[.slice (some ⟨a, 0, none⟩) n n, .slice (some ⟨b, 0, none⟩) n n, .slice (some ⟨c, 0, none⟩) n n, .int .i64 0, .int .i64 0, .bool false] 80 (0, 0)

set_option maxRecDepth 100000 in
theorem make_secs (n : Nat) (hn : n ≤ 4096) (w : World) : (Instr.makeSlice 78 (.int .i64 n) (.int .i64 n)).run Try.prog w = .ok (.slice (some ⟨w.heap.size, 0, none⟩) n n) (w.alloc (zSecs n)) := by
  cases hq : Try.prog.info? 83 with
  | none => have := arr_size; simp [hq] at this
  | some i =>
    have h1 : i.size = 64 := by simpa [hq] using arr_size
    have h2 : (Try.prog.info? 83).map (·.bytes) = some 64 := by kernel_rfl
    have h3 : (Try.prog.info? 83).map (·.zero) = some (some (.agg zero64)) := by kernel_rfl
    have h2' : i.bytes = 64 := by simpa [hq] using h2
    have h3' : i.zero = some (.agg zero64) := by simpa [hq] using h3
    rw [run_make w 78 83 i _ Try.underlying78 hq h3' .i64 .i64 n n (by omega) (Int.le_refl _) (by rw [h2']; omega) (by omega), h1]
    simp only [Int.toNat_natCast]
    congr 2
    unfold zSecs
    congr 1
    apply Array.ext'
    apply List.ext_getElem
    · simp [madeCells, bs]
    · intro j h4 h5
      simp [madeCells, bs, zero64, Value.cells]
      rw [getElem!_pos _ _ (by rw [Array.size_replicate]; omega), Array.getElem_replicate]
set_option maxRecDepth 100000 in
theorem make_bools (n : Nat) (hn : n ≤ 4096) (w : World) : (Instr.makeSlice 23 (.int .i64 n) (.int .i64 n)).run Try.prog w = .ok (.slice (some ⟨w.heap.size, 0, none⟩) n n) (w.alloc (zBools n)) := by
  cases hq : Try.prog.info? 4 with
  | none =>
    have : (Try.prog.info? 4).map (·.size) = some 1 := by kernel_rfl
    simp [hq] at this
  | some i =>
    have h1 : (Try.prog.info? 4).map (·.size) = some 1 := by kernel_rfl
    have h2 : (Try.prog.info? 4).map (·.bytes) = some 1 := by kernel_rfl
    have h3 : (Try.prog.info? 4).map (·.zero) = some (some (.bool false)) := by kernel_rfl
    have h1' : i.size = 1 := by simpa [hq] using h1
    have h2' : i.bytes = 1 := by simpa [hq] using h2
    have h3' : i.zero = some (.bool false) := by simpa [hq] using h3
    rw [run_make w 23 4 i _ Try.underlying23 hq h3' .i64 .i64 n n (by omega) (Int.le_refl _) (by rw [h2']; omega) (by omega), h1']
    simp only [Int.toNat_natCast]
    congr 2
    unfold zBools
    congr 1
    apply Array.ext'
    apply List.ext_getElem
    · simp [madeCells]
    · intro j h4 h5
      simp [madeCells, Value.cells, Nat.mod_one]
set_option maxRecDepth 100000 in
set_option maxHeartbeats 1000000 in
theorem new_out (n : Int) (w : World) (h : n < 1 ∨ 4096 < n) : Calls Try.prog 25 #[.int .i64 n] w fun e w' => e = .returned (.tuple #[.pointer none, .int .i64 2]) ∧ w = w' := by
  by_cases h1 : n < 1
  · clear h
    go_enter Try.func25, Try.ntmps25
    go_wp2_with fail
    go_ret2
    exact ⟨rfl, rfl⟩
  · have h2 : 4096 < n := by omega
    clear h
    go_enter Try.func25, Try.ntmps25
    go_wp2_with fail
    go_ret2
    exact ⟨rfl, rfl⟩
theorem push4 {α : Type} (h : Array α) (o0 o1 o2 o3 : α) : ((((h.push o0).push o1).push o2).push o3)[h.size]? = some o0 ∧ ((((h.push o0).push o1).push o2).push o3)[h.size + 1]? = some o1 ∧
    ((((h.push o0).push o1).push o2).push o3)[h.size + 1 + 1]? = some o2 ∧ ((((h.push o0).push o1).push o2).push o3)[h.size + 1 + 1 + 1]? = some o3 := by
  simp only [Array.getElem?_push, Array.size_push]
  refine ⟨?_, ?_, ?_, ?_⟩ <;> repeat (first | rw [if_pos rfl] | rw [if_pos trivial] | rw [if_neg (by omega)])
theorem made_pd {w w' : World} {n : Nat} (hn : n ≤ 4096) (g a b c : Nat) (hk : DB.Ok ⟨g, a, b, c, w.heap.size, w.heap.size + 4⟩) (hz : w.heap.size + 4 ≤ w'.heap.size) (ha : w'.heap[a]? = some (zSecs n)) (hb : w'.heap[b]? = some (zSecs n)) (hc : w'.heap[c]? = some (zBools n))
    (hg : w'.heap[g]? = some (headO a b c n)) : PD w' ⟨g, a, b, c, w.heap.size, w.heap.size + 4⟩ (made n) := by
  have hl : ∀ m, (List.replicate m (List.replicate 64 (0 : UInt8))).flatten = List.replicate (m * 64) 0 := by
    intro m
    rw [List.flatten_replicate_replicate]
  have hnn : (made n).n = n := by simp [made, St.n]
  refine ⟨hk, hz, Good.made n hn, ?_, ?_, ⟨List.replicate n (List.replicate 64 0), ⟨by rw [hnn]; simp, fun x hx => ?_, fun i x hx hxi => ?_⟩, ?_⟩, ?_⟩
  · rw [hg]
    unfold headV
    rw [hnn]
    rfl
  · rw [ha]
    unfold zSecs
    have : nowL (made n) = List.replicate n (List.replicate 64 0) := by simp [nowL, made, Sec.now, none_]
    rw [this, hl]
  · rw [List.eq_of_mem_replicate hx]
    rfl
  · have := List.eq_of_mem_replicate (List.mem_of_getElem? hx)
    rw [this] at hxi
    cases hxi
  · rw [hb, hl]
    rfl
  · rw [hc]
    unfold zBools
    congr 2
    simp [made, none_]
theorem new_end {w : World} {n : Nat} (hn : n ≤ 4096) (x y z : Nat) (hx : x < 3) (hy : y < 3) (hz : z < 3) (hxy : x ≠ y) (hxz : x ≠ z) (hyz : y ≠ z) (o0 o1 o2 : Obj) (H : Array Obj)
    (hH : H = (((w.heap.push o0).push o1).push o2).push (headO (w.heap.size + x) (w.heap.size + y) (w.heap.size + z) n))
    (ha : H[w.heap.size + x]? = some (zSecs n)) (hb : H[w.heap.size + y]? = some (zSecs n)) (hc : H[w.heap.size + z]? = some (zBools n)) :
    ∃ k : DB, (Ending.returned (.tuple #[.pointer (some ⟨w.heap.size + 1 + 1 + 1, 0, none⟩), .int .i64 0]) = .returned (.tuple #[.pointer (some ⟨k.g, 0, none⟩), .int .i64 0])) ∧
      PD ((((w.alloc o0).alloc o1).alloc o2).alloc (headO (w.heap.size + x) (w.heap.size + y) (w.heap.size + z) n)).drew k (made n) ∧ k.lo = w.heap.size ∧
      Below w.heap.size w ((((w.alloc o0).alloc o1).alloc o2).alloc (headO (w.heap.size + x) (w.heap.size + y) (w.heap.size + z) n)).drew := by
  have e : ((((w.alloc o0).alloc o1).alloc o2).alloc (headO (w.heap.size + x) (w.heap.size + y) (w.heap.size + z) n)).drew.heap = H := hH.symm
  refine ⟨⟨w.heap.size + 1 + 1 + 1, w.heap.size + x, w.heap.size + y, w.heap.size + z, w.heap.size, w.heap.size + 4⟩, rfl, made_pd hn _ _ _ _ ?_ ?_ ?_ ?_ ?_ ?_, rfl, ?_⟩
  · refine ⟨⟨?_, ?_⟩, ⟨?_, ?_⟩, ⟨?_, ?_⟩, ⟨?_, ?_⟩, ?_, ?_, ?_, ?_, ?_, ?_⟩ <;> simp only [ne_eq] <;> omega
  · rw [e, hH]
    simp only [Array.size_push]
    omega
  · rw [e, ha]
  · rw [e, hb]
  · rw [e, hc]
  · rw [e, hH]
    exact (push4 w.heap o0 o1 o2 _).2.2.2
  · exact below_drewN (((((Below.refl _ w).alloc (Nat.le_refl _) _).alloc (by simp) _).alloc (by simp; omega) _).alloc (by simp; omega) _) 1
set_option maxRecDepth 100000 in
set_option maxHeartbeats 4000000 in
theorem new_in (n : Nat) (w : World) (h1 : 1 ≤ n) (h2 : n ≤ 4096) : Calls Try.prog 25 #[.int .i64 n] w fun e w' => ∃ k : DB, e = .returned (.tuple #[.pointer (some ⟨k.g, 0, none⟩), .int .i64 0]) ∧ PD w' k (made n) ∧ k.lo = w.heap.size ∧ Below w.heap.size w w' := by
  have hS := make_secs n h2
  have hB := make_bools n h2
  go_enter Try.func25, Try.ntmps25
  go_wp2_with fail
  go_region
  all_goals
    go_wp2_with fail
    go_ret2
    first
    | exact new_end h2 0 1 2 (by decide) (by decide) (by decide) (by decide) (by decide) (by decide) (zSecs n) (zSecs n) (zBools n) _ rfl (push4 _ _ _ _ _).1 (push4 _ _ _ _ _).2.1 (push4 _ _ _ _ _).2.2.1
    | exact new_end h2 0 2 1 (by decide) (by decide) (by decide) (by decide) (by decide) (by decide) (zSecs n) (zBools n) (zSecs n) _ rfl (push4 _ _ _ _ _).1 (push4 _ _ _ _ _).2.2.1 (push4 _ _ _ _ _).2.1
    | exact new_end h2 1 0 2 (by decide) (by decide) (by decide) (by decide) (by decide) (by decide) (zSecs n) (zSecs n) (zBools n) _ rfl (push4 _ _ _ _ _).2.1 (push4 _ _ _ _ _).1 (push4 _ _ _ _ _).2.2.1
    | exact new_end h2 2 0 1 (by decide) (by decide) (by decide) (by decide) (by decide) (by decide) (zSecs n) (zBools n) (zSecs n) _ rfl (push4 _ _ _ _ _).2.2.1 (push4 _ _ _ _ _).1 (push4 _ _ _ _ _).2.1
    | exact new_end h2 1 2 0 (by decide) (by decide) (by decide) (by decide) (by decide) (by decide) (zBools n) (zSecs n) (zSecs n) _ rfl (push4 _ _ _ _ _).2.1 (push4 _ _ _ _ _).2.2.1 (push4 _ _ _ _ _).1
    | exact new_end h2 2 1 0 (by decide) (by decide) (by decide) (by decide) (by decide) (by decide) (zBools n) (zSecs n) (zSecs n) _ rfl (push4 _ _ _ _ _).2.2.1 (push4 _ _ _ _ _).2.1 (push4 _ _ _ _ _).1
end Go.Proofs.Ytpjpncfoenadhaa
