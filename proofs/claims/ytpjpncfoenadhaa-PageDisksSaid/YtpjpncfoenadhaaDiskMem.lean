/- How the program's disk lies in memory, and what stays of it while other blocks are written. No condition. -/
import Derived.Test.YtpjpncfoenadhaaRows
import Derived.Test.YtpjpncfoenadhaaDiskPlain
import Derived.Test.YtpjpncfoenadhaaBase
import Derived.WalkKit
import Derived.WalkSpells
import Derived.WalkLawsBesides
import Derived.Lib.Hide
import Derived.Deep.QuietTactic
import Derived.BigQuiet
namespace Go.Proofs.Ytpjpncfoenadhaa
open Go.RowKit Dk

/-- only blocks from lo to below hi were written; others may have come -/
structure Touch (lo hi : Nat) (w w' : World) : Prop where
  os : w'.os = w.os
  tape : w'.tape = w.tape
  output : w'.output = w.output
  size : w.heap.size ≤ w'.heap.size
  block : ∀ i, i < w.heap.size → (i < lo ∨ hi ≤ i) → w'.heap[i]? = w.heap[i]?
theorem Touch.refl (lo hi : Nat) (w : World) : Touch lo hi w w := ⟨rfl, rfl, rfl, Nat.le_refl _, fun _ _ _ => rfl⟩
theorem Touch.trans {lo hi : Nat} {a b c : World} (h : Touch lo hi a b) (k : Touch lo hi b c) : Touch lo hi a c :=
  ⟨k.os.trans h.os, k.tape.trans h.tape, k.output.trans h.output, Nat.le_trans h.size k.size, fun i hi' hd => (k.block i (Nat.lt_of_lt_of_le hi' h.size) hd).trans (h.block i hi' hd)⟩
theorem Touch.mono {lo hi lo' hi' : Nat} {a b : World} (h : Touch lo hi a b) (h1 : lo' ≤ lo) (h2 : hi ≤ hi') : Touch lo' hi' a b :=
  ⟨h.os, h.tape, h.output, h.size, fun i hs hd => h.block i hs (by omega)⟩
theorem Touch.of_below {lo hi : Nat} {a b : World} (h : Below a.heap.size a b) : Touch lo hi a b := ⟨h.os, h.tape, h.output, h.size, fun i hs _ => h.block i hs⟩
theorem Touch.below {lo hi B : Nat} {a b : World} (h : Touch lo hi a b) (h1 : B ≤ lo) (h2 : B ≤ a.heap.size) : Below B a b := ⟨h.os, h.tape, h.output, h.size, fun i hs => h.block i (by omega) (by omega)⟩
theorem Touch.alloc {lo hi : Nat} (w : World) (o : Obj) : Touch lo hi w (w.alloc o) := Touch.of_below ((Below.refl _ _).alloc (Nat.le_refl _) o)
theorem Touch.drewN {lo hi : Nat} (w : World) (n : Nat) : Touch lo hi w (w.drewN n) := Touch.of_below (below_drewN (Below.refl _ _) n)
theorem Touch.setCell {lo hi : Nat} (w : World) {p : Addr} (h : lo ≤ p.block ∧ p.block < hi) (v : Value) : Touch lo hi w (w.setCell p v) :=
  ⟨rfl, rfl, rfl, by simp [World.setCell], fun i _ hd => Below.heap_setCell _ _ _ _ (by omega)⟩
theorem Touch.setRow {lo hi : Nat} (w : World) {g : Nat} (h : lo ≤ g ∧ g < hi) (cs : Array Value) : Touch lo hi w (w.setRow g cs) :=
  ⟨rfl, rfl, rfl, by simp [World.setRow], fun i _ hd => setRow_other w g i cs (by omega)⟩

/-- the blocks of the program's disk -/
structure DB where
  g : Nat
  a : Nat
  b : Nat
  c : Nat
  lo : Nat
  hi : Nat
structure DB.Ok (k : DB) : Prop where
  g : k.lo ≤ k.g ∧ k.g < k.hi
  a : k.lo ≤ k.a ∧ k.a < k.hi
  b : k.lo ≤ k.b ∧ k.b < k.hi
  c : k.lo ≤ k.c ∧ k.c < k.hi
  ga : k.g ≠ k.a
  gb : k.g ≠ k.b
  gc : k.g ≠ k.c
  ab : k.a ≠ k.b
  ac : k.a ≠ k.c
  bc : k.b ≠ k.c

def nowL (A : St) : List (List UInt8) := A.secs.map Sec.now
def headV (k : DB) (A : St) : Array Value :=
  #[.slice (some ⟨k.a, 0, none⟩) A.n A.n, .slice (some ⟨k.b, 0, none⟩) A.n A.n, .slice (some ⟨k.c, 0, none⟩) A.n A.n, .int .i64 A.arm, .int .i64 A.calls, .bool A.down]
/-- old bytes: those of loose sectors are the safe ones -/
def OldOf (A : St) (L : List (List UInt8)) : Prop := L.length = A.n ∧ (∀ x ∈ L, x.length = 64) ∧ ∀ (i : Nat) (x : Dk.Sec), A.secs[i]? = some x → x.is = true → L[i]? = some x.safe

/-- the program's disk in memory -/
structure PD (w : World) (k : DB) (A : St) : Prop where
  ok : k.Ok
  inn : k.hi ≤ w.heap.size
  good : A.Good
  head : w.heap[k.g]? = some (.cells (headV k A) 80 (0, 0))
  now : w.heap[k.a]? = some (.cells (bs (nowL A).flatten).toArray 83 (0, 0))
  old : ∃ L, OldOf A L ∧ w.heap[k.b]? = some (.cells (bs L.flatten).toArray 83 (0, 0))
  loose : w.heap[k.c]? = some (.cells (A.secs.map fun x => Value.bool x.is).toArray 4 (0, 0))

theorem PD.far {w w' : World} {k : DB} {A : St} {lo hi : Nat} (h : PD w k A) (ht : Touch lo hi w w') (hd : k.hi ≤ lo ∨ hi ≤ k.lo) : PD w' k A := by
  have ok := h.ok
  have hin := h.inn
  have st : ∀ i, k.lo ≤ i ∧ i < k.hi → w'.heap[i]? = w.heap[i]? := fun i hi' => ht.block i (by omega) (by omega)
  obtain ⟨L, h1, h2⟩ := h.old
  exact ⟨ok, Nat.le_trans hin ht.size, h.good, (st _ ok.g).trans h.head, (st _ ok.a).trans h.now, ⟨L, h1, (st _ ok.b).trans h2⟩, (st _ ok.c).trans h.loose⟩
theorem PD.below {w w' : World} {k : DB} {A : St} (h : PD w k A) (hb : Below w.heap.size w w') : PD w' k A := h.far (Touch.of_below (lo := k.hi) (hi := k.hi) hb) (.inl (Nat.le_refl _))

section
variable {w : World} {k : DB} {A : St}
theorem PD.c0 (h : PD w k A) : w.cell? ⟨k.g, 0, none⟩ = some (.slice (some ⟨k.a, 0, none⟩) A.n A.n) := cell_of_row w k.g 0 _ _ (0, 0) h.head
theorem PD.c1 (h : PD w k A) : w.cell? ⟨k.g, 1, none⟩ = some (.slice (some ⟨k.b, 0, none⟩) A.n A.n) := cell_of_row w k.g 1 _ _ (0, 0) h.head
theorem PD.c2 (h : PD w k A) : w.cell? ⟨k.g, 2, none⟩ = some (.slice (some ⟨k.c, 0, none⟩) A.n A.n) := cell_of_row w k.g 2 _ _ (0, 0) h.head
theorem PD.c3 (h : PD w k A) : w.cell? ⟨k.g, 3, none⟩ = some (.int .i64 A.arm) := cell_of_row w k.g 3 _ _ (0, 0) h.head
theorem PD.c4 (h : PD w k A) : w.cell? ⟨k.g, 4, none⟩ = some (.int .i64 A.calls) := cell_of_row w k.g 4 _ _ (0, 0) h.head
theorem PD.c5 (h : PD w k A) : w.cell? ⟨k.g, 5, none⟩ = some (.bool A.down) := cell_of_row w k.g 5 _ _ (0, 0) h.head
theorem PD.fr (h : PD w k A) (j : Nat) : w.frozen? ⟨k.g, j, none⟩ = false := frozen_of_row w k.g j _ _ h.head
theorem PD.size (_h : PD w k A) : A.n = A.secs.length := rfl
theorem PD.nb (h : PD w k A) : A.n ≤ 4096 := h.good.big
theorem PD.is_ (h : PD w k A) (i : Nat) (hi : i < A.n) : w.cell? ⟨k.c, i, none⟩ = some (.bool (A.secs.getD i none_).is) := by
  have hi' : i < A.secs.length := hi
  rw [cell_of_row w k.c i _ _ (0, 0) h.loose]
  simp [hi', List.getD_eq_getElem?_getD]
theorem PD.fc (h : PD w k A) (j : Nat) : w.frozen? ⟨k.c, j, none⟩ = false := frozen_of_row w k.c j _ _ h.loose
theorem PD.fa (h : PD w k A) (j : Nat) : w.frozen? ⟨k.a, j, none⟩ = false := frozen_of_row w k.a j _ _ h.now
theorem PD.nowlen (h : PD w k A) : ∀ x ∈ nowL A, x.length = 64 := by
  intro x hx
  simp only [nowL, List.mem_map] at hx
  obtain ⟨y, hy, rfl⟩ := hx
  exact now_len (h.good.len y hy)
/-- the head is written, the rest stays -/
theorem PD.rehead (h : PD w k A) {w' : World} {B : St} (ht : ∀ i, i ≠ k.g → w'.heap[i]? = w.heap[i]?) (hz : w.heap.size ≤ w'.heap.size) (hh : w'.heap[k.g]? = some (.cells (headV k B) 80 (0, 0)))
    (hs : B.secs = A.secs) (hg : B.Good) : PD w' k B := by
  obtain ⟨L, h1, h2⟩ := h.old
  have ok := h.ok
  refine ⟨ok, Nat.le_trans h.inn hz, hg, hh, ?_, ⟨L, ?_, (ht _ ok.gb.symm).trans h2⟩, ?_⟩
  · rw [ht _ ok.ga.symm, h.now]
    unfold nowL
    rw [hs]
  · unfold OldOf St.n at *
    rw [hs]
    exact h1
  · rw [ht _ ok.gc.symm, h.loose, hs]
end
end Go.Proofs.Ytpjpncfoenadhaa
