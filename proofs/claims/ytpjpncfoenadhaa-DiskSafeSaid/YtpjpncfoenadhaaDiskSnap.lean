/- What DiskSafe copies of the reference's disk: three rows, in whatever order. No condition. -/
import Derived.Test.YtpjpncfoenadhaaDiskLaw
import Derived.Test.YtpjpncfoenadhaaPlan
import Derived.ArgAppend
namespace Go.Proofs.Ytpjpncfoenadhaa
open Go.RowKit Dk

/-- a row of the call's own that begins with these cells -/
def RowAt (lo : Nat) (w : World) (v : Value) (L : List Value) : Prop := ∃ g cap, v = .slice (some ⟨g, 0, none⟩) L.length cap ∧ lo ≤ g ∧ g < w.heap.size ∧ ∀ j u, L[j]? = some u → w.cell? ⟨g, j, none⟩ = some u
theorem RowAt.below {lo : Nat} {w w' : World} {v : Value} {L : List Value} (h : RowAt lo w v L) (hb : Below w.heap.size w w') : RowAt lo w' v L := by
  obtain ⟨g, cap, h1, h2, h3, h4⟩ := h
  exact ⟨g, cap, h1, h2, Nat.lt_of_lt_of_le h3 hb.size, fun j u hu => (World.cell?_of_block (hb.block g h3)).trans (h4 j u hu)⟩
theorem RowAt.touch {lo lo' hi : Nat} {w w' : World} {v : Value} {L : List Value} (h : RowAt lo w v L) (ht : Touch lo' hi w w') (hl : hi ≤ lo) : RowAt lo w' v L := by
  obtain ⟨g, cap, h1, h2, h3, h4⟩ := h
  exact ⟨g, cap, h1, h2, Nat.lt_of_lt_of_le h3 ht.size, fun j u hu => (World.cell?_of_block (ht.block g h3 (.inr (by show hi ≤ g; omega)))).trans (h4 j u hu)⟩
theorem Rw.add {w : World} {b : Nat} {t : TypeId} {L : List Value} (h : Rw w b t L) : ∀ j u, L[j]? = some u → w.cell? ((⟨b, 0, none⟩ : Addr).add j) = some u := fun j u hu => by
  rw [Addr.add_lit, Nat.zero_add]
  exact h.cell j u hu
theorem rowAt_of {w : World} {lo base : Nat} {t : TypeId} {v : Value} {L : List Value} (h : w.ownsRow base t 1 v L.length L) (hn : 0 < L.length) (hl : lo ≤ base) : RowAt lo w v L := by
  rcases h.2 with ⟨_, h0⟩ | ⟨g, cap, cur, rfl, hb, hg, hnc, _, hc, ht⟩
  · omega
  · refine ⟨g, cap, rfl, by omega, lt_of_block hg, fun j u hu => ?_⟩
    rw [cell_of_row w g j _ _ (0, 0) hg]
    rw [Nat.mul_one] at ht
    rw [← ht, List.getElem?_take] at hu
    split at hu
    · simpa using hu
    · cases hu
section
variable {lo : Nat} {w : World} {r : RB} {A : St} {L : List Value}
def Emp (v : Value) : Prop := ∃ ad, v = .slice (some ad) 0 0
def safeL (A : St) : List Value := A.secs.map fun x => str x.safe
def isL (A : St) : List Value := A.secs.map fun x => Value.bool x.is
def snapPlan (lo : Nat) (r : RB) (A : St) (L : List Value) : Plan.Plan := fun i v w =>
  match i with
  | 0 => Emp v
  | 1 => v = .pointer (some ⟨r.g, 0, none⟩)
  | 2 => v = .pointer (some ⟨r.g, 0, none⟩)
  | 3 => v = .pointer (some ⟨r.g, 0, none⟩)
  | 4 => v = .slice (some ⟨r.s, 0, none⟩) A.n r.cs
  | 5 => RowAt lo w v (safeL A)
  | 6 => Emp v
  | 7 => v = .pointer (some ⟨r.g, 0, none⟩)
  | 8 => v = .pointer (some ⟨r.g, 0, none⟩)
  | 9 => v = .pointer (some ⟨r.g, 1, none⟩)
  | 10 => v = .slice (some ⟨r.n, 0, none⟩) A.n r.cn
  | 11 => RowAt lo w v L
  | 12 => Emp v
  | 13 => v = .pointer (some ⟨r.g, 0, none⟩)
  | 14 => v = .pointer (some ⟨r.g, 0, none⟩)
  | 15 => v = .pointer (some ⟨r.g, 2, none⟩)
  | 16 => v = .slice (some ⟨r.b, 0, none⟩) A.n r.cb
  | 17 => RowAt lo w v (isL A)
  | 18 => RowAt lo w v (safeL A)
  | 19 => RowAt lo w v L
  | 20 => RowAt lo w v (isL A)
  | _ => True
theorem snap_stable : Plan.Stable (snapPlan lo r A L) := by
  intro i v w w' h hb
  exact match i, h with
  | 0, h => h
  | 1, h => h
  | 2, h => h
  | 3, h => h
  | 4, h => h
  | 5, h => RowAt.below h hb
  | 6, h => h
  | 7, h => h
  | 8, h => h
  | 9, h => h
  | 10, h => h
  | 11, h => RowAt.below h hb
  | 12, h => h
  | 13, h => h
  | 14, h => h
  | 15, h => h
  | 16, h => h
  | 17, h => RowAt.below h hb
  | 18, h => RowAt.below h hb
  | 19, h => RowAt.below h hb
  | 20, h => RowAt.below h hb
  | _ + 21, _ => trivial
/-- the reference's disk, its new texts by name -/
structure XL (w : World) (r : RB) (A : St) (L : List Value) : Prop where
  x : XD w r A
  l : NewOf A L
  n : Rw w r.n 9 L
theorem XL.below (h : XL w r A L) {w' : World} (hb : Below w.heap.size w w') : XL w' r A L := by
  have h1 := h.x.inn
  have h2 := h.x.ok.n
  exact ⟨h.x.below hb, h.l, h.n.keep (hb.block _ (by omega))⟩
theorem run_empty (ρ : Operand → Value) (o : Oper) (t e : TypeId) (ho : o.op = .buildSlice t 0 #[]) (ht : Try.prog.underlying t = some (.slice e)) (hs : (Try.prog.info? e).map (·.size) = some 1) (w : World) :
    (execOp ρ o).run Try.prog w = .ok (.value (.slice (some ⟨w.heap.size, 0, none⟩) 0 0)) (w.alloc (.cells #[] e (0, 0))) := by
  cases hq : Try.prog.info? e with
  | none => simp [hq] at hs
  | some i =>
    simp [execOp, ho, Instr.buildSlice, run_underlying ht, sizeOf, typeInfo, hq, newRow, Instr.fill, show Array.range 0 = #[] from rfl]
/-- append onto an empty row: a new one -/
theorem run_fresh {w : World} (t e : TypeId) (i : TypeInfo) (z : Value) (bytes : Nat) (ht : Try.prog.underlying t = some (.slice e)) (hi : Try.prog.info? e = some i) (hz : i.zero = some z) (hsize : i.size = 1) (hby : i.bytes = bytes) (hzs : z.cells.size = 1)
    (x : Value) (hx : Emp x) (b cap : Nat) (L : List Value) (hc : ∀ j u, L[j]? = some u → w.cell? ((⟨b, 0, none⟩ : Addr).add j) = some u) (h0 : 0 < L.length) (h1 : L.length ≤ 4096) (h2 : bytes ≤ 1000) (ty : TypeId) (hlo : lo ≤ w.heap.size) :
    ∃ v w', (Builtin.append_ #[t, t] ty #[x, .slice (some ⟨b, 0, none⟩) L.length cap]).run Try.prog w = .ok v w' ∧ RowAt lo w' v L ∧ Below w.heap.size w w' := by
  obtain ⟨ad, rfl⟩ := hx
  have hbt : L.length * bytes ≤ 4096 * 1000 := Nat.mul_le_mul h1 h2
  have hmax : maxLen = 9223372036854775807 := rfl
  obtain ⟨v, w', hr, hown, hg⟩ := run_append_arg_grows (P := Try.prog) (w := w) t ty e i z 1 bytes ht hi hz hsize hby hzs (by decide) ad 0 0 [] (by simp) (fun j u hj => by simp at hj) ⟨b, 0, none⟩ L.length cap L (by simp) hc
    (by omega) (by rw [hmax]; omega) (by rw [Nat.zero_add]; omega)
  rw [Nat.zero_add, List.nil_append] at hown
  exact ⟨v, w', hr, rowAt_of hown h0 hlo, ⟨hg.os, hg.tape, hg.output, hg.size, fun i hi => hg.block i hi (by simp)⟩⟩
end
end Go.Proofs.Ytpjpncfoenadhaa
