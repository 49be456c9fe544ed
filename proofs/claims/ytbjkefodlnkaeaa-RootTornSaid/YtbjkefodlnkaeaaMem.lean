/- Laws of memory that the walks of this seat want beside the library's: a text copied into a row of bytes, a row of bytes read back as a text, cells of a new row. Over any program; no condition. -/
import Derived.WalkKit
import Derived.Laws.CopyOwn
import Derived.Laws.CopyRow
import Derived.Laws.IdiomStrings
namespace Go.Proofs.Ytbjkefodlnkaeaa
open Go.RowKit

/-- bytes as cells -/
def bs (l : List UInt8) : List Value := l.map fun b => Value.int .u8 (b.toNat : Int)
theorem bs_length (l : List UInt8) : (bs l).length = l.length := by simp [bs]
theorem bs_append (l m : List UInt8) : bs (l ++ m) = bs l ++ bs m := by simp [bs]
theorem bs_take (l : List UInt8) (n : Nat) : (bs l).take n = bs (l.take n) := by simp [bs, List.map_take]
theorem bs_drop (l : List UInt8) (n : Nat) : (bs l).drop n = bs (l.drop n) := by simp [bs, List.map_drop]
theorem bs_one (l : List UInt8) : ∀ v ∈ bs l, v.oneCell' = true := by
  intro v hv
  simp only [bs, List.mem_map] at hv
  obtain ⟨b, _, rfl⟩ := hv
  rfl
theorem bs_at (l : List UInt8) (j : Nat) : (bs l)[j]? = (l[j]?).map fun b => Value.int .u8 (b.toNat : Int) := by simp [bs]
theorem bs_get (l : List UInt8) (j : Nat) (h : j < l.length) : (bs l)[j]? = some (.int .u8 (l[j].toNat : Int)) := by rw [bs_at, List.getElem?_eq_getElem h]; rfl

/-- a row of bytes, whole -/
def Row (w : World) (g : Nat) (e : TypeId) (l : List UInt8) : Prop := w.heap[g]? = some (.cells (bs l).toArray e (0, 0))
theorem Row.lt {w : World} {g : Nat} {e : TypeId} {l : List UInt8} (h : Row w g e l) : g < w.heap.size := lt_of_block h
theorem Row.cell {w : World} {g : Nat} {e : TypeId} {l : List UInt8} (h : Row w g e l) (j : Nat) (hj : j < l.length) : w.cell? ⟨g, j, none⟩ = some (.int .u8 (l[j].toNat : Int)) := by
  rw [cell_of_row w g j _ e (0, 0) h]
  simpa using bs_get l j hj
theorem Row.free {w : World} {g : Nat} {e : TypeId} {l : List UInt8} (h : Row w g e l) (j : Nat) : w.frozen? ⟨g, j, none⟩ = false := frozen_of_row w g j _ e h
theorem Row.below {w w' : World} {g B : Nat} {e : TypeId} {l : List UInt8} (h : Row w g e l) (hb : Below B w w') (hg : g < B) : Row w' g e l := (hb.block g hg).trans h

section
variable {P : Program}
theorem firstCells_text (w : World) (size n : Nat) (s : ByteArray) : (Builtin.firstCells size n (.string s)).run P w = .ok (bs (s.data.toList.take n)).toArray w := by
  obtain ⟨⟨l⟩⟩ := s
  simp only [Builtin.firstCells, ByteArray.extract_mk, Sem.run_pure]
  congr 1
  simp [bs]

/-- 'copy(dst, s)', s a text: what fits goes over, the rest of the row stays -/
theorem run_copy_text (w : World) (dT sT ty elem : TypeId) (g o dLen dCap : Nat) (s : ByteArray) (cur : List Value) (t : TypeId)
    (hu : P.underlying dT = some (.slice elem)) (hs : (P.info? elem).map (·.size) = some 1) (hg : w.heap[g]? = some (.cells cur.toArray t (0, 0))) (hfit : o + min s.size dLen ≤ cur.length) :
    (Builtin.copy_ #[dT, sT] ty #[.slice (some ⟨g, o, none⟩) dLen dCap, .string s]).run P w =
      .ok (goInt ((min s.size dLen : Nat) : Int)) (w.setRow g (splice cur o (bs (s.data.toList.take dLen))).toArray) := by
  have hsz : s.data.toList.length = s.size := by simp
  have hlen : (bs (s.data.toList.take (min s.size dLen))).length = min s.size dLen := by
    rw [bs_length, List.length_take, hsz]
    omega
  have htk : s.data.toList.take (min s.size dLen) = s.data.toList.take dLen := by
    by_cases h : s.size ≤ dLen
    · rw [Nat.min_eq_left h, List.take_of_length_le (by omega), List.take_of_length_le (by omega)]
    · rw [Nat.min_eq_right (by omega)]
  have hst := run_storeCells_at P g o t (bs (s.data.toList.take (min s.size dLen))) 0 cur.toArray w hg (by rw [hlen]; simpa using hfit) (bs_one _)
  rw [hlen, htk] at hst
  rw [htk] at hlen
  simp only [Nat.add_zero] at hst
  cases hq : P.info? elem with
  | none => simp [hq] at hs
  | some i =>
    have hmin : Nat.min s.size dLen = min s.size dLen := rfl
    simp [Builtin.copy_, run_underlying hu, Builtin.lenOf, sizeOf, typeInfo, hq, hmin, firstCells_text, htk]
    simp [hst, splice, hlen]

theorem wpList_copy_text {w : World} {ops : Array Oper} {rest : List Oper} {o : Oper} {a : Act} {Q : Exit → Act → World → Prop} (hgd : o.guard = none) (d s : Operand) (dT sT : TypeId)
    (ho : o.op = .call { callee := .builtin .copy, args := #[d, s], argTypes := #[dT, sT] }) (elem : TypeId) (hu : P.underlying dT = some (.slice elem)) (hsz : (P.info? elem).map (·.size) = some 1)
    (g off dLen dCap : Nat) (x : ByteArray) (hd : a.eval d = .slice (some ⟨g, off, none⟩) dLen dCap) (hs : a.eval s = .string x)
    (cur : List Value) (t : TypeId) (hg : w.heap[g]? = some (.cells cur.toArray t (0, 0))) (hfit : off + min x.size dLen ≤ cur.length) (B : Nat) (w0 : World) (hb : Below B w0 w) (hBg : B ≤ g)
    (h : ∀ w', Hid (w'.heap[g]? = some (.cells (splice cur off (bs (x.data.toList.take dLen))).toArray t (0, 0))) → Hid (Below B w0 w') → Hid (Below g w w') → wpList P ops Q rest (a.put o.dst (goInt ((min x.size dLen : Nat) : Int))) w') :
    wpList P ops Q (o :: rest) a w := by
  refine wpList_plain hgd fun K hK => ?_
  have hrun := run_copy_text (P := P) w dT sT o.type elem g off dLen dCap x cur t hu hsz hg hfit
  unfold Oper.wp
  simp [execOp, ho, resolve, invoke, builtin, hd, hs, hrun, Result.andThen]
  exact hK _ _ (h _ (setRow_heap w g _ _ t _ hg) (below_setRow hb hBg _) (below_setRow (Below.refl _ _) (Nat.le_refl _) _))
end
end Go.Proofs.Ytbjkefodlnkaeaa
