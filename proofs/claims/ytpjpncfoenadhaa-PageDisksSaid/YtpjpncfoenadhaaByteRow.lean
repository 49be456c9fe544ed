/- A row of bytes that a call owns, made by '[]byte(s)' (which marks the place behind it) or by append: one byte more. Over any program; no condition. -/
import Derived.Test.YtpjpncfoenadhaaMem
import Derived.Lib.ConvBytes
import Derived.Laws.IdiomCopy
namespace Go.Proofs.Ytpjpncfoenadhaa
open Go.RowKit

def BRow (w : World) (base : Nat) (e : TypeId) (v : Value) (l : List UInt8) : Prop :=
  ∃ (g cap : Nat) (cur : Array Value) (fz : Nat × Nat), v = .slice (some ⟨g, 0, none⟩) l.length cap ∧ base ≤ g ∧ w.heap[g]? = some (.cells cur e fz) ∧ l.length ≤ cap ∧ cap ≤ maxLen ∧ cur.size = cap ∧ cur.toList.take l.length = bs l ∧ (fz = (0, 0) ∨ cur.size ≤ fz.1)

section
variable {P : Program}
theorem BRow.conv (w : World) (e : TypeId) (s : ByteArray) (h : s.size ≤ maxLen) : BRow (Lib.bytesWorld w e s) w.heap.size e (.slice (some ⟨w.heap.size, 0, none⟩) s.size (grownCap w s.size 0 e)) s.data.toList := by
  have hs : s.data.toList.length = s.size := by simp
  have hg := grownCap_ge w s.size 0 e
  refine ⟨w.heap.size, grownCap w s.size 0 e, _, _, by rw [hs], Nat.le_refl _, Lib.bytesWorld_at_new w e s, by rw [hs]; exact hg, grownCap_le_maxLen w _ _ e h, ?_, ?_, .inr (Nat.le_refl _)⟩
  · simp [Lib.bytesCells]
    omega
  · simp only [Lib.bytesCells, Array.toList_append, Array.toList_map]
    rw [List.take_append_of_le_length (by simp), List.take_of_length_le (by simp)]
    rfl
theorem BRow.cell {w : World} {base : Nat} {e : TypeId} {g cap n : Nat} {l : List UInt8} (h : BRow w base e (.slice (some ⟨g, 0, none⟩) n cap) l) (j : Nat) (hj : j < l.length) : w.cell? ⟨g, j, none⟩ = some (.int .u8 (l[j].toNat : Int)) := by
  obtain ⟨g', cap', cur, fz, hv, _, hg, hl, _, _, ht, _⟩ := h
  cases hv
  rw [cell_of_row w g j cur e fz hg]
  have := congrArg (fun x : List Value => x[j]?) ht
  simp only [List.getElem?_take, if_pos hj, bs_at] at this
  rw [List.getElem?_eq_getElem hj] at this
  simpa using this
theorem BRow.grown {w w' : World} {base : Nat} {e : TypeId} {v : Value} {l : List UInt8} (h : BRow w base e v l) (hb : Below w.heap.size w w') : BRow w' base e v l := by
  obtain ⟨g, cap, cur, fz, hv, hb', hg, r⟩ := h
  exact ⟨g, cap, cur, fz, hv, hb', (hb.block g (lt_of_block hg)).trans hg, r⟩
/-- one byte more -/
theorem run_append_byte (w : World) (t ty e : TypeId) (i : TypeInfo) (z : Value) (ht : P.underlying t = some (.slice e)) (hi : P.info? e = some i) (hz : i.zero = some z) (hsize : i.size = 1) (hby : i.bytes = 1) (hzs : z.cells.size = 1)
    (base : Nat) (v : Value) (l : List UInt8) (h : BRow w base e v l) (a : Addr) (c : Nat) (b : UInt8) (ha : w.cell? (a.add 0) = some (.int .u8 (b.toNat : Int))) (hl : l.length ≤ 1000000) (hbase : base ≤ w.heap.size) :
    ∃ v' w', (Builtin.append_ #[t, t] ty #[v, .slice (some a) 1 c]).run P w = .ok v' w' ∧ BRow w' base e v' (l ++ [b]) ∧ Below base w w' := by
  obtain ⟨g, cap, cur, fz, rfl, hbg, hg, hlc, hcm, hcs, htk, hfz⟩ := h
  have hnews : ∀ j u, [Value.int .u8 (b.toNat : Int)][j]? = some u → w.cell? (a.add j) = some u := by
    intro j u hu
    cases j with
    | zero => rw [ha]; simpa using hu
    | succ j => simp at hu
  have hm : maxLen = 9223372036854775807 := rfl
  by_cases hroom : l.length + 1 ≤ cap
  · have hf := run_firstCells_some (P := P) w i.size 1 a 1 c [.int .u8 (b.toNat : Int)] (by simp [hsize]) hnews
    have hcell : (w.cell? ⟨g, l.length, none⟩).isSome = true := by
      rw [cell_of_row w g _ cur e fz hg]
      simp
      omega
    have hfro : w.frozen? ⟨g, l.length, none⟩ = false := by
      obtain ⟨lo, hi'⟩ := fz
      simp only [World.frozen?, hg, Bool.and_eq_false_iff, decide_eq_false_iff_not]
      rcases hfz with h0 | h0
      · cases h0
        right
        omega
      · left
        simp only at h0
        omega
    have h00 : ∀ j, j < [Value.int .u8 (b.toNat : Int)].length → j = 0 := fun j hj => by simp at hj; omega
    have hst := run_storeCells_cells (P := P) g l.length [.int .u8 (b.toNat : Int)] 0 w (fun j hj => by rw [h00 j hj]; simpa using hcell) (fun j hj => by rw [h00 j hj]; simpa using hfro) (fun v hv => by simp at hv; subst hv; rfl)
    have hset : (w.setCell ⟨g, l.length, none⟩ (.int .u8 (b.toNat : Int))).heap[g]? = some (.cells (cur.setIfInBounds l.length (.int .u8 (b.toNat : Int))) e fz) := by
      simp [World.setCell, Array.getElem?_modify, hg]
    refine ⟨.slice (some ⟨g, 0, none⟩) (l.length + 1) cap, w.setCell ⟨g, l.length, none⟩ (.int .u8 (b.toNat : Int)), ?_, ⟨g, cap, cur.setIfInBounds l.length (.int .u8 (b.toNat : Int)), fz, by simp, hbg, hset, by simpa using hroom, hcm, by simpa using hcs, ?_, by simpa using hfz⟩, ?_⟩
    · simp [Builtin.append_, run_underlying ht, sizeOf, typeInfo, hi, hsize, Builtin.lenOf, hroom, Addr.add_lit]
      rw [hsize] at hf
      simp at hst
      simp [hf, hst, World.setCells]
    · rw [Array.toList_setIfInBounds, bs_append, List.length_append, List.length_singleton]
      have hlt : l.length < cur.toList.length := by rw [Array.length_toList (xs := cur), hcs]; exact hroom
      rw [List.take_succ_eq_append_getElem (by rw [List.length_set]; exact hlt), List.take_set_of_le (Nat.le_refl _), htk, List.getElem_set_self]
      rfl
    · exact ⟨rfl, rfl, rfl, by simp [World.setCell], fun k hk => Below.heap_setCell _ _ _ _ (show k ≠ g from fun e => by subst e; omega)⟩
  · have holds : ∀ j u, (bs l)[j]? = some u → w.cell? ((⟨g, 0, none⟩ : Addr).add j) = some u := by
      intro j u hu
      have hadd : (⟨g, 0, none⟩ : Addr).add j = ⟨g, j, none⟩ := by unfold Addr.add; split <;> simp_all
      rw [hadd, cell_of_row w g j cur e fz hg]
      rw [← htk, List.getElem?_take] at hu
      split at hu
      · simpa using hu
      · cases hu
    have hr := run_append_grow (P := P) w t ty e i z ht hi hz ⟨g, 0, none⟩ l.length cap (bs l) (by rw [bs_length, hsize, Nat.mul_one]) holds a 1 c [.int .u8 (b.toNat : Int)] (by simp [hsize]) hnews (by omega) (by omega) (growslice_fits (by omega) (by rw [hby]; omega))
    have hge := grownCap_ge w (l.length + 1) cap e
    have hcm2 : grownCap w (l.length + 1) cap e ≤ maxLen := grownCap_le_maxLen w _ _ e (by rw [hm]; omega)
    refine ⟨_, _, hr, ⟨w.heap.size, grownCap w (l.length + 1) cap e, _, (0, 0), by simp, hbase, heap_alloc_new w.drew _, by simpa using hge, hcm2, ?_, ?_, .inl rfl⟩, ⟨rfl, rfl, rfl, by simp, fun k hk => heap_alloc_old w.drew _ (show k < w.drew.heap.size from Nat.lt_of_lt_of_le hk hbase)⟩⟩
    · simp only [Array.size_append, List.size_toArray, size_zeroCells, hzs, bs_length, List.length_singleton]
      omega
    · simp only [Array.toList_append, List.append_assoc]
      rw [← List.append_assoc, List.take_append_of_le_length (by simp [bs_length]), List.take_of_length_le (by simp [bs_length]), bs_append]
      rfl
theorem wpList_append_byte {w : World} {ops : Array Oper} {rest : List Oper} {o : Oper} {a : Act} {Q : Exit → Act → World → Prop} (hgd : o.guard = none) (s x : Operand) (t : TypeId)
    (ho : o.op = .call { callee := .builtin .append, args := #[s, x], argTypes := #[t, t] }) (e : TypeId) (i : TypeInfo) (z : Value) (ht : P.underlying t = some (.slice e)) (hi : P.info? e = some i) (hz : i.zero = some z)
    (hsize : i.size = 1) (hby : i.bytes = 1) (hzs : z.cells.size = 1) (base : Nat) (v : Value) (l : List UInt8) (hs : a.eval s = v) (hown : BRow w base e v l) (ad : Addr) (c : Nat) (b : UInt8) (hx : a.eval x = .slice (some ad) 1 c)
    (ha : w.cell? (ad.add 0) = some (.int .u8 (b.toNat : Int))) (hl : l.length ≤ 1000000) (hbase : base ≤ w.heap.size)
    (h : ∀ v' w', Hid (BRow w' base e v' (l ++ [b])) → Hid (Below base w w') → wpList P ops Q rest (a.put o.dst v') w') : wpList P ops Q (o :: rest) a w := by
  refine wpList_plain hgd fun K hK => ?_
  obtain ⟨v', w', hr, h1, h2⟩ := run_append_byte (P := P) w t o.type e i z ht hi hz hsize hby hzs base v l hown ad c b ha hl hbase
  unfold Oper.wp execOp
  simp only [ho, resolve, invoke, builtin, Sem.run_bind, Sem.run_pure, Result.andThen_ok, List.map_toArray, List.map_cons, List.map_nil, hs, hx, hr]
  exact hK _ _ (h v' w' h1 h2)
end
end Go.Proofs.Ytpjpncfoenadhaa
