/- A whole sector (an array of 64 bytes) read from, or stored into, the middle of a row, as the walk's own rules. No condition. -/
import Derived.Test.YtpjpncfoenadhaaDiskSmall
import Derived.RegionTactic
import Derived.BigRegion
namespace Go.Proofs.Ytpjpncfoenadhaa
open Go.RowKit Dk

def cellsIn (w : World) (a : Nat) : Array Value := match w.heap[a]? with | some (.cells cs _ _) => cs | _ => #[]
/-- 64 cells from a place on lie in a row that may be written -/
def HasA (w : World) (a off : Nat) : Prop := ∃ cs t, w.heap[a]? = some (.cells cs t (0, 0)) ∧ off + 64 ≤ cs.size
def rdA (w : World) (a off : Nat) : Array Value := (cellsIn w a).extract off (off + 64)
def wrA (w : World) (a off : Nat) (vs : Array Value) : World := w.setRow a (splice (cellsIn w a).toList off vs.toList).toArray
def Arr64 (vs : Array Value) : Prop := vs.size = 64 ∧ ∀ v ∈ vs.toList, v.oneCell' = true
def zero64 : Array Value := Array.replicate 64 (.int .u8 0)

theorem arr_kind : ∃ d, Try.prog.underlying 83 = some d ∧ (match d with | .struct _ | .array _ _ => true | _ => false) = true := ⟨_, Try.underlying83, rfl⟩
theorem arr_size : (Try.prog.info? 83).map (·.size) = some 64 := by kernel_rfl

theorem load_sector (w : World) (a off : Nat) (h : HasA w a off) : (Instr.loadAt 83 (.pointer (some ⟨a, off, none⟩))).run Try.prog w = .ok (.agg (rdA w a off)) w := by
  obtain ⟨cs, t, hg, hs⟩ := h
  obtain ⟨d, hu, hd⟩ := arr_kind
  have hc : cellsIn w a = cs := by unfold cellsIn; rw [hg]
  have hl := run_loadCells_list (P := Try.prog) w ⟨a, off, none⟩ (cs.extract off (off + 64)).toList (fun j v hv => by
    have hadd : (⟨a, off, none⟩ : Addr).add j = ⟨a, off + j, none⟩ := by unfold Addr.add; split <;> simp_all
    rw [hadd, cell_of_row w a (off + j) cs t (0, 0) hg]
    have hj : j < (cs.extract off (off + 64)).size := by
      have := (List.getElem?_eq_some_iff.1 hv).1
      simp at this ⊢
      omega
    rw [Array.getElem?_toList, Array.getElem?_eq_getElem hj, Array.getElem_extract] at hv
    rw [← hv, Array.getElem?_eq_getElem])
  have hlen : (cs.extract off (off + 64)).toList.length = 64 := by simp; omega
  rw [hlen, Array.toArray_toList] at hl
  cases hq : Try.prog.info? 83 with
  | none => have := arr_size; simp [hq] at this
  | some i =>
    have hs' : i.size = 64 := by simpa [hq] using arr_size
    have hagg : (isAgg 83).run Try.prog w = .ok true w := by
      unfold isAgg
      rw [Sem.run_bind, run_underlying hu w]
      cases d <;> simp_all
    unfold rdA
    rw [hc]
    simp [Instr.loadAt, Instr.sureAddr, loadVar, hagg, sizeOf, typeInfo, hq, hs', hl]

theorem store_sector (w : World) (a off : Nat) (vs : Array Value) (h : HasA w a off) (hv : Arr64 vs) : (Instr.storeAt 83 (.pointer (some ⟨a, off, none⟩)) (.agg vs)).run Try.prog w = .ok () (wrA w a off vs) := by
  obtain ⟨cs, t, hg, hs⟩ := h
  have hc : cellsIn w a = cs := by unfold cellsIn; rw [hg]
  have hl : vs.toList.length = 64 := by rw [Array.length_toList]; exact hv.1
  have hst := run_storeCells_at Try.prog a off t vs.toList 0 cs w hg (by rw [hl]; simpa using hs) hv.2
  rw [hl] at hst
  cases hq : Try.prog.info? 83 with
  | none => have := arr_size; simp [hq] at this
  | some i =>
    have hs' : i.size = 64 := by simpa [hq] using arr_size
    simp only [Nat.add_zero] at hst
    unfold wrA
    rw [hc]
    simp [Instr.storeAt, Instr.sureAddr, storeVar, sizeOf, typeInfo, hq, hs', Value.cells, hv.1, hst, splice, hl]

theorem HasA.drew (w : World) (a off : Nat) (h : HasA w a off) : HasA w.drew a off := h
theorem HasA.drewN (w : World) (n a off : Nat) (h : HasA w a off) : HasA (w.drewN n) a off := h
theorem rdA_drew (w : World) (a off : Nat) : rdA w.drew a off = rdA w a off := rfl
theorem rdA_drewN (w : World) (n a off : Nat) : rdA (w.drewN n) a off = rdA w a off := rfl
theorem wrA_drew (w : World) (a off : Nat) (vs : Array Value) : wrA w.drew a off vs = (wrA w a off vs).drew := rfl
theorem wrA_cell (w : World) (a off b j : Nat) (vs : Array Value) (h : b ≠ a) : (wrA w a off vs).cell? ⟨b, j, none⟩ = w.cell? ⟨b, j, none⟩ := World.cell?_of_block (w := w) (setRow_other w a b _ h)
theorem wrA_frozen (w : World) (a off b j : Nat) (vs : Array Value) (h : b ≠ a) : (wrA w a off vs).frozen? ⟨b, j, none⟩ = w.frozen? ⟨b, j, none⟩ := World.frozen?_of_block (w := w) (setRow_other w a b _ h)
theorem wrA_size (w : World) (a off : Nat) (vs : Array Value) : (wrA w a off vs).heap.size = w.heap.size := size_setRow w a _
theorem HasA.set (w : World) (a off : Nat) (p : Addr) (v : Value) (h : a ≠ p.block) (hh : HasA w a off) : HasA (w.setCell p v) a off := by
  unfold HasA
  rw [Below.heap_setCell w p v a h]
  exact hh
theorem HasA.wr (w : World) (a off b o : Nat) (vs : Array Value) (h : a ≠ b) (hh : HasA w a off) : HasA (wrA w b o vs) a off := by
  unfold HasA wrA
  rw [setRow_other w b a _ h]
  exact hh
theorem zero_built (w : World) : (Instr.build 83 #[]).run Try.prog w = .ok (.agg zero64) w := by kernel_rfl

/-! the same as rules at the operation -/
def loadA (v : Value) : Sem Next := do pure (.value (← Instr.loadAt 83 v))
def storeA (v x : Value) : Sem Next := do Instr.storeAt 83 v x; pure .skip
def zeroA : Sem Next := do pure (.value (← Instr.build 83 #[]))
theorem exec_loadA (ρ : Operand → Value) (dst : Option Tmp) (x : Operand) (ty : TypeId) (pos : String) (after : Array Edge) (guard : Option (Nat × Bool)) :
    execOp ρ { dst, op := .load 83 x, type := ty, pos, after, guard } = loadA (ρ x) := rfl
theorem exec_storeA (ρ : Operand → Value) (dst : Option Tmp) (x y : Operand) (ty : TypeId) (pos : String) (after : Array Edge) (guard : Option (Nat × Bool)) :
    execOp ρ { dst, op := .store 83 x y, type := ty, pos, after, guard } = storeA (ρ x) (ρ y) := rfl
theorem exec_zeroA (ρ : Operand → Value) (dst : Option Tmp) (ty : TypeId) (pos : String) (after : Array Edge) (guard : Option (Nat × Bool)) :
    execOp ρ { dst, op := .build 83 #[], type := ty, pos, after, guard } = zeroA := by simp [execOp, zeroA]
theorem run_loadA (w : World) (a off : Nat) (h : HasA w a off) : (loadA (.pointer (some ⟨a, off, none⟩))).run Try.prog w = .ok (.value (.agg (rdA w a off))) w := by
  simp [loadA, load_sector w a off h]
theorem run_storeA (w : World) (a off : Nat) (vs : Array Value) (h : HasA w a off) (hv : Arr64 vs) : (storeA (.pointer (some ⟨a, off, none⟩)) (.agg vs)).run Try.prog w = .ok .skip (wrA w a off vs) := by
  simp [storeA, store_sector w a off vs h hv]
theorem run_zeroA (w : World) : zeroA.run Try.prog w = .ok (.value (.agg zero64)) w := by
  simp [zeroA, zero_built]
theorem zero_arr : Arr64 zero64 := ⟨by simp [zero64], fun v hv => by
  simp only [zero64, Array.toList_replicate] at hv
  rw [List.eq_of_mem_replicate hv]
  rfl⟩
theorem bs_arr (l : List UInt8) (h : l.length = 64) : Arr64 (bs l).toArray := ⟨by simp [bs_length, h], fun v hv => bs_one l v (by simpa using hv)⟩

theorem wpList_copy_text_at {P : Program} {w : World} {ops : Array Oper} {rest : List Oper} {o : Oper} {a : Act} {Q : Exit → Act → World → Prop} (hgd : o.guard = none) (d s : Operand) (dT sT : TypeId)
    (ho : o.op = .call { callee := .builtin .copy, args := #[d, s], argTypes := #[dT, sT] }) (elem : TypeId) (hu : P.underlying dT = some (.slice elem)) (hsz : (P.info? elem).map (·.size) = some 1)
    (g off dLen dCap : Nat) (x : ByteArray) (hd : a.eval d = .slice (some ⟨g, off, none⟩) dLen dCap) (hs : a.eval s = .string x)
    (cur : List Value) (t : TypeId) (hg : w.heap[g]? = some (.cells cur.toArray t (0, 0))) (hfit : off + min x.size dLen ≤ cur.length)
    (h : wpList P ops Q rest (a.put o.dst (goInt ((min x.size dLen : Nat) : Int))) (w.setRow g (splice cur off (bs (x.data.toList.take dLen))).toArray)) :
    wpList P ops Q (o :: rest) a w := by
  refine wpList_plain hgd fun K hK => ?_
  have hrun := run_copy_text (P := P) w dT sT o.type elem g off dLen dCap x cur t hu hsz hg hfit
  unfold Oper.wp
  simp [execOp, ho, resolve, invoke, builtin, hd, hs, hrun, Result.andThen]
  exact hK _ _ h
theorem wrA_heap {w : World} {a off : Nat} {vs : Array Value} {cs : Array Value} {t : TypeId} (h : w.heap[a]? = some (.cells cs t (0, 0))) : (wrA w a off vs).heap[a]? = some (.cells (splice cs.toList off vs.toList).toArray t (0, 0)) := by
  unfold wrA
  have hc : cellsIn w a = cs := by unfold cellsIn; rw [h]
  rw [hc]
  exact setRow_heap w a _ _ _ _ h
theorem wrA_other {w : World} {a off b : Nat} {vs : Array Value} (h : b ≠ a) : (wrA w a off vs).heap[b]? = w.heap[b]? := setRow_other w a b _ h
theorem Touch.wrA {lo hi : Nat} (w : World) {a : Nat} (h : lo ≤ a ∧ a < hi) (off : Nat) (vs : Array Value) : Touch lo hi w (wrA w a off vs) := Touch.setRow w h _
theorem bs_splice (l : List UInt8) (off : Nat) (m : List UInt8) : splice (bs l) off (bs m) = bs (splice l off m) := by
  unfold splice
  rw [bs_length, bs_take, bs_drop, bs_append, bs_append]

section
variable {w : World} {k : DB} {A : St}
theorem PD.nowl (_h : PD w k A) : (nowL A).length = A.n := by simp [nowL, St.n]
theorem PD.sec (_h : PD w k A) (i : Nat) (hi : i < A.n) : A.secs[i]? = some (A.secs.getD i none_) := by
  have hi' : i < A.secs.length := hi
  rw [List.getD_eq_getElem?_getD, List.getElem?_eq_getElem hi']
  rfl
/-- the disk behind the first step of Write: the old bytes are kept -/
structure Half (w : World) (k : DB) (A : St) (i : Nat) (s : List UInt8) (w5 : World) : Prop where
  touch : Touch k.lo k.hi w w5
  head : w5.heap[k.g]? = w.heap[k.g]?
  now : w5.heap[k.a]? = w.heap[k.a]?
  old : ∃ L, OldOf (A.put i s) L ∧ w5.heap[k.b]? = some (.cells (bs L.flatten).toArray 83 (0, 0))
  loose : w5.heap[k.c]? = some (.cells ((A.put i s).secs.map fun x => Value.bool x.is).toArray 4 (0, 0))
theorem modify_at {α : Type} (l : List α) (i j : Nat) (f : α → α) : (l.modify i f)[j]? = if i = j then l[j]?.map f else l[j]? := by
  rw [List.getElem?_modify]
  by_cases e : i = j
  · simp [e]
  · cases l[j]? <;> simp [e]
theorem put_get (A : St) (i : Nat) (s : List UInt8) (j : Nat) (x : Sec) (h : (A.put i s).secs[j]? = some x) : ∃ y, A.secs[j]? = some y ∧ (i ≠ j → x = y) ∧ (i = j → x = put s y) := by
  simp only [St.put, modify_at] at h
  by_cases e : i = j
  · rw [if_pos e] at h
    cases hy : A.secs[j]? with
    | none => rw [hy] at h; cases h
    | some y =>
      rw [hy] at h
      exact ⟨y, rfl, fun hne => absurd e hne, fun _ => (Option.some.inj h).symm⟩
  · rw [if_neg e] at h
    exact ⟨x, h, fun _ => rfl, fun he => absurd he e⟩
theorem put_loose (A : St) (i : Nat) (s : List UInt8) : (A.put i s).secs.map (fun x => Value.bool x.is) = (A.secs.map fun x => Value.bool x.is).modify i (fun _ => Value.bool true) := by
  apply List.ext_getElem?
  intro j
  simp only [St.put, List.getElem?_map, modify_at]
  by_cases e : i = j
  · rw [if_pos e, if_pos e]
    cases A.secs[j]? <;> rfl
  · rw [if_neg e, if_neg e]
theorem Half.was (h : PD w k A) (i : Nat) (hi : i < A.n) (s : List UInt8) (hl : (A.secs.getD i none_).is = true) : Half w k A i s w := by
  obtain ⟨L, h1, h2⟩ := h.old
  refine ⟨Touch.refl _ _ _, rfl, rfl, ⟨L, ⟨h1.1.trans (n_put A i s).symm, h1.2.1, fun j x hx hxi => ?_⟩, h2⟩, ?_⟩
  · obtain ⟨y, hy, hne, he⟩ := put_get A i s j x hx
    by_cases e : i = j
    · rw [he e]
      subst e
      have : y = A.secs.getD i none_ := Option.some.inj (hy.symm.trans (h.sec i hi))
      exact h1.2.2 i y hy (by rw [this]; exact hl)
    · rw [hne e] at hxi ⊢
      exact h1.2.2 j y hy hxi
  · rw [h.loose, put_loose]
    congr 3
    apply List.ext_getElem?
    intro j
    rw [modify_at]
    by_cases e : i = j
    · subst e
      simp only [List.getElem?_map, h.sec i hi, Option.map_some, if_true, hl]
    · rw [if_neg e]
theorem Half.new (h : PD w k A) (i : Nat) (hi : i < A.n) (s : List UInt8) (hl : (A.secs.getD i none_).is = false) :
    Half w k A i s ((wrA w k.b (i * 64) (bs (A.at_ i)).toArray).setCell ⟨k.c, i, none⟩ (.bool true)).drew := by
  have ok := h.ok
  obtain ⟨L, h1, h2⟩ := h.old
  have hLi : i < L.length := by rw [h1.1]; exact hi
  have hat : (A.at_ i).length = 64 := by
    unfold St.at_
    have : A.secs.getD i none_ ∈ A.secs := by
      have hi' : i < A.secs.length := hi
      rw [List.getD_eq_getElem?_getD, List.getElem?_eq_getElem hi']
      exact List.getElem_mem _
    exact now_len (h.good.len _ this)
  have hsafe : A.at_ i = (A.secs.getD i none_).safe := by unfold St.at_ Sec.now; rw [hl]; rfl
  refine ⟨((Touch.wrA w ok.b _ _).trans (Touch.setCell _ (p := ⟨k.c, i, none⟩) ok.c _)).trans (Touch.drewN _ 1), ?_, ?_, ⟨L.set i (A.at_ i), ⟨by rw [List.length_set]; exact h1.1.trans (n_put A i s).symm, ?_, ?_⟩, ?_⟩, ?_⟩
  · show ((wrA w k.b (i * 64) (bs (A.at_ i)).toArray).setCell ⟨k.c, i, none⟩ (.bool true)).heap[k.g]? = _
    rw [Below.heap_setCell _ _ _ _ ok.gc, wrA_other ok.gb]
  · show ((wrA w k.b (i * 64) (bs (A.at_ i)).toArray).setCell ⟨k.c, i, none⟩ (.bool true)).heap[k.a]? = _
    rw [Below.heap_setCell _ _ _ _ ok.ac, wrA_other ok.ab]
  · intro x hx
    rcases List.mem_or_eq_of_mem_set hx with hx | rfl
    · exact h1.2.1 x hx
    · exact hat
  · intro j x hx hxi
    obtain ⟨y, hy, hne, he⟩ := put_get A i s j x hx
    by_cases e : i = j
    · rw [he e]
      subst e
      have : y = A.secs.getD i none_ := Option.some.inj (hy.symm.trans (h.sec i hi))
      rw [List.getElem?_set_self hLi, hsafe, this]
      rfl
    · rw [hne e] at hxi ⊢
      rw [List.getElem?_set_ne e]
      exact h1.2.2 j y hy hxi
  · show ((wrA w k.b (i * 64) (bs (A.at_ i)).toArray).setCell ⟨k.c, i, none⟩ (.bool true)).heap[k.b]? = _
    rw [Below.heap_setCell _ _ _ _ ok.bc, wrA_heap h2]
    have e := flat_splice L h1.2.1 i 0 hLi (A.at_ i) (by rw [hat]; omega)
    have hs2 : splice L[i] 0 (A.at_ i) = A.at_ i := by
      unfold splice
      rw [List.take_zero, List.nil_append, List.drop_of_length_le (by rw [hat, h1.2.1 _ (List.getElem_mem hLi)]; omega), List.append_nil]
    rw [hs2, Nat.add_zero, Nat.mul_comm] at e
    rw [← e, ← bs_splice]
  · show ((wrA w k.b (i * 64) (bs (A.at_ i)).toArray).setCell ⟨k.c, i, none⟩ (.bool true)).heap[k.c]? = _
    rw [heap_setCell_same _ k.c i _ _ _ ((wrA_other ok.bc.symm).trans h.loose), put_loose]
    congr 2
    apply Array.ext'
    rw [Array.toList_setIfInBounds]
    apply List.ext_getElem?
    intro j
    rw [modify_at]
    by_cases e : i = j
    · subst e
      rw [List.getElem?_set_self (by simpa [St.n] using hi), if_pos rfl, List.getElem?_map, h.sec i hi]
      rfl
    · rw [List.getElem?_set_ne e, if_neg e]
/-- the disk behind all of Write but the count -/
theorem Half.done {w5 w6 : World} {i : Nat} {s : List UInt8} (h : PD w k A) (hi : i < A.n) (hh : Half w k A i s w5) (ht : Touch k.a (k.a + 1) w5 w6)
    (hn : w6.heap[k.a]? = some (.cells (bs ((nowL A).set i (fill s)).flatten).toArray 83 (0, 0))) : PD w6 k (A.put i s) ∧ Touch k.lo k.hi w w6 := by
  have ok := h.ok
  have hin := h.inn
  have hz := hh.touch.size
  have st : ∀ j, k.lo ≤ j ∧ j < k.hi → j ≠ k.a → w6.heap[j]? = w5.heap[j]? := fun j hj hne => ht.block j (by omega) (by omega)
  have ht' : Touch k.lo k.hi w w6 := hh.touch.trans (ht.mono (by have := ok.a; omega) (by have := ok.a; omega))
  refine ⟨⟨ok, Nat.le_trans hin ht'.size, Good.put h.good i s, ?_, ?_, ?_, ?_⟩, ht'⟩
  · rw [st _ ok.g ok.ga, hh.head, h.head]
    unfold headV
    rw [n_put]
    rfl
  · rw [hn]
    have hnl : (nowL A).set i (fill s) = nowL (A.put i s) := by
      apply List.ext_getElem?
      intro j
      simp only [nowL, St.put, List.getElem?_map, modify_at]
      by_cases e : i = j
      · subst e
        rw [List.getElem?_set_self (by simpa [St.n] using hi), if_pos rfl, h.sec i hi]
        rfl
      · rw [List.getElem?_set_ne e, if_neg e, List.getElem?_map]
    rw [hnl]
  · obtain ⟨L, h1, h2⟩ := hh.old
    exact ⟨L, h1, (st _ ok.b ok.ab.symm).trans h2⟩
  · rw [st _ ok.c ok.ac.symm, hh.loose]
theorem PD.hasA (h : PD w k A) (i : Nat) (hi : i < A.n) : HasA w k.a (i * 64) := by
  rw [Nat.mul_comm]
  refine ⟨_, _, h.now, ?_⟩
  have hl := flat_length _ h.nowlen
  have : (nowL A).length = A.n := by simp [nowL, St.n]
  simp [bs_length, hl, this]
  omega
theorem PD.hasB (h : PD w k A) (i : Nat) (hi : i < A.n) : HasA w k.b (i * 64) := by
  rw [Nat.mul_comm]
  obtain ⟨L, h1, h2⟩ := h.old
  refine ⟨_, _, h2, ?_⟩
  have hl := flat_length _ h1.2.1
  simp [bs_length, hl, h1.1]
  omega
theorem PD.read (h : PD w k A) (i : Nat) (hi : i < A.n) : rdA w k.a (i * 64) = (bs (A.at_ i)).toArray := by
  rw [Nat.mul_comm]
  have hi' : i < (nowL A).length := by simpa [nowL, St.n] using hi
  unfold rdA cellsIn
  rw [h.now]
  have e : (bs (nowL A).flatten).toArray.extract (64 * i) (64 * i + 64) = (bs (((nowL A).flatten.drop (64 * i)).take 64)).toArray := by
    apply Array.ext'
    simp [bs, List.map_take, List.map_drop]
  show (bs (nowL A).flatten).toArray.extract (64 * i) (64 * i + 64) = _
  rw [e, flat_sector _ h.nowlen i hi']
  congr 2
  simp [nowL, St.at_, List.getD_eq_getElem?_getD, show i < A.secs.length from hi]
end
end Go.Proofs.Ytpjpncfoenadhaa
