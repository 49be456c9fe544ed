/- A region that draws its order, all of whose operations read, or make new memory: each operation has a plan (what its value is, in which worlds); plans stand where only new memory comes. Each operation is shown once, in whatever order they come. Over any program; no condition. -/
import Derived.Orders
import Derived.Below
import Derived.Calls
namespace Go.Proofs.Ytpjpncfoenadhaa.Plan
open Go.RowKit

section
variable {P : Program} {ops : Array Oper} {Q : Exit → Act → World → Prop}

/-- what an operation leaves -/
abbrev Plan := Nat → Value → World → Prop
def Stable (plan : Plan) : Prop := ∀ i v w w', plan i v w → Below w.heap.size w w' → plan i v w'
def dsts (ops : Array Oper) : List Nat := ops.toList.filterMap (·.dst)
structure Frame (ops : Array Oper) (a0 a : Act) : Prop where
  defers : a.defers = a0.defers
  size : a.tmps.size = a0.tmps.size
  rest : ∀ t, t ∉ dsts ops → a.tmps[t]? = a0.tmps[t]?
def Has (ops : Array Oper) (plan : Plan) (j : Nat) (a : Act) (w : World) : Prop := ∀ o d, ops[j]? = some o → o.dst = some d → ∃ v, a.tmps[d]? = some v ∧ plan j v w
structure Inv (ops : Array Oper) (plan : Plan) (a0 : Act) (w0 : World) (listed : Array Bool) (a : Act) (w : World) : Prop where
  frame : Frame ops a0 a
  below : Below w0.heap.size w0 w
  size : listed.size = ops.size
  has : ∀ j, listed.getD j false = true → Has ops plan j a w

theorem dst_mem {i : Nat} {o : Oper} {d : Nat} (h : ops[i]? = some o) (hd : o.dst = some d) : d ∈ dsts ops := by
  unfold dsts
  rw [List.mem_filterMap]
  exact ⟨o, by rw [Array.mem_toList_iff]; exact Array.mem_of_getElem? h, hd⟩
/-- what each operation owes -/
def Step (P : Program) (ops : Array Oper) (Q : Exit → Act → World → Prop) (plan : Plan) (a0 : Act) (w0 : World) (i : Nat) (o : Oper) (d : Nat) : Prop :=
  ∀ a w, Frame ops a0 a → Below w0.heap.size w0 w → (∀ e ∈ o.after, Region.binds .any e = true → Has ops plan e.on a w) →
    ∀ K : Act → World → Prop, (∀ v w', Below w.heap.size w w' → plan i v w' → K (a.put (some d) v) w') → o.wp P a w K Q

theorem all_listed (hacy : ∀ (i : Nat) (o : Oper), ops[i]? = some o → ∀ e ∈ o.after, e.on < i) {listed : Array Bool} (hs : listed.size = ops.size) (h : Region.ready .any ops listed = []) :
    ∀ j, j < ops.size → listed.getD j false = true := by
  intro j
  induction j using Nat.strongRecOn with
  | _ j ih =>
    intro hj
    cases hb : listed.getD j false with
    | true => rfl
    | false =>
      have hm : j ∈ Region.ready .any ops listed := by
        rw [mem_ready]
        refine ⟨?_, ops[j], Array.getElem?_eq_getElem hj, fun e he _ => ?_⟩
        · have hl : j < listed.size := by omega
          simp only [Array.getD_eq_getD_getElem?, Array.getElem?_eq_getElem hl, Option.getD_some] at hb ⊢
          exact hb
        · have := hacy j _ (Array.getElem?_eq_getElem hj) e he
          exact ih e.on this (by omega)
      rw [h] at hm
      cases hm

theorem put_rest {a : Act} {d t : Nat} {v : Value} (h : t ≠ d) : (a.put (some d) v).tmps[t]? = a.tmps[t]? := by
  unfold Act.put
  exact Array.getElem?_setIfInBounds_ne (Ne.symm h)

theorem count_step {listed : Array Bool} {i n : Nat} (h : listed.toList.count false ≤ n + 1) (hi : listed.getD i true = false) : (listed.setIfInBounds i true).toList.count false ≤ n := by
  have hl : i < listed.size := by
    rcases Nat.lt_or_ge i listed.size with h | h
    · exact h
    · simp [Array.getD_eq_getD_getElem?, Array.getElem?_eq_none h] at hi
  have hg : listed.toList[i]'(by simpa using hl) = false := by
    simpa [Array.getD_eq_getD_getElem?, Array.getElem?_eq_getElem hl] using hi
  rw [Array.toList_setIfInBounds, List.count_set (by simpa using hl), hg]
  simp [-Array.count_toList]
  omega

theorem wpAny_plan {plan : Plan} {a0 : Act} {w0 : World} (hst : Stable plan) (hacy : ∀ (i : Nat) (o : Oper), ops[i]? = some o → ∀ e ∈ o.after, e.on < i) (hdist : ∀ (i j : Nat) (o o' : Oper) (d : Nat), ops[i]? = some o → ops[j]? = some o' → o.dst = some d → o'.dst = some d → i = j)
    (hstep : ∀ (i : Nat) (o : Oper), ops[i]? = some o → o.guard = none ∧ ∃ d, o.dst = some d ∧ d < a0.tmps.size ∧ Step P ops Q plan a0 w0 i o d)
    (hend : ∀ a w, Frame ops a0 a → Below w0.heap.size w0 w → (∀ j, j < ops.size → Has ops plan j a w) → Q .normal a w) :
    ∀ (fuel : Nat) (listed : Array Bool) (a : Act) (w : World), Inv ops plan a0 w0 listed a w → listed.toList.count false ≤ fuel → wpAny P .any ops Q fuel listed a w := by
  have hfin : ∀ listed a w, Inv ops plan a0 w0 listed a w → Region.ready .any ops listed = [] → Q .normal a w := fun listed a w hI hr =>
    hend a w hI.frame hI.below (fun j hj => hI.has j (all_listed hacy hI.size hr j hj))
  intro fuel
  induction fuel with
  | zero =>
    intro listed a w hI hc
    have hr : Region.ready .any ops listed = [] := by
      cases h : Region.ready .any ops listed with
      | nil => rfl
      | cons j l =>
        have hj : j ∈ Region.ready .any ops listed := by rw [h]; exact List.mem_cons_self
        obtain ⟨h0, _⟩ := mem_ready.1 hj
        have hm : false ∈ listed.toList := by
          rcases Nat.lt_or_ge j listed.size with hl | hl
          · simp only [Array.getD_eq_getD_getElem?, Array.getElem?_eq_getElem hl, Option.getD_some] at h0
            rw [← h0, Array.mem_toList_iff]
            exact Array.getElem_mem hl
          · simp [Array.getD_eq_getD_getElem?, Array.getElem?_eq_none hl] at h0
        have := List.count_pos_iff.2 hm
        omega
    exact ⟨hr, hfin _ _ _ hI hr⟩
  | succ fuel ih =>
    intro listed a w hI hc
    refine ⟨fun hr => hfin _ _ _ hI hr, fun i hi => ?_⟩
    obtain ⟨h0, o, ho, hall⟩ := mem_ready.1 hi
    obtain ⟨hg, d, hd, hdl, hS⟩ := hstep i o ho
    have hw : Region.wanted o (yielded ops a.tmps) = true := by simp [Region.wanted, hg]
    unfold wpOp
    rw [ho]
    show if Region.wanted o (yielded ops a.tmps) = true then _ else _
    rw [if_pos hw]
    refine .inl (hS a w hI.frame hI.below (fun e he hb => hI.has _ (hall e he hb)) _ fun v w' hb hp => ih _ _ _ ?_ (count_step hc h0))
    refine ⟨⟨hI.frame.defers, ?_, fun t ht => ?_⟩, hI.below.trans (hb.mono hI.below.size), ?_, fun j hj => ?_⟩
    · rw [← hI.frame.size]
      simp [Act.put]
    · rw [put_rest (fun e => ht (by rw [e]; exact dst_mem ho hd))]
      exact hI.frame.rest t ht
    · rw [Array.size_setIfInBounds]
      exact hI.size
    · intro o' d' ho' hd'
      by_cases e : j = i
      · subst e
        rw [ho] at ho'
        cases ho'
        rw [hd] at hd'
        cases hd'
        refine ⟨v, ?_, hp⟩
        unfold Act.put
        exact Array.getElem?_setIfInBounds_self_of_lt (by rw [hI.frame.size]; exact hdl)
      · rw [getD_set_ne false (Ne.symm e)] at hj
        obtain ⟨v', h1, h2⟩ := hI.has j hj o' d' ho' hd'
        exact ⟨v', by rw [put_rest (fun e2 => e (hdist j i o' o d' ho' ho hd' (by rw [e2]; exact hd)))]; exact h1, hst _ _ _ _ h2 hb⟩

/-- the region, whole -/
theorem wp_region_plan {id : Nat} {plan : Plan} {a0 : Act} {w : World} (hm : P.follows .mixedOrders = true) (hst : Stable plan) (hacy : ∀ (i : Nat) (o : Oper), ops[i]? = some o → ∀ e ∈ o.after, e.on < i)
    (hdist : ∀ (i j : Nat) (o o' : Oper) (d : Nat), ops[i]? = some o → ops[j]? = some o' → o.dst = some d → o'.dst = some d → i = j)
    (hstep : ∀ (i : Nat) (o : Oper), ops[i]? = some o → o.guard = none ∧ ∃ d, o.dst = some d ∧ d < a0.tmps.size ∧ Step P ops Q plan a0 w.drew i o d)
    (hend : ∀ a w', Frame ops a0 a → Below w.drew.heap.size w.drew w' → (∀ j, j < ops.size → Has ops plan j a w') → Q .normal a w') : (Code.region id ops true).wp P Q a0 w := by
  refine wp_region_any hm (wpAny_plan (w0 := w.drew) hst hacy hdist hstep hend _ _ _ _ ⟨⟨rfl, rfl, fun _ _ => rfl⟩, Below.refl _ _, by simp, fun j hj => ?_⟩ ?_)
  · rw [Array.getD_eq_getD_getElem?] at hj
    by_cases h : j < ops.size
    · rw [Array.getElem?_eq_getElem (by simpa using h)] at hj
      simp at hj
    · rw [Array.getElem?_eq_none (by simpa using Nat.le_of_not_lt h)] at hj
      simp at hj
  · rw [Array.toList_replicate, List.count_replicate]
    simp
/-- the frame behind the region, in the walk's own form -/
def putAll (a0 : Act) (f : Nat → Value) : List Nat → Act
  | [] => a0
  | d :: r => (putAll a0 f r).put (some d) (f d)
theorem putAll_size (a0 : Act) (f : Nat → Value) : ∀ l, (putAll a0 f l).tmps.size = a0.tmps.size
  | [] => rfl
  | d :: r => by
    rw [putAll, ← putAll_size a0 f r]
    simp [Act.put]
theorem putAll_defers (a0 : Act) (f : Nat → Value) : ∀ l, (putAll a0 f l).defers = a0.defers
  | [] => rfl
  | d :: r => by
    rw [putAll, ← putAll_defers a0 f r]
    rfl
theorem putAll_get (a0 : Act) (f : Nat → Value) (t : Nat) (ht : t < a0.tmps.size) : ∀ l, (putAll a0 f l).tmps[t]? = if t ∈ l then some (f t) else a0.tmps[t]?
  | [] => by simp [putAll]
  | d :: r => by
    rw [putAll]
    by_cases e : t = d
    · subst e
      rw [if_pos List.mem_cons_self]
      unfold Act.put
      exact Array.getElem?_setIfInBounds_self_of_lt (by rw [putAll_size]; exact ht)
    · rw [put_rest e, putAll_get a0 f t ht r]
      by_cases hm : t ∈ r
      · rw [if_pos hm, if_pos (List.mem_cons_of_mem _ hm)]
      · rw [if_neg hm, if_neg (fun h => by rcases List.mem_cons.1 h with h | h <;> contradiction)]
theorem Frame.lit {a0 a : Act} (h : Frame ops a0 a) : a = putAll a0 (fun d => a.eval (.tmp d)) (dsts ops) := by
  have hs : a.tmps = (putAll a0 (fun d => a.eval (.tmp d)) (dsts ops)).tmps := by
    apply Array.ext_getElem?
    intro t
    by_cases ht : t < a0.tmps.size
    · rw [putAll_get a0 _ t ht]
      split
      · show _ = some (a.tmps.getD t undef)
        rw [Array.getD_eq_getD_getElem?, Array.getElem?_eq_getElem (by rw [h.size]; exact ht)]
        rfl
      · exact h.rest t (by assumption)
    · rw [Array.getElem?_eq_none (by rw [h.size]; omega), Array.getElem?_eq_none (by rw [putAll_size]; omega)]
  have hd : a.defers = (putAll a0 (fun d => a.eval (.tmp d)) (dsts ops)).defers := by rw [putAll_defers]; exact h.defers
  cases a
  cases hq : putAll a0 _ (dsts ops) with
  | mk t2 d2 =>
    rw [hq] at hs hd
    simp only at hs hd
    rw [hs, hd]
theorem Frame.eval {a0 a : Act} (h : Frame ops a0 a) {t : Nat} {v : Value} (hn : (dsts ops).contains t = false) (hv : a0.tmps[t]? = some v) : a.eval (.tmp t) = v := by
  have e := h.rest t (fun hm => by rw [List.contains_iff_mem.2 hm] at hn; cases hn)
  show a.tmps.getD t undef = v
  rw [Array.getD_eq_getD_getElem?, e, hv]
  rfl
theorem Has.eval {plan : Plan} {j : Nat} {a : Act} {w : World} (h : Has ops plan j a w) {d : Nat} (hd : (ops[j]?).bind (·.dst) = some d) : plan j (a.eval (.tmp d)) w := by
  cases ho : ops[j]? with
  | none => rw [ho] at hd; cases hd
  | some o =>
    rw [ho] at hd
    obtain ⟨v, h1, h2⟩ := h o d ho hd
    have e : a.eval (.tmp d) = v := by
      show a.tmps.getD d undef = v
      rw [Array.getD_eq_getD_getElem?, h1]
      rfl
    rw [e]
    exact h2
theorem Has.at_ {plan : Plan} {j : Nat} {a : Act} {w : World} (h : Has ops plan j a w) {d : Nat} (hd : (ops[j]?).bind (·.dst) = some d) : plan j ((a.tmps[d]?).getD undef) w := by
  have := h.eval hd
  rwa [show a.eval (.tmp d) = (a.tmps[d]?).getD undef from Array.getD_eq_getD_getElem? ..] at this
theorem of_after {plan : Plan} {o : Oper} {a : Act} {w : World} (hP : ∀ e ∈ o.after, Region.binds .any e = true → Has ops plan e.on a w) (n : Nat) (h : (o.after.toList.any fun e => e.on == n && Region.binds .any e) = true) : Has ops plan n a w := by
  obtain ⟨e, he, hb⟩ := List.any_eq_true.1 h
  simp only [Bool.and_eq_true, beq_iff_eq] at hb
  rw [← hb.1]
  exact hP e (by rwa [Array.mem_toList_iff] at he) hb.2
theorem wp_of_run {o : Oper} {a : Act} {w w' : World} {v : Value} {K : Act → World → Prop} (h : (execOp a.eval o).run P w = .ok (.value v) w') (hK : K (a.put o.dst v) w') : o.wp P a w K Q := by
  unfold Oper.wp
  rw [h]
  exact hK
/-- one operation after the other -/
def Each (f : Nat → Oper → Prop) : List Oper → Nat → Prop
  | [], _ => True
  | o :: r, n => f n o ∧ Each f r (n + 1)
theorem each_of {f : Nat → Oper → Prop} : ∀ (l : List Oper) (n : Nat), Each f l n → ∀ (i : Nat) (o : Oper), l[i]? = some o → f (n + i) o
  | [], _, _, i, o, h => by simp at h
  | x :: r, n, hh, 0, o, h => by
    simp at h
    subst h
    exact hh.1
  | x :: r, n, hh, i + 1, o, h => by
    have := each_of r (n + 1) hh.2 i o (by simpa using h)
    rwa [show n + (i + 1) = n + 1 + i by omega]
theorem each_arr {f : Nat → Oper → Prop} (l : List Oper) (h : Each f l 0) (i : Nat) (o : Oper) (ho : l.toArray[i]? = some o) : f i o := by
  have := each_of l 0 h i o (by simpa using ho)
  rwa [Nat.zero_add] at this
def acyB (ops : Array Oper) : Bool := (List.range ops.size).all fun i => ((ops[i]?).map fun o => o.after.all fun e => decide (e.on < i)).getD true
def distB (ops : Array Oper) : Bool := (List.range ops.size).all fun i => (List.range ops.size).all fun j => i == j || (ops[i]?).bind (·.dst) != (ops[j]?).bind (·.dst)
theorem acy_of (h : acyB ops = true) (i : Nat) (o : Oper) (ho : ops[i]? = some o) : ∀ e ∈ o.after, e.on < i := by
  intro e he
  have hi : i < ops.size := (Array.getElem?_eq_some_iff.1 ho).1
  have := List.all_eq_true.1 h i (List.mem_range.2 hi)
  rw [ho] at this
  have h2 := Array.all_eq_true_iff_forall_mem.1 this e he
  exact of_decide_eq_true h2
theorem dist_of (h : distB ops = true) (i j : Nat) (o o' : Oper) (d : Nat) (ho : ops[i]? = some o) (ho' : ops[j]? = some o') (hd : o.dst = some d) (hd' : o'.dst = some d) : i = j := by
  have hi : i < ops.size := (Array.getElem?_eq_some_iff.1 ho).1
  have hj : j < ops.size := (Array.getElem?_eq_some_iff.1 ho').1
  have := List.all_eq_true.1 (List.all_eq_true.1 h i (List.mem_range.2 hi)) j (List.mem_range.2 hj)
  rw [ho, ho'] at this
  simpa [hd, hd'] using this
/-- the region, with its checks as Bools and its operations as a list -/
theorem wp_region_each {id : Nat} {plan : Plan} {a0 : Act} {w : World} {l : List Oper} (hm : P.follows .mixedOrders = true) (hst : Stable plan) (hacy : acyB l.toArray = true) (hdist : distB l.toArray = true)
    (hstep : Each (fun i o => o.guard = none ∧ ∃ d, o.dst = some d ∧ d < a0.tmps.size ∧ Step P l.toArray Q plan a0 w.drew i o d) l 0)
    (hend : ∀ a w', Frame l.toArray a0 a → Below w.drew.heap.size w.drew w' → (∀ j, j < l.toArray.size → Has l.toArray plan j a w') → Q .normal a w') : (Code.region id l.toArray true).wp P Q a0 w :=
  wp_region_plan hm hst (acy_of hacy) (dist_of hdist) (each_arr l hstep) hend
end
end Go.Proofs.Ytpjpncfoenadhaa.Plan
