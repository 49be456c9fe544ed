/- The program's Crash: what it does. Conditions: the disk lies in memory as XDiskMem says, the crash's list of bools lies below it. -/
import Derived.Test.YtpjpncfoenadhaaArr
import Derived.StillTailTactics
import Derived.RangeFuncRecord
namespace Go.Proofs.Ytpjpncfoenadhaa
open Go.RowKit Dk

theorem block_add (a : Addr) (i : Nat) : (a.add i).block = a.block := by unfold Addr.add; split <;> rfl
/-- a list of bools in memory, in blocks below lo -/
def Bools (lo : Nat) (w : World) (A : Option Addr) (len : Nat) (l : List Bool) : Prop :=
  len ≤ maxLen ∧ l.length = len ∧ ∀ k, k < len → ∃ ad, A = some ad ∧ ad.block < lo ∧ ad.block < w.heap.size ∧ w.cell? (ad.add k) = some (.bool (l.getD k false))
theorem Bools.touch {lo lo' hi : Nat} {w w' : World} {A : Option Addr} {len : Nat} {l : List Bool} (h : Bools lo w A len l) (ht : Touch lo' hi w w') (hl : lo ≤ lo') : Bools lo w' A len l := by
  refine ⟨h.1, h.2.1, fun k hk => ?_⟩
  obtain ⟨ad, h1, h2, h3, h4⟩ := h.2.2 k hk
  refine ⟨ad, h1, h2, Nat.lt_of_lt_of_le h3 ht.size, ?_⟩
  rw [World.cell?_of_block (w := w) (a := ad.add k) (ht.block _ (by rw [block_add]; exact h3) (.inl (by rw [block_add]; omega)))]
  exact h4
theorem Bools.lift {lo lo' : Nat} {w : World} {A : Option Addr} {len : Nat} {l : List Bool} (h : Bools lo w A len l) (hl : lo ≤ lo') : Bools lo' w A len l :=
  ⟨h.1, h.2.1, fun k hk => by
    obtain ⟨ad, h1, h2, h3, h4⟩ := h.2.2 k hk
    exact ⟨ad, h1, by omega, h3, h4⟩⟩
/-- the crash that the closure holds -/
structure Box (w : World) (b : Nat) (A : Option Addr) (len cap : Nat) (c : Cr) : Prop where
  c0 : w.cell? ⟨b, 0, none⟩ = some (.slice A len cap)
  c1 : w.cell? ⟨b, 1, none⟩ = some (.int .i64 c.torn)
  c2 : w.cell? ⟨b, 2, none⟩ = some (.int .i64 c.bytes)

set_option maxHeartbeats 1000000 in
theorem left_any {w : World} {b lo : Nat} {A : Option Addr} {len cap : Nat} {c : Cr} (j : Nat) (hb : Box w b A len cap c) (hk : Bools lo w A len c.keep) (_hj : j ≤ 4096) :
    Calls Try.prog 50 #[.int .i64 j, .pointer (some ⟨b, 0, none⟩)] w fun e w' => e = .returned (.int .i64 (c.k j : Nat)) ∧ w = w' := by
  obtain ⟨c0, c1, c2⟩ := hb
  obtain ⟨hl, hll, hk⟩ := hk
  have hm : maxLen = 9223372036854775807 := rfl
  rw [hm] at hl
  by_cases ht : (j : Int) = c.torn
  · have hR : c.k j = (max c.bytes 0 % 65).toNat := by unfold Cr.k; rw [if_pos ht]
    have HR := Lib.hid hR
    have e0 : ((j : Int) == c.torn) = true := by rw [beq_iff_eq]; exact ht
    clear hR ht hk
    go_enter Try.func50, Try.ntmps50
    go_wp2_with fail
    all_goals
      go_ret
      refine ⟨?_, rfl⟩
      show Ending.returned (.int .i64 _) = _
      refine ret_int ?_
      rw [HR.out]
      omega
  · have e0 : ((j : Int) == c.torn) = false := by rw [beq_eq_false_iff_ne]; exact ht
    by_cases hlt : j < len
    · obtain ⟨ad, rfl, _, _, hcell⟩ := hk j hlt
      have HR := Lib.hid (show c.k j = if c.keep.getD j false then 64 else 0 by unfold Cr.k; rw [if_neg ht])
      clear hk ht
      cases hv : c.keep.getD j false
      · rw [hv] at hcell HR
        clear hv
        go_enter Try.func50, Try.ntmps50
        go_wp2_with fail
        go_ret
        rw [HR.out]
        exact ⟨rfl, rfl⟩
      · rw [hv] at hcell HR
        clear hv
        go_enter Try.func50, Try.ntmps50
        go_wp2_with fail
        go_ret
        rw [HR.out]
        exact ⟨rfl, rfl⟩
    · have HR := Lib.hid (show c.k j = 0 by
        unfold Cr.k
        rw [if_neg ht, List.getD_eq_getElem?_getD, List.getElem?_eq_none (by omega)]
        rfl)
      clear hk ht
      go_enter Try.func50, Try.ntmps50
      go_wp2_with fail
      go_ret
      rw [HR.out]
      exact ⟨rfl, rfl⟩

/-! one loose sector -/
def Dk.St.mixAt (A : St) (i kk : Nat) : St := { A with secs := A.secs.modify i (mix kk) }
theorem n_mixAt (A : St) (i kk : Nat) : (A.mixAt i kk).n = A.n := by simp [St.mixAt, St.n]
theorem PD.mixed {w w' : World} {k : DB} {A : St} {i kk : Nat} {L : List (List UInt8)} (h : PD w k A) (hi : i < A.n) (hl : (A.secs.getD i none_).is = true) (hkk : kk ≤ 64) (hL : OldOf A L)
    (ht : Touch k.a (k.a + 1) w w') (hn : w'.heap[k.a]? = some (.cells (splice (bs (nowL A).flatten) (i * 64 + kk) (bs ((L.getD i []).drop kk))).toArray 83 (0, 0))) :
    PD (w'.setCell ⟨k.c, i, none⟩ (.bool false)) k (A.mixAt i kk) ∧ Touch k.lo k.hi w (w'.setCell ⟨k.c, i, none⟩ (.bool false)) := by
  have ok := h.ok
  have hin := h.inn
  have hx := h.sec i hi
  generalize A.secs.getD i none_ = x at *
  have hxl := h.good.len x (List.mem_of_getElem? hx)
  have hLi : L[i]? = some x.safe := hL.2.2 i x hx hl
  have hmi : ∀ j y, (A.mixAt i kk).secs[j]? = some y → (i ≠ j ∧ A.secs[j]? = some y) ∨ (i = j ∧ y = mix kk x) := by
    intro j y hy
    simp only [St.mixAt, modify_at] at hy
    by_cases e : i = j
    · subst e
      rw [if_pos rfl, hx] at hy
      exact .inr ⟨rfl, (Option.some.inj hy).symm⟩
    · rw [if_neg e] at hy
      exact .inl ⟨e, hy⟩
  have st : ∀ j, k.lo ≤ j ∧ j < k.hi → j ≠ k.a → w'.heap[j]? = w.heap[j]? := fun j hj hne => ht.block j (by omega) (by omega)
  have st2 : ∀ j, j ≠ k.c → (w'.setCell ⟨k.c, i, none⟩ (.bool false)).heap[j]? = w'.heap[j]? := fun j hj => Below.heap_setCell _ _ _ _ hj
  have ht' : Touch k.lo k.hi w (w'.setCell ⟨k.c, i, none⟩ (.bool false)) :=
    (ht.mono (by have := ok.a; omega) (by have := ok.a; omega)).trans (Touch.setCell w' (p := ⟨k.c, i, none⟩) ok.c _)
  obtain ⟨L0, h1, h2⟩ := h.old
  refine ⟨⟨ok, Nat.le_trans hin ht'.size, ⟨?_, h.good.arm0, h.good.arm1, by simpa [St.mixAt] using h.good.big⟩, ?_, ?_, ⟨L0, ⟨h1.1.trans (n_mixAt A i kk).symm, h1.2.1, ?_⟩, ?_⟩, ?_⟩, ht'⟩
  · intro y hy
    obtain ⟨j, hj⟩ := List.mem_iff_getElem?.1 hy
    rcases hmi j y hj with ⟨_, h3⟩ | ⟨_, rfl⟩
    · exact h.good.len y (List.mem_of_getElem? h3)
    · exact mix_len kk x hxl hkk
  · rw [st2 _ ok.gc, st _ ok.g ok.ga, h.head]
    unfold headV
    rw [n_mixAt]
    rfl
  · rw [st2 _ ok.ac, hn]
    have hi' : i < (nowL A).length := by rw [h.nowl]; exact hi
    have hd : (L.getD i []).drop kk = x.safe.drop kk := by rw [List.getD_eq_getElem?_getD, hLi]; rfl
    have hnx : (nowL A)[i] = x.new := by
      have : (nowL A)[i]? = some x.now := by simp only [nowL, List.getElem?_map, hx]; rfl
      rw [List.getElem?_eq_getElem hi'] at this
      rw [Option.some.inj this]
      unfold Sec.now
      rw [hl]
      rfl
    have e := flat_splice (nowL A) h.nowlen i kk hi' (x.safe.drop kk) (by rw [List.length_drop, hxl.1]; omega)
    rw [hd, bs_splice, Nat.mul_comm, e]
    congr 4
    apply congrArg
    have hs : splice (nowL A)[i] kk (x.safe.drop kk) = (mix kk x).safe := by
      rw [hnx]
      unfold splice mix
      rw [List.length_drop, hxl.1, List.drop_of_length_le (l := x.new) (by rw [hxl.2]; omega), List.append_nil]
    rw [hs]
    apply List.ext_getElem?
    intro j
    simp only [nowL, St.mixAt, List.getElem?_map, modify_at]
    by_cases e : i = j
    · subst e
      rw [List.getElem?_set_self (by simpa [St.n] using hi), if_pos rfl, hx]
      rfl
    · rw [List.getElem?_set_ne e, if_neg e, List.getElem?_map]
  · intro j y hy hyi
    rcases hmi j y hy with ⟨_, h3⟩ | ⟨_, rfl⟩
    · exact h1.2.2 j y h3 hyi
    · cases hyi
  · rw [st2 _ ok.bc, st _ ok.b ok.ab.symm, h2]
  · rw [heap_setCell_same _ k.c i _ _ _ ((st _ ok.c ok.ac.symm).trans h.loose)]
    congr 2
    apply Array.ext'
    rw [Array.toList_setIfInBounds]
    apply List.ext_getElem?
    intro j
    simp only [St.mixAt, List.getElem?_map, modify_at]
    by_cases e : i = j
    · subst e
      rw [List.getElem?_set_self (by simpa [St.n] using hi), if_pos rfl, hx]
      rfl
    · rw [List.getElem?_set_ne e, if_neg e, List.getElem?_map]

/-! a part of the crash -/
def Dk.St.part (A : St) (c : Cr) (i : Nat) : St := { A with secs := crashL c 0 (A.secs.take i) ++ A.secs.drop i }
def upTo (A : St) (i : Nat) : Nat := looseL (A.secs.take i)
theorem crashL_snoc (c : Cr) (x : Sec) : ∀ (l : List Sec) (j : Nat), crashL c j (l ++ [x]) = crashL c j l ++ [if x.is then mix (c.k (j + looseL l)) x else x]
  | [], j => by
    simp only [List.nil_append, crashL, looseL, List.countP_nil, Nat.add_zero]
    split <;> simp_all
  | y :: r, j => by
    rw [List.cons_append, crashL, crashL]
    cases hy : y.is
    · simp only [Bool.false_eq_true, if_false, crashL_snoc c x r j, List.cons_append, looseL, List.countP_cons, hy, Nat.add_zero]
    · simp only [if_true, crashL_snoc c x r (j + 1), List.cons_append, looseL, List.countP_cons, hy]
      rw [show j + 1 + List.countP (fun z : Sec => z.is) r = j + (List.countP (fun z : Sec => z.is) r + 1) by omega]
theorem part_zero (A : St) (c : Cr) : A.part c 0 = A := by simp [St.part, crashL]
theorem n_part (A : St) (c : Cr) (i : Nat) : (A.part c i).n = A.n := by
  simp only [St.part, St.n, List.length_append, crashL_length, List.length_take, List.length_drop]
  omega
theorem part_at (A : St) (c : Cr) (i : Nat) (hi : i < A.n) : (A.part c i).secs.getD i none_ = A.secs.getD i none_ := by
  have hi' : i < A.secs.length := hi
  simp only [St.part, List.getD_eq_getElem?_getD]
  rw [List.getElem?_append_right (by rw [crashL_length, List.length_take]; omega), crashL_length, List.length_take, List.getElem?_drop]
  congr 2
  omega
theorem modify_mid {α : Type} (y : α) (r : List α) (f : α → α) : ∀ l : List α, (l ++ y :: r).modify l.length f = l ++ f y :: r
  | [] => rfl
  | z :: l => by
    rw [List.cons_append, List.length_cons, List.modify_succ_cons, modify_mid y r f l]
    rfl
theorem part_sec (A : St) (c : Cr) (i : Nat) (x : Sec) (hx : A.secs[i]? = some x) : (A.part c (i + 1)).secs = (A.part c i).secs.modify i (fun y => if x.is then mix (c.k (upTo A i)) y else y) := by
  have hi : i < A.secs.length := (List.getElem?_eq_some_iff.1 hx).1
  have hxe : A.secs[i] = x := (List.getElem?_eq_some_iff.1 hx).2
  have ht : A.secs.take (i + 1) = A.secs.take i ++ [x] := by rw [List.take_succ_eq_append_getElem hi, hxe]
  have hd : A.secs.drop i = x :: A.secs.drop (i + 1) := by rw [List.drop_eq_getElem_cons hi, hxe]
  have hl : (crashL c 0 (A.secs.take i)).length = i := by rw [crashL_length, List.length_take]; omega
  simp only [Dk.St.part, ht, hd, crashL_snoc, Nat.zero_add]
  have hm := modify_mid x (A.secs.drop (i + 1)) (fun y => if x.is then mix (c.k (upTo A i)) y else y) (crashL c 0 (A.secs.take i))
  rw [hl] at hm
  rw [hm, List.append_assoc]
  rfl
theorem part_keep (A : St) (c : Cr) (i : Nat) (x : Sec) (hx : A.secs[i]? = some x) (h : x.is = false) : A.part c (i + 1) = A.part c i := by
  have e := part_sec A c i x hx
  rw [h] at e
  have e2 : (A.part c (i + 1)).secs = (A.part c i).secs := by
    rw [e]
    apply List.ext_getElem?
    intro j
    rw [modify_at]
    split
    · cases (A.part c i).secs[j]? <;> rfl
    · rfl
  simp only [Dk.St.part] at e2 ⊢
  rw [e2]
theorem part_mix (A : St) (c : Cr) (i : Nat) (x : Sec) (hx : A.secs[i]? = some x) (h : x.is = true) : A.part c (i + 1) = (A.part c i).mixAt i (c.k (upTo A i)) := by
  have e := part_sec A c i x hx
  rw [h] at e
  unfold Dk.St.mixAt
  rw [show (A.part c i).secs.modify i (mix (c.k (upTo A i))) = (A.part c (i + 1)).secs from e.symm]
  rfl
theorem part_all (A : St) (c : Cr) : (A.part c A.n).secs = crashL c 0 A.secs := by
  simp [Dk.St.part, St.n]
theorem upTo_succ (A : St) (i : Nat) (x : Sec) (hx : A.secs[i]? = some x) : upTo A (i + 1) = upTo A i + if x.is then 1 else 0 := by
  have hi : i < A.secs.length := (List.getElem?_eq_some_iff.1 hx).1
  have hxe : A.secs[i] = x := (List.getElem?_eq_some_iff.1 hx).2
  unfold upTo looseL
  rw [List.take_succ_eq_append_getElem hi, hxe, List.countP_append, List.countP_singleton]
theorem upTo_le (A : St) (i : Nat) : upTo A i ≤ i := by
  unfold upTo looseL
  exact Nat.le_trans (List.countP_le_length) (by rw [List.length_take]; omega)

def boxV (P : Option Addr) (len cap : Nat) (t b : Int) : Obj := .cells #[.slice P len cap, .int .i64 t, .int .i64 b] 25 (0, 0)
theorem Box.touch {w w' : World} {b lo hi : Nat} {A : Option Addr} {len cap : Nat} {c : Cr} (h : Box w b A len cap c) (ht : Touch lo hi w w') (hb : hi ≤ b) : Box w' b A len cap c := by
  have hs : b < w.heap.size := block_lt_of_cell h.c0
  have e := fun j => World.cell?_of_block (w := w) (w' := w') (a := ⟨b, j, none⟩) (ht.block b hs (.inr hb))
  exact ⟨(e 0).trans h.c0, (e 1).trans h.c1, (e 2).trans h.c2⟩
theorem Box.new (w : World) (P : Option Addr) (len cap : Nat) (c : Cr) : Box (w.alloc (boxV P len cap c.torn c.bytes)) w.heap.size P len cap c := by
  have hb : (w.alloc (boxV P len cap c.torn c.bytes)).heap[w.heap.size]? = some (boxV P len cap c.torn c.bytes)  := World.alloc_heap_new w _
  exact ⟨cell_of_row _ _ 0 _ _ (0, 0) hb, cell_of_row _ _ 1 _ _ (0, 0) hb, cell_of_row _ _ 2 _ _ (0, 0) hb⟩
set_option maxRecDepth 100000 in
set_option maxHeartbeats 1000000 in
theorem crash_nil (w : World) (A : Option Addr) (len cap : Nat) (t b : Int) : Calls Try.prog 17 #[.pointer none, .agg #[.slice A len cap, .int .i64 t, .int .i64 b]] w fun e w' => e = .returned (.int .i64 1) ∧ Below w.heap.size w w' := by
  go_enter Try.func17, Try.ntmps17
  go_wp2_with fail
  go_ret
  exact ⟨rfl, (Below.refl _ w).alloc (Nat.le_refl _) _⟩
/-- 'd.now[i][k:]' -/
def cut64 (g off kk : Nat) : Value := .slice (some (if 64 = kk then ⟨g, off, none⟩ else ⟨g, off + kk, none⟩)) (64 - kk) (64 - kk)
set_option maxRecDepth 100000 in
theorem cut_run (w : World) (kk : Nat) (h : kk ≤ 64) (g off : Nat) : (Instr.sliceAt 83 (.pointer (some ⟨g, off, none⟩)) (some (.int .i64 kk)) none none).run Try.prog w = .ok (cut64 g off kk) w := by
  have hl : Try.prog.arrayLen 83 = 64 := by kernel_rfl
  have hu : Try.prog.underlying 83 = some (.array (Try.prog.arrayLen 83) (Try.prog.elem 83)) := by kernel_rfl
  have hz : (sizeOf (Try.prog.elem 83)).run Try.prog w = .ok 1 w := by kernel_rfl
  rw [run_sliceAt_array_l w 83 ⟨g, off, none⟩ hu .i64 kk (by omega) (by rw [hl]; omega), hz, hl]
  have ha : (⟨g, off, none⟩ : Addr).add (kk * 1) = if kk * 1 = 0 then ⟨g, off, none⟩ else ⟨g, off + kk, none⟩ := by
    unfold Addr.add
    split <;> simp_all
  simp only [Result.andThen, slicedAt, cut64, Int.toNat_natCast, ha]
  congr 2
  split
  · rfl
  · split
    · rename_i h0
      have : kk = 0 := by omega
      subst this
      rfl
    · rfl
theorem wpList_copy_touch {P : Program} {w : World} {ops : Array Oper} {rest : List Oper} {o : Oper} {a : Act} {Q : Exit → Act → World → Prop} (hgd : o.guard = none) (d s : Operand) (dT sT : TypeId)
    (ho : o.op = .call { callee := .builtin .copy, args := #[d, s], argTypes := #[dT, sT] }) (elem : TypeId) (hu : P.underlying dT = some (.slice elem)) (hsz : (P.info? elem).map (·.size) = some 1)
    (dp sp : Option Addr) (dLen dCap sLen sCap : Nat) (hd : a.eval d = .slice dp dLen dCap) (hs : a.eval s = .slice sp sLen sCap)
    (g off : Nat) (cur : List Value) (t : TypeId) (hg : w.heap[g]? = some (.cells cur.toArray t (0, 0))) (cs : List Value) (hn : cs.length = Nat.min sLen dLen)
    (hpos : 0 < cs.length → dp = some ⟨g, off, none⟩ ∧ ∃ ad, sp = some ad ∧ ∀ j v, cs[j]? = some v → w.cell? (ad.add j) = some v)
    (hfit : off + cs.length ≤ cur.length) (h1 : ∀ v ∈ cs, v.oneCell' = true)
    (h : ∀ w', Hid (w'.heap[g]? = some (.cells (splice cur off cs).toArray t (0, 0))) → Hid (Touch g (g + 1) w w') → wpList P ops Q rest (a.put o.dst (goInt cs.length)) w') :
    wpList P ops Q (o :: rest) a w := by
  by_cases h0 : cs.length = 0
  · obtain rfl : cs = [] := List.eq_nil_of_length_eq_zero h0
    refine wpList_copy_nothing hgd d s dT sT ho elem hu hsz dp sp dLen dCap sLen sCap hd hs (by simpa using hn.symm) ?_
    exact h w (show _ = _ by simpa [splice] using hg) (Touch.refl _ _ _)
  · obtain ⟨rfl, ad, rfl, hsrc⟩ := hpos (by omega)
    refine wpList_copy_own hgd d s dT sT ho elem hu hsz g off dLen dCap ad sLen sCap hd hs cur.toArray t hg cs hn hsrc (by simpa using hfit) h1 ?_
    exact h _ (show _ = _ by simpa [splice] using setRow_heap w g _ _ t _ hg) (Touch.setRow w ⟨Nat.le_refl _, Nat.lt_succ_self _⟩ _)
structure CrashR (w : World) (k : DB) (A : St) (P : Option Addr) (len cap : Nat) (c : Cr) (i : Nat) (wr : World) : Prop where
  pd : PD wr k (A.part c i)
  t : Touch k.lo k.hi w wr
  box : Box wr w.heap.size P len cap c
set_option maxRecDepth 100000 in
set_option maxHeartbeats 2000000 in
theorem crash_any {w : World} {k : DB} {A : St} {P : Option Addr} {len cap : Nat} {c : Cr} (h : PD w k A) (hk : Bools k.lo w P len c.keep) :
    Calls Try.prog 17 #[.pointer (some ⟨k.g, 0, none⟩), .agg #[.slice P len cap, .int .i64 c.torn, .int .i64 c.bytes]] w fun e w' => e = .returned (.int .i64 0) ∧ PD w' k (A.crash c) ∧ Touch k.lo k.hi w w' := by
  have hb0 : Below w.heap.size w (w.alloc (boxV P len cap c.torn c.bytes)) := (Below.refl _ w).alloc (Nat.le_refl _) _
  have HP := Lib.hid h
  have HK := Lib.hid hk
  have h2 : (w.alloc (.cells #[.slice P len cap, .int .i64 c.torn, .int .i64 c.bytes] 25 (0, 0))).cell? ⟨k.g, 2, none⟩ = _ := (h.below hb0).c2
  have hn := h.nb
  have hinv : CrashR w k A P len cap c 0 (w.alloc (.cells #[.slice P len cap, .int .i64 c.torn, .int .i64 c.bytes] 25 (0, 0))) :=
    ⟨by rw [part_zero]; exact h.below hb0, Touch.of_below hb0, Box.new w P len cap c⟩
  have HI := Lib.hid hinv
  clear h hk hb0 hinv
  go_enter Try.func17, Try.ntmps17
  go_wp2_with fail
  go_loopw [6, 18] (fun j i wr => ∃ n : Nat, n ≤ A.n ∧ i = .int .i64 n ∧ j = .int .i64 (upTo A n : Nat) ∧ Hid (CrashR w k A P len cap c n wr)) (fun _ i _ => 4096 - (intOf i).toNat)
  case atStart => exact ⟨0, Nat.zero_le _, rfl, rfl, HI⟩
  case round =>
    obtain ⟨i, hi, rfl, rfl, hR⟩ := hrel
    have hu := upTo_le A i
    by_cases hlt : i < A.n
    · have hnp := n_part A c i
      have hx := hR.out.pd.is_ i (by rw [hnp]; exact hlt)
      rw [part_at A c i hlt] at hx
      have hsec := HP.out.sec i hlt
      cases hv : (A.secs.getD i none_).is
      · have hs1 : CrashR w k A P len cap c (i + 1) wr := ⟨by rw [part_keep A c i _ hsec hv]; exact hR.out.pd, hR.out.t, hR.out.box⟩
        have hs2 := Lib.hid hs1
        have hs3 := Lib.hid (show upTo A (i + 1) = upTo A i by rw [upTo_succ A i _ hsec, hv]; rfl)
        rw [hv] at hx
        clear hs1 hsec hv
        go_wp2_with fail
        go_roundw
        case rel => exact ⟨i + 1, by omega, by go_num, by rw [hs3.out], hs2⟩
        case measure => simp [intOf]; omega
      · rw [hv] at hx
        have hL := Lib.hid (left_any (upTo A i) hR.out.box (HK.out.touch hR.out.t (Nat.le_refl _)) (by omega))
        have HV := Lib.hid hv
        have HS := Lib.hid hsec
        clear hv hsec
        go_wp2_with fail
        refine hL.out.mono ?_
        rintro e w' ⟨rfl, rfl⟩
        have hkk := k_le c (upTo A i)
        generalize hk : c.k (upTo A i) = kk at *
        have HKK := Lib.hid hk
        clear hk hL
        go_wp2_with fail
        have h0 := hR.out.pd.c0
        have h1 := hR.out.pd.c1
        rw [hnp] at h0 h1
        have hct := cut_run wr.drew kk hkk
        go_still_tail 16, (by kernel_rfl)
        change wpList _ _ _ _ _ wr.drew
        have hd : Below wr.heap.size wr wr.drew := below_drewN (Below.refl _ _) 1
        have hR2 : CrashR w k A P len cap c i wr.drew := ⟨hR.out.pd.below hd, hR.out.t.trans (Touch.of_below hd), hR.out.box.touch (Touch.of_below (lo := 0) (hi := 0) hd) (Nat.zero_le _)⟩
        have HR2 := Lib.hid hR2
        clear hd hR2 hR h0 h1 hct hx hnp
        generalize wr.drew = w2 at *
        have hp2 := HR2.out.pd
        have hnp := n_part A c i
        obtain ⟨L, hL1, hL2⟩ := hp2.old
        have hsx : (A.part c i).secs[i]? = some (A.secs.getD i none_) := by rw [hp2.sec i (by rw [hnp]; exact hlt), part_at A c i hlt]
        have hLi : L[i]? = some (A.secs.getD i none_).safe := hL1.2.2 i _ hsx HV.out
        have hLl : (L.getD i []).length = 64 := by
          rw [List.getD_eq_getElem?_getD, hLi]
          exact (hp2.good.len _ (List.mem_of_getElem? hsx)).1
        have hcs : (bs ((L.getD i []).drop kk)).length = 64 - kk := by rw [bs_length, List.length_drop, hLl]
        have hnl := flat_length _ hp2.nowlen
        have hLL := hL1.1
        rw [hnp] at hLL
        have hn2 := hp2.nowl
        rw [hnp] at hn2
        rw [hn2] at hnl
        refine wpList_copy_touch rfl (.tmp 35) (.tmp 43) 81 81 rfl 5 (by kernel_rfl) (by kernel_rfl) (some (if 64 = kk then ⟨k.a, i * 64, none⟩ else ⟨k.a, i * 64 + kk, none⟩)) (some (if 64 = kk then ⟨k.b, i * 64, none⟩ else ⟨k.b, i * 64 + kk, none⟩)) (64 - kk) (64 - kk) (64 - kk) (64 - kk) rfl rfl k.a (i * 64 + kk) (bs (nowL (A.part c i)).flatten) _ hp2.now (bs ((L.getD i []).drop kk)) (by rw [hcs]; exact (Nat.min_self _).symm) ?_ (by rw [hcs, bs_length, hnl]; omega) (bs_one _) ?_
        · intro hpos
          rw [hcs] at hpos
          rw [if_neg (by omega), if_neg (by omega)]
          refine ⟨rfl, _, rfl, fun j v hj => ?_⟩
          have hjl : j < 64 - kk := by
            have := (List.getElem?_eq_some_iff.1 hj).1
            omega
          have e : (⟨k.b, i * 64 + kk, none⟩ : Addr).add j = ⟨k.b, i * 64 + kk + j, none⟩ := by unfold Addr.add; split <;> simp_all
          rw [e, cell_of_row w2 k.b _ _ _ (0, 0) hL2, ← hj, List.getElem?_toArray, bs_at, bs_at, List.getElem?_drop, show i * 64 + kk + j = 64 * i + (kk + j) by omega,
            flat_get L hL1.2.1 i (kk + j) (by omega) (by omega), List.getD_eq_getElem?_getD, List.getElem?_eq_getElem (show i < L.length by omega)]
          rfl
        · intro w3 hw3 hbw
          have hm := hp2.mixed (by rw [hnp]; exact hlt) (by rw [part_at A c i hlt]; exact HV.out) hkk hL1 hbw.out hw3.out
          have hp3 : PD w3 k (A.part c i) → True := fun _ => trivial
          have ok := hp2.ok
          have hc2 : w3.cell? ⟨k.g, 2, none⟩ = _ := (World.cell?_of_block (w := w2) (a := ⟨k.g, 2, none⟩) (hbw.out.block _ (Nat.lt_of_lt_of_le ok.g.2 hp2.inn) (by show k.g < k.a ∨ k.a + 1 ≤ k.g; have := ok.ga; omega))).trans hp2.c2
          have hf2 : w3.frozen? ⟨k.c, i, none⟩ = false := (World.frozen?_of_block (w := w2) (a := ⟨k.c, i, none⟩) (hbw.out.block _ (Nat.lt_of_lt_of_le ok.c.2 hp2.inn) (by show k.c < k.a ∨ k.a + 1 ≤ k.c; have := ok.ac; omega))).trans (hp2.fc i)
          have hcl : w3.cell? ⟨k.c, i, none⟩ = _ := (World.cell?_of_block (w := w2) (a := ⟨k.c, i, none⟩) (hbw.out.block _ (Nat.lt_of_lt_of_le ok.c.2 hp2.inn) (by show k.c < k.a ∨ k.a + 1 ≤ k.c; have := ok.ac; omega))).trans (hp2.is_ i (by rw [hnp]; exact hlt))
          rw [hnp] at hc2
          have hR3 : CrashR w k A P len cap c (i + 1) (w3.setCell ⟨k.c, i, none⟩ (.bool false)) :=
            ⟨by rw [part_mix A c i _ HS.out HV.out, HKK.out]; exact hm.1, HR2.out.t.trans hm.2, HR2.out.box.touch hm.2 (HP.out.inn)⟩
          have HR3 := Lib.hid hR3
          have HU := Lib.hid (show upTo A (i + 1) = upTo A i + 1 by rw [upTo_succ A i _ HS.out, HV.out]; rfl)
          clear hm hp3 ok hp2 HR2 hL1 hL2 hsx hLi hLl hcs hnl hLL hn2 hw3 hbw hR3
          go_wp2_with fail
          go_roundw
          case rel => exact ⟨i + 1, by omega, by go_num, by rw [HU.out]; go_num, HR3⟩
          case measure => simp [intOf]; omega
    · obtain rfl : i = A.n := by omega
      have hp := hR.out.pd
      have hc := hp.good
      have f3 := hp.fr 3
      have q3 := hp.c3
      have q5 := hp.c5
      have f5 := hp.fr 5
      have h1 := Lib.hid (head_two (head_one hp 5 (.bool false)) 3 (.int .i64 0))
      have hg := Good.crash HP.out.good c
      have HE := Lib.hid (hp.stores (A.crash c) (part_all A c).symm hg _ h1.out.1 (by rw [h1.out.2]; unfold headV; rw [n_part, n_crash]; rfl))
      clear hp hc h1 hg
      go_wp2_with fail
      go_ret
      refine ⟨rfl, HE.out.1, hR.out.t.trans HE.out.2⟩
end Go.Proofs.Ytpjpncfoenadhaa
