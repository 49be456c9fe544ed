/- The reference's Made: what it makes. Condition: 1 up to 4096 sectors. -/
import Derived.Test.YtpjpncfoenadhaaDiskRefC
import Derived.Deep.AppendLies
import Derived.Deep.RegionLaw
namespace Go.Proofs.Ytpjpncfoenadhaa
open Go.RowKit Dk

theorem info_of (t : TypeId) (b : Nat) (z : Value) (h1 : (Try.prog.info? t).map (·.size) = some 1) (h2 : (Try.prog.info? t).map (·.bytes) = some b) (h3 : (Try.prog.info? t).map (·.zero) = some (some z)) (hz : z.cells.size = 1) :
    ∃ i z, Try.prog.info? t = some i ∧ i.zero = some z ∧ i.size = 1 ∧ i.bytes = b ∧ z.cells.size = 1 := by
  cases hq : Try.prog.info? t with
  | none => simp [hq] at h1
  | some i => exact ⟨i, z, rfl, by simpa [hq] using h3, by simpa [hq] using h1, by simpa [hq] using h2, hz⟩
theorem str_info : ∃ i z, Try.prog.info? 9 = some i ∧ i.zero = some z ∧ i.size = 1 ∧ i.bytes = 16 ∧ z.cells.size = 1 :=
  info_of 9 16 (.string ⟨#[]⟩) (by kernel_rfl) (by kernel_rfl) (by kernel_rfl) rfl
theorem bool_info : ∃ i z, Try.prog.info? 4 = some i ∧ i.zero = some z ∧ i.size = 1 ∧ i.bytes = 1 ∧ z.cells.size = 1 :=
  info_of 4 1 (.bool false) (by kernel_rfl) (by kernel_rfl) (by kernel_rfl) rfl

theorem one_str (l : List UInt8) : ∀ u ∈ [str l], u.oneCell' = true := fun u hu => by
  rw [List.mem_singleton.1 hu]
  rfl
def Apart (a b : Option Nat) : Prop := ∀ k, a = some k → b = some k → False
theorem Apart.symm {a b : Option Nat} (h : Apart a b) : Apart b a := fun k h1 h2 => h k h2 h1
def headM (a b c : Value) : Array Value := #[a, b, c, .int .i64 0, .int .i64 0, .bool false]
/-- what is made so far -/
structure MadeR (w : World) (n : Nat) (a b c : Value) (na nb nc : Nat) (wr : World) : Prop where
  head : wr.heap[w.heap.size]? = some (.cells (headM a b c) 33 (0, 0))
  sa : wr.ownsRow (w.heap.size + 1) 9 1 a na (List.replicate na (str (List.replicate 64 0)))
  sb : wr.ownsRow (w.heap.size + 1) 9 1 b nb (List.replicate nb (str []))
  sc : wr.ownsRow (w.heap.size + 1) 4 1 c nc (List.replicate nc (.bool false))
  ab : Apart a.ownBlock b.ownBlock
  ac : Apart a.ownBlock c.ownBlock
  bc : Apart b.ownBlock c.ownBlock
  b : Below w.heap.size w wr
  big : w.heap.size + 1 ≤ wr.heap.size
theorem owns_of {w w' : World} {base n : Nat} {e : TypeId} {v : Value} {xs : List Value} (h : w.ownsRow base e 1 v n xs) (hb : ∀ k, v.ownBlock = some k → w'.heap[k]? = w.heap[k]?) : w'.ownsRow base e 1 v n xs := by
  refine ⟨h.1, ?_⟩
  rcases h.2 with hn | ⟨g, cap, cur, rfl, hbg, hg, r⟩
  · exact .inl hn
  · exact .inr ⟨g, cap, cur, rfl, hbg, (hb g rfl).trans hg, r⟩
theorem owns_below {w w' : World} {base n : Nat} {e : TypeId} {v : Value} {xs : List Value} (h : w.ownsRow base e 1 v n xs) (hb : Below w.heap.size w w') : w'.ownsRow base e 1 v n xs :=
  owns_of h fun k hk => hb.block k (h.lt k hk).2
theorem MadeR.below {w wr w' : World} {n : Nat} {a b c : Value} {na nb nc : Nat} (h : MadeR w n a b c na nb nc wr) (hb : Below wr.heap.size wr w') : MadeR w n a b c na nb nc w' :=
  ⟨(hb.block _ (by have := h.big; omega)).trans h.head, owns_below h.sa hb, owns_below h.sb hb, owns_below h.sc hb, h.ab, h.ac, h.bc, h.b.trans (hb.mono h.b.size), Nat.le_trans h.big hb.size⟩
/-- one row has grown, its head is written -/
theorem MadeR.growA {w wr w1 : World} {n : Nat} {a b c : Value} {na nb nc g cap : Nat} (h : MadeR w n a b c na nb nc wr) (hg : wr.grownBy w1 a.ownBlock) (hat : a.ownBlock = some g ∨ g = wr.heap.size) (hlt : g < w1.heap.size)
    (hown : w1.ownsRow (w.heap.size + 1) 9 1 (.slice (some ⟨g, 0, none⟩) (na + 1) cap) (na + 1) (List.replicate na (str (List.replicate 64 0)) ++ [(str (List.replicate 64 0))])) :
    MadeR w n (.slice (some ⟨g, 0, none⟩) (na + 1) cap) b c (na + 1) nb nc (w1.setCell ⟨w.heap.size, 0, none⟩ (.slice (some ⟨g, 0, none⟩) (na + 1) cap)) := by
  have hla := h.sa.lt
  have hlb := h.sb.lt
  have hlc := h.sc.lt
  have hbig := h.big
  have hgl := (hown.lt g rfl).1
  have kb : ∀ k, b.ownBlock = some k → (w1.setCell ⟨w.heap.size, 0, none⟩ (.slice (some ⟨g, 0, none⟩) (na + 1) cap)).heap[k]? = wr.heap[k]? := fun k hk =>
    (Below.heap_setCell _ _ _ _ (show k ≠ w.heap.size from by have := (hlb k hk).1; omega)).trans (hg.block k (hlb k hk).2 (fun e => h.ab k e.symm hk))
  have kc : ∀ k, c.ownBlock = some k → (w1.setCell ⟨w.heap.size, 0, none⟩ (.slice (some ⟨g, 0, none⟩) (na + 1) cap)).heap[k]? = wr.heap[k]? := fun k hk =>
    (Below.heap_setCell _ _ _ _ (show k ≠ w.heap.size from by have := (hlc k hk).1; omega)).trans (hg.block k (hlc k hk).2 (fun e => h.ac k e.symm hk))
  have hh : w1.heap[w.heap.size]? = wr.heap[w.heap.size]? := hg.block _ (by omega) (fun e => by have := (hla _ e.symm).1; omega)
  refine ⟨?_, ?_, owns_of h.sb kb, owns_of h.sc kc, ?_, ?_, h.bc, ?_, ?_⟩
  · rw [heap_setCell_same _ _ _ _ _ _ (hh.trans h.head)]
    rfl
  · rw [List.replicate_succ']
    exact owns_of hown fun k hk => Below.heap_setCell _ _ _ _ (show k ≠ w.heap.size from by have e : g = k := Option.some.inj hk; omega)
  · intro k h1 h2
    have hgk : g = k := Option.some.inj h1
    subst hgk
    rcases hat with e | e
    · exact h.ab _ e h2
    · have := (hlb _ h2).2; omega
  · intro k h1 h2
    have hgk : g = k := Option.some.inj h1
    subst hgk
    rcases hat with e | e
    · exact h.ac _ e h2
    · have := (hlc _ h2).2; omega
  · refine h.b.trans ⟨hg.os, hg.tape, hg.output, Nat.le_trans hg.size (by simp [World.setCell]), fun k hk => ?_⟩
    rw [Below.heap_setCell _ _ _ _ (show k ≠ w.heap.size by omega)]
    exact hg.block k (by omega) (fun e => by have := (hla _ e.symm).1; omega)
  · have := hg.size
    simp only [World.setCell, Array.size_modify]
    omega
theorem MadeR.growB {w wr w1 : World} {n : Nat} {a b c : Value} {na nb nc g cap : Nat} (h : MadeR w n a b c na nb nc wr) (hg : wr.grownBy w1 b.ownBlock) (hat : b.ownBlock = some g ∨ g = wr.heap.size) (hlt : g < w1.heap.size)
    (hown : w1.ownsRow (w.heap.size + 1) 9 1 (.slice (some ⟨g, 0, none⟩) (nb + 1) cap) (nb + 1) (List.replicate nb (str []) ++ [(str [])])) :
    MadeR w n a (.slice (some ⟨g, 0, none⟩) (nb + 1) cap) c na (nb + 1) nc (w1.setCell ⟨w.heap.size, 1, none⟩ (.slice (some ⟨g, 0, none⟩) (nb + 1) cap)) := by
  have hla := h.sa.lt
  have hlb := h.sb.lt
  have hlc := h.sc.lt
  have hbig := h.big
  have hgl := (hown.lt g rfl).1
  have ka : ∀ k, a.ownBlock = some k → (w1.setCell ⟨w.heap.size, 1, none⟩ (.slice (some ⟨g, 0, none⟩) (nb + 1) cap)).heap[k]? = wr.heap[k]? := fun k hk =>
    (Below.heap_setCell _ _ _ _ (show k ≠ w.heap.size from by have := (hla k hk).1; omega)).trans (hg.block k (hla k hk).2 (fun e => h.ab k hk e.symm))
  have kc : ∀ k, c.ownBlock = some k → (w1.setCell ⟨w.heap.size, 1, none⟩ (.slice (some ⟨g, 0, none⟩) (nb + 1) cap)).heap[k]? = wr.heap[k]? := fun k hk =>
    (Below.heap_setCell _ _ _ _ (show k ≠ w.heap.size from by have := (hlc k hk).1; omega)).trans (hg.block k (hlc k hk).2 (fun e => h.bc k e.symm hk))
  have hh : w1.heap[w.heap.size]? = wr.heap[w.heap.size]? := hg.block _ (by omega) (fun e => by have := (hlb _ e.symm).1; omega)
  refine ⟨?_, owns_of h.sa ka, ?_, owns_of h.sc kc, ?_, h.ac, ?_, ?_, ?_⟩
  · rw [heap_setCell_same _ _ _ _ _ _ (hh.trans h.head)]
    rfl
  · rw [List.replicate_succ']
    exact owns_of hown fun k hk => Below.heap_setCell _ _ _ _ (show k ≠ w.heap.size from by have e : g = k := Option.some.inj hk; omega)
  · intro k h1 h2
    have hgk : g = k := Option.some.inj h2
    subst hgk
    rcases hat with e | e
    · exact h.ab _ h1 e
    · have := (hla _ h1).2; omega
  · intro k h1 h2
    have hgk : g = k := Option.some.inj h1
    subst hgk
    rcases hat with e | e
    · exact h.bc _ e h2
    · have := (hlc _ h2).2; omega
  · refine h.b.trans ⟨hg.os, hg.tape, hg.output, Nat.le_trans hg.size (by simp [World.setCell]), fun k hk => ?_⟩
    rw [Below.heap_setCell _ _ _ _ (show k ≠ w.heap.size by omega)]
    exact hg.block k (by omega) (fun e => by have := (hlb _ e.symm).1; omega)
  · have := hg.size
    simp only [World.setCell, Array.size_modify]
    omega
theorem MadeR.growC {w wr w1 : World} {n : Nat} {a b c : Value} {na nb nc g cap : Nat} (h : MadeR w n a b c na nb nc wr) (hg : wr.grownBy w1 c.ownBlock) (hat : c.ownBlock = some g ∨ g = wr.heap.size) (hlt : g < w1.heap.size)
    (hown : w1.ownsRow (w.heap.size + 1) 4 1 (.slice (some ⟨g, 0, none⟩) (nc + 1) cap) (nc + 1) (List.replicate nc (.bool false) ++ [(.bool false)])) :
    MadeR w n a b (.slice (some ⟨g, 0, none⟩) (nc + 1) cap) na nb (nc + 1) (w1.setCell ⟨w.heap.size, 2, none⟩ (.slice (some ⟨g, 0, none⟩) (nc + 1) cap)) := by
  have hla := h.sa.lt
  have hlb := h.sb.lt
  have hlc := h.sc.lt
  have hbig := h.big
  have hgl := (hown.lt g rfl).1
  have ka : ∀ k, a.ownBlock = some k → (w1.setCell ⟨w.heap.size, 2, none⟩ (.slice (some ⟨g, 0, none⟩) (nc + 1) cap)).heap[k]? = wr.heap[k]? := fun k hk =>
    (Below.heap_setCell _ _ _ _ (show k ≠ w.heap.size from by have := (hla k hk).1; omega)).trans (hg.block k (hla k hk).2 (fun e => h.ac k hk e.symm))
  have kb : ∀ k, b.ownBlock = some k → (w1.setCell ⟨w.heap.size, 2, none⟩ (.slice (some ⟨g, 0, none⟩) (nc + 1) cap)).heap[k]? = wr.heap[k]? := fun k hk =>
    (Below.heap_setCell _ _ _ _ (show k ≠ w.heap.size from by have := (hlb k hk).1; omega)).trans (hg.block k (hlb k hk).2 (fun e => h.bc k hk e.symm))
  have hh : w1.heap[w.heap.size]? = wr.heap[w.heap.size]? := hg.block _ (by omega) (fun e => by have := (hlc _ e.symm).1; omega)
  refine ⟨?_, owns_of h.sa ka, owns_of h.sb kb, ?_, h.ab, ?_, ?_, ?_, ?_⟩
  · rw [heap_setCell_same _ _ _ _ _ _ (hh.trans h.head)]
    rfl
  · rw [List.replicate_succ']
    exact owns_of hown fun k hk => Below.heap_setCell _ _ _ _ (show k ≠ w.heap.size from by have e : g = k := Option.some.inj hk; omega)
  · intro k h1 h2
    have hgk : g = k := Option.some.inj h2
    subst hgk
    rcases hat with e | e
    · exact h.ac _ h1 e
    · have := (hla _ h1).2; omega
  · intro k h1 h2
    have hgk : g = k := Option.some.inj h2
    subst hgk
    rcases hat with e | e
    · exact h.bc _ h1 e
    · have := (hlb _ h1).2; omega
  · refine h.b.trans ⟨hg.os, hg.tape, hg.output, Nat.le_trans hg.size (by simp [World.setCell]), fun k hk => ?_⟩
    rw [Below.heap_setCell _ _ _ _ (show k ≠ w.heap.size by omega)]
    exact hg.block k (by omega) (fun e => by have := (hlc _ e.symm).1; omega)
  · have := hg.size
    simp only [World.setCell, Array.size_modify]
    omega

theorem MadeR.h0 {w wr : World} {n : Nat} {a b c : Value} {na nb nc : Nat} (h : MadeR w n a b c na nb nc wr) : wr.cell? ⟨w.heap.size, 0, none⟩ = some a ∧ wr.cell? ⟨w.heap.size, 1, none⟩ = some b ∧ wr.cell? ⟨w.heap.size, 2, none⟩ = some c ∧ ∀ j, wr.frozen? ⟨w.heap.size, j, none⟩ = false :=
  ⟨cell_of_row wr w.heap.size 0 _ _ (0, 0) h.head, cell_of_row wr w.heap.size 1 _ _ (0, 0) h.head, cell_of_row wr w.heap.size 2 _ _ (0, 0) h.head, fun j => frozen_of_row wr w.heap.size j _ _ h.head⟩
theorem MadeR.past {w wr w1 : World} {n : Nat} {a b c : Value} {na nb nc : Nat} (h : MadeR w n a b c na nb nc wr) {row : Option Nat} (hg : wr.grownBy w1 row) (hr : row = a.ownBlock ∨ row = b.ownBlock ∨ row = c.ownBlock) :
    w1.cell? ⟨w.heap.size, 0, none⟩ = some a ∧ w1.cell? ⟨w.heap.size, 1, none⟩ = some b ∧ w1.cell? ⟨w.heap.size, 2, none⟩ = some c ∧ ∀ j, w1.frozen? ⟨w.heap.size, j, none⟩ = false := by
  have hla := h.sa.lt
  have hlb := h.sb.lt
  have hlc := h.sc.lt
  have hbig := h.big
  have hh : w1.heap[w.heap.size]? = wr.heap[w.heap.size]? := hg.block _ (by omega) (fun e => by
    rcases hr with hr | hr | hr
    · have := (hla _ (hr.symm.trans e.symm)).1; omega
    · have := (hlb _ (hr.symm.trans e.symm)).1; omega
    · have := (hlc _ (hr.symm.trans e.symm)).1; omega)
  have hd := hh.trans h.head
  exact ⟨cell_of_row w1 w.heap.size 0 _ _ (0, 0) hd, cell_of_row w1 w.heap.size 1 _ _ (0, 0) hd, cell_of_row w1 w.heap.size 2 _ _ (0, 0) hd, fun j => frozen_of_row w1 w.heap.size j _ _ hd⟩
set_option maxRecDepth 100000 in
set_option maxHeartbeats 4000000 in
theorem made_loop (n : Nat) (w : World) (h1 : 1 ≤ n) (h2 : n ≤ 4096) :
    Calls Try.prog 43 #[.int .i64 n] w fun e w' => e = .returned (.pointer (some ⟨w.heap.size, 0, none⟩)) ∧ ∃ a b c, MadeR w n a b c n n n w' := by
  obtain ⟨i0, z0, q1, q2, q3, q4, q5⟩ := str_info
  obtain ⟨j0, y0, r1, r2, r3, r4, r5⟩ := bool_info
  have HF := Lib.hid (fun w => fill_any ⟨#[]⟩ w (by decide))
  have hmax : maxLen = 9223372036854775807 := rfl
  have HI := Lib.hid (show MadeR w n (.slice none 0 0) (.slice none 0 0) (.slice none 0 0) 0 0 0 (w.alloc (.cells (headM (.slice none 0 0) (.slice none 0 0) (.slice none 0 0)) 33 (0, 0))) from
    ⟨World.alloc_heap_new w _, World.ownsRow_nil _ _ _ _, World.ownsRow_nil _ _ _ _, World.ownsRow_nil _ _ _ _, fun k h _ => (by cases h), fun k h _ => (by cases h), fun k h _ => (by cases h), (Below.refl _ w).alloc (Nat.le_refl _) _, by simp⟩)
  go_enter Try.func43, Try.ntmps43
  go_wp2_with fail
  go_loopw [4] (fun i wr => ∃ (m : Nat) (a b c : Value), m ≤ n ∧ i = .int .i64 m ∧ Hid (MadeR w n a b c m m m wr)) (fun i _ => 5000 - (intOf i).toNat)
  case atStart => exact ⟨0, _, _, _, Nat.zero_le _, rfl, HI⟩
  case round =>
    obtain ⟨m, a, b, c, hm, rfl, hR⟩ := hrel
    by_cases hlt : m < n
    · have hltI : (m : Int) < (n : Int) := by omega
      have h0 := hR.out.h0.1
      have hf := hR.out.h0.2.2.2 0
      go_wp2_with fail
      go_region_law (first
        | (refine step_append_lies _ rfl (.tmp 16) (.tmp 18) 31 rfl (w.heap.size + 1) 9 i0 z0 1 16 Try.underlying31 q1 q2 q3 q4 q5 (by decide) a m _ rfl (hq.sa.alloc _) ⟨w'.heap.size, 0, none⟩ 1 1 [str (List.replicate 64 0)] rfl rfl (cell_one_new _ _ _) (one_str _) (by decide) (by rw [hmax]; omega) (by omega) (by have := hq.big; simp; omega) _ rfl ?_; intro g1 cap1 w1 hown1 hgrow1 hat1 hlt1; have hqa := hq.below ((Below.refl _ w').alloc (Nat.le_refl _) (.cells #[str (List.replicate 64 0)] 9 (0, 0))); have q12 := hqa.past hgrow1 (.inl rfl); have q13 := q12.1; have q14 := q12.2.2.2 0)
        | (go_simp; go_at_call 24; refine (HF.out _).mono ?_; rintro e w' ⟨rfl, hb⟩; have hq := (hR.out.below (below_drewN (Below.refl _ _) 1)).below hb; have q10 := hq.h0.1; have q11 := hq.h0.2.2.2 0; have q15 := (hq.below ((Below.refl _ w').alloc (Nat.le_refl _) (.cells #[.string ⟨(fill []).toArray⟩] 9 (0, 0)))).h0.1))
      all_goals
        have hM := Lib.hid (hqa.growA hgrow1 hat1 hlt1 hown1)
        clear q15 q10 q11 q12 q13 q14 hqa hq hgrow1 hat1 hown1 h0 hf
        generalize w1.setCell ⟨w.heap.size, 0, none⟩ (.slice (some ⟨g1, 0, none⟩) (m + 1) cap1) = w2 at *
        generalize Value.slice (some ⟨g1, 0, none⟩) (m + 1) cap1 = a2 at *
        have p1 := hM.out.h0.2.1
        have p2 := hM.out.h0.2.2.2 1
        clear hb hlt1 hR
        go_wp2_with (first
          | (at_builtin; refine wpList_append_lies _ rfl (.tmp 26) (.tmp 27) 31 rfl (w.heap.size + 1) 9 i0 z0 1 16 Try.underlying31 q1 q2 q3 q4 q5 (by decide) b m _ rfl (hM.out.sb.alloc _) ⟨w2.heap.size, 0, none⟩ 1 1 [str []] rfl rfl (cell_one_new _ _ _) (one_str _) (by decide) (by rw [hmax]; omega) (by omega) (by have := hM.out.big; simp; omega) _ rfl ?_; intro g3 cap3 w3 hown3 hgrow3 hat3 hlt3; have hqb := hM.out.below ((Below.refl _ w2).alloc (Nat.le_refl _) (.cells #[str []] 9 (0, 0))); have p5 := hqb.past hgrow3 (.inr (.inl rfl)); have p6 := p5.2.1; have p7 := p5.2.2.2 1; have hM3 := Lib.hid (hqb.growB hgrow3 hat3 hlt3 hown3); have p8 := hM3.out.h0.2.2.1; have p9 := hM3.out.h0.2.2.2 2; clear hown3 hgrow3 hat3 hqb p5)
          | (at_builtin; refine wpList_append_lies _ rfl (.tmp 35) (.tmp 36) 23 rfl (w.heap.size + 1) 4 j0 y0 1 1 Try.underlying23 r1 r2 r3 r4 r5 (by decide) c m _ rfl (hM3.out.sc.alloc _) ⟨w3.heap.size, 0, none⟩ 1 1 [.bool false] rfl rfl (by rw [show w3.heap.size = (w3.setCell ⟨w.heap.size, 1, none⟩ (.slice (some ⟨g3, 0, none⟩) (m + 1) cap3)).heap.size from (by simp [World.setCell])]; exact cell_one_new _ _ _) (fun u hu => by rw [List.mem_singleton.1 hu]; rfl) (by decide) (by rw [hmax]; omega) (by omega) (by have := hM3.out.big; simp at this ⊢; omega) _ rfl ?_; intro g4 cap4 w4 hown4 hgrow4 hat4 hlt4; have hqc := hM3.out.below ((Below.refl _ _).alloc (Nat.le_refl _) (.cells #[.bool false] 4 (0, 0))); have p10 := hqc.past hgrow4 (.inr (.inr rfl)); have p11 := p10.2.2.1; have p12 := p10.2.2.2 2; have hM4 := Lib.hid (hqc.growC hgrow4 hat4 hlt4 hown4); clear hown4 hgrow4 hat4 hqc p10))
        go_roundw
        case rel => exact ⟨m + 1, _, _, _, by omega, by go_num, hM4⟩
        case measure => simp [intOf]; omega
    · obtain rfl : m = n := by omega
      go_wp2_with fail
      go_ret
      exact ⟨rfl, a, b, c, hR.out⟩
end Go.Proofs.Ytpjpncfoenadhaa
