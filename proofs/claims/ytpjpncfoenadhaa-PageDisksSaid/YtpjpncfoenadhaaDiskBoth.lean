/- The reference's Made as a disk in memory; the law's own functions (do, awake) over both disks. Conditions: both lie in memory, apart. -/
import Derived.Test.YtpjpncfoenadhaaDiskMade
import Derived.Test.YtpjpncfoenadhaaData
namespace Go.Proofs.Ytpjpncfoenadhaa
open Go.RowKit Dk

theorem row_of {w : World} {base n : Nat} {e : TypeId} {v : Value} {xs : List Value} (h : w.ownsRow base e 1 v n xs) (hn : 1 ≤ n) : ∃ g cap, v = .slice (some ⟨g, 0, none⟩) n cap ∧ base ≤ g ∧ g < w.heap.size ∧ Rw w g e xs := by
  rcases h.2 with ⟨_, h0⟩ | ⟨g, cap, cur, hv, hb, hg, _, _, _, ht⟩
  · omega
  · refine ⟨g, cap, hv, hb, lt_of_block hg, cur.toList.drop n, ?_⟩
    rw [hg]
    congr 2
    rw [Nat.mul_one] at ht
    rw [← ht, List.take_append_drop]
theorem rmade_any (n : Nat) (w : World) (h1 : 1 ≤ n) (h2 : n ≤ 4096) :
    Calls Try.prog 43 #[.int .i64 n] w fun e w' => ∃ k : RB, e = .returned (.pointer (some ⟨k.g, 0, none⟩)) ∧ XD w' k (made n) ∧ k.lo = w.heap.size ∧ Below w.heap.size w w' := by
  refine (made_loop n w h1 h2).mono ?_
  rintro e w' ⟨rfl, a, b, c, h⟩
  obtain ⟨ga, ca, rfl, a1, a2, a3⟩ := row_of h.sa h1
  obtain ⟨gb, cb, rfl, b1, b2, b3⟩ := row_of h.sb h1
  obtain ⟨gc, cc, rfl, c1, c2, c3⟩ := row_of h.sc h1
  have hnn : (made n).n = n := by simp [made, St.n]
  have nab : ga ≠ gb := fun e => h.ab ga rfl (by rw [e]; rfl)
  have nac : ga ≠ gc := fun e => h.ac ga rfl (by rw [e]; rfl)
  have nbc : gb ≠ gc := fun e => h.bc gb rfl (by rw [e]; rfl)
  have hbig := h.big
  refine ⟨⟨w.heap.size, ga, gb, gc, ca, cb, cc, w.heap.size, w'.heap.size⟩, rfl, ⟨?_, Nat.le_refl _, Good.made n h2, ?_, ?_, ⟨List.replicate n (str []), ⟨by rw [hnn]; simp, fun i x hx hxi => ?_⟩, b3⟩, ?_⟩, rfl, h.b⟩
  · refine ⟨⟨?_, ?_⟩, ⟨?_, ?_⟩, ⟨?_, ?_⟩, ⟨?_, ?_⟩, ?_, ?_, ?_, nab, nac, nbc⟩ <;> simp only [ne_eq] <;> omega
  · rw [h.head]
    unfold headR headM
    rw [hnn]
    rfl
  · have e : ((made n).secs.map fun x => str x.safe) = List.replicate n (str (List.replicate 64 0)) := by simp [made, none_]
    rw [e]
    exact a3
  · have := List.eq_of_mem_replicate (List.mem_of_getElem? hx)
    rw [this] at hxi
    cases hxi
  · have e : ((made n).secs.map fun x => Value.bool x.is) = List.replicate n (Value.bool false) := by simp [made, none_]
    rw [e]
    exact c3

/-- both disks, apart -/
structure Two (lo : Nat) (w : World) (k : DB) (r : RB) (A : St) : Prop where
  p : PD w k A
  x : XD w r A
  lo : lo ≤ k.lo
  ap : k.hi ≤ r.lo
theorem Two.stepP {lo : Nat} {w w' : World} {k : DB} {r : RB} {A B : St} (h : Two lo w k r A) (_hp : PD w' k B) (ht : Touch k.lo k.hi w w') : XD w' r A := h.x.far ht (.inr h.ap)
theorem Two.stepX {lo : Nat} {w w' : World} {k : DB} {r : RB} {A B : St} (h : Two lo w k r A) (_hp : XD w' r B) (ht : Touch r.lo r.hi w w') : PD w' k A := h.p.far ht (.inl h.ap)

/-! what an act comes to -/
/-- a call, as the law asks for it -/
structure Act where
  kind : Int
  i : Int
  s : ByteArray
  c : Cr
def St.after (A : St) (a : Act) : St :=
  if a.kind = 0 ∨ a.kind = 1 ∨ a.kind = 2 then (A.write a.i a.s.data.toList).2 else if a.kind = 3 then A.sync.2 else if a.kind = 4 then (A.armed a.i).2 else A.crash a.c
/-- the act's value -/
def actV (a : Act) (P : Option Addr) (len cap : Nat) : Value := .agg #[.int .i64 a.kind, .int .i64 a.i, .string a.s, .slice P len cap, .int .i64 a.c.torn, .int .i64 a.c.bytes]
end Go.Proofs.Ytpjpncfoenadhaa
