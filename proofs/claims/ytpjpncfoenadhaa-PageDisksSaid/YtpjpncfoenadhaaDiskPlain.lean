/- A disk in plain lists: sectors, what is safe, what was written since; what each call comes to. No program in sight. -/
import Derived.Below
import Derived.Laws.CopyOwn
namespace Go.Proofs.Ytpjpncfoenadhaa.Dk
open Go.RowKit

/-- a sector: safe bytes, new ones, whether they are loose -/
structure Sec where
  safe : List UInt8
  new : List UInt8
  is : Bool
/-- a disk's state -/
structure St where
  secs : List Sec
  arm : Int
  calls : Int
  down : Bool
/-- a crash, as it is asked for -/
structure Cr where
  keep : List Bool
  torn : Int
  bytes : Int

def Sec.now (x : Sec) : List UInt8 := if x.is then x.new else x.safe
def fill (s : List UInt8) : List UInt8 := (s ++ List.replicate 64 0).take 64
theorem fill_length (s : List UInt8) : (fill s).length = 64 := by simp [fill]

def St.n (A : St) : Nat := A.secs.length
structure St.Good (A : St) : Prop where
  len : ∀ x ∈ A.secs, x.safe.length = 64 ∧ x.new.length = 64
  arm0 : 0 ≤ A.arm
  arm1 : A.arm ≤ 9223372036854775807
  big : A.secs.length ≤ 4096

def none_ : Sec := ⟨List.replicate 64 0, List.replicate 64 0, false⟩
def made (n : Nat) : St := ⟨List.replicate n none_, 0, 0, false⟩

def St.count (A : St) : Int × St :=
  if A.arm = 0 then (0, { A with calls := wrap64 (A.calls + 1) })
  else if A.arm = 1 then (13, { A with calls := wrap64 (A.calls + 1), arm := 0, down := true })
  else (0, { A with calls := wrap64 (A.calls + 1), arm := A.arm - 1 })
def put (s : List UInt8) (x : Sec) : Sec := ⟨x.safe, fill s, true⟩
def St.put (A : St) (i : Nat) (s : List UInt8) : St := { A with secs := A.secs.modify i (Dk.put s) }
def St.write (A : St) (i : Int) (s : List UInt8) : Int × St :=
  if A.down then (13, A) else if i < 0 ∨ A.n ≤ i then (3, A) else (A.put i.toNat s).count
def settle (x : Sec) : Sec := ⟨x.now, x.new, false⟩
def St.settle (A : St) : St := { A with secs := A.secs.map Dk.settle }
def St.sync (A : St) : Int × St :=
  if A.down then (13, A) else if A.count.1 ≠ 0 then A.count else (0, A.count.2.settle)
def St.at_ (A : St) (i : Nat) : List UInt8 := (A.secs.getD i none_).now
def St.read (A : St) (i : Int) : List UInt8 × Int :=
  if A.down then ([], 13) else if i < 0 ∨ A.n ≤ i then ([], 3) else (A.at_ i.toNat, 0)
def Cr.k (c : Cr) (j : Nat) : Nat :=
  if (j : Int) = c.torn then (max c.bytes 0 % 65).toNat else if c.keep.getD j false then 64 else 0
def mix (k : Nat) (x : Sec) : Sec := ⟨x.new.take k ++ x.safe.drop k, x.new, false⟩
def crashL (c : Cr) : Nat → List Sec → List Sec
  | _, [] => []
  | j, x :: r => if x.is then mix (c.k j) x :: crashL c (j + 1) r else x :: crashL c j r
def St.crash (A : St) (c : Cr) : St := { A with secs := crashL c 0 A.secs, arm := 0, down := false }
def St.armed (A : St) (n : Int) : Int × St := if A.down then (13, A) else if n < 1 then (2, A) else (0, { A with arm := n })
def looseL (l : List Sec) : Nat := l.countP (·.is)
def St.loose (A : St) : Nat := looseL A.secs

theorem k_le (c : Cr) (j : Nat) : c.k j ≤ 64 := by
  unfold Cr.k
  split
  · omega
  · split <;> omega
theorem mix_len (k : Nat) (x : Sec) (h : x.safe.length = 64 ∧ x.new.length = 64) (hk : k ≤ 64) : (mix k x).safe.length = 64 ∧ (mix k x).new.length = 64 := by
  refine ⟨?_, h.2⟩
  simp only [mix, List.length_append, List.length_take, List.length_drop, h.1, h.2]
  omega
theorem crashL_length (c : Cr) : ∀ (l : List Sec) (j : Nat), (crashL c j l).length = l.length
  | [], _ => rfl
  | x :: r, j => by
    unfold crashL
    split <;> simp [crashL_length c r]
theorem crashL_len (c : Cr) : ∀ (l : List Sec) (j : Nat), (∀ x ∈ l, x.safe.length = 64 ∧ x.new.length = 64) → ∀ x ∈ crashL c j l, x.safe.length = 64 ∧ x.new.length = 64
  | [], _, _, x, hx => by cases hx
  | y :: r, j, h, x, hx => by
    unfold crashL at hx
    split at hx
    · rcases List.mem_cons.1 hx with rfl | hx
      · exact mix_len _ _ (h y List.mem_cons_self) (k_le c j)
      · exact crashL_len c r _ (fun z hz => h z (List.mem_cons_of_mem _ hz)) x hx
    · rcases List.mem_cons.1 hx with rfl | hx
      · exact h x List.mem_cons_self
      · exact crashL_len c r _ (fun z hz => h z (List.mem_cons_of_mem _ hz)) x hx

theorem Good.count {A : St} (h : A.Good) : A.count.2.Good := by
  unfold St.count
  have h0 := h.arm0
  have h1 := h.arm1
  split
  · exact ⟨h.len, h.arm0, h.arm1, h.big⟩
  · split
    · exact ⟨h.len, by simp, by simp, h.big⟩
    · exact ⟨h.len, by simp only; omega, by simp only; omega, h.big⟩
theorem Good.put {A : St} (h : A.Good) (i : Nat) (s : List UInt8) : (A.put i s).Good := by
  refine ⟨fun x hx => ?_, h.arm0, h.arm1, by simpa [St.put] using h.big⟩
  simp only [St.put] at hx
  rw [List.mem_iff_getElem] at hx
  obtain ⟨j, hj, rfl⟩ := hx
  rw [List.getElem_modify]
  have hm := h.len (A.secs[j]'(by simpa using hj)) (List.getElem_mem _)
  split
  · exact ⟨hm.1, fill_length s⟩
  · exact hm
theorem Good.write {A : St} (h : A.Good) (i : Int) (s : List UInt8) : (A.write i s).2.Good := by
  unfold St.write
  split
  · exact h
  · split
    · exact h
    · exact Good.count (Good.put h _ _)
theorem now_len {x : Sec} (h : x.safe.length = 64 ∧ x.new.length = 64) : x.now.length = 64 := by
  unfold Sec.now
  split
  · exact h.2
  · exact h.1
theorem Good.settle {A : St} (h : A.Good) : A.settle.Good := by
  refine ⟨fun x hx => ?_, h.arm0, h.arm1, by simpa [St.settle] using h.big⟩
  simp only [St.settle, List.mem_map] at hx
  obtain ⟨y, hy, rfl⟩ := hx
  exact ⟨now_len (h.len y hy), (h.len y hy).2⟩
theorem Good.sync {A : St} (h : A.Good) : A.sync.2.Good := by
  unfold St.sync
  split
  · exact h
  · split
    · exact Good.count h
    · exact Good.settle (Good.count h)
theorem Good.crash {A : St} (h : A.Good) (c : Cr) : (A.crash c).Good :=
  ⟨crashL_len c _ 0 h.len, by simp [St.crash], by simp [St.crash], by simpa [St.crash, crashL_length] using h.big⟩
theorem Good.armed {A : St} (h : A.Good) (n : Int) (hn : n ≤ 9223372036854775807) : (A.armed n).2.Good := by
  unfold St.armed
  split
  · exact h
  · split
    · exact h
    · exact ⟨h.len, by simp only; omega, hn, h.big⟩
theorem Good.made (n : Nat) (hn : n ≤ 4096) : (made n).Good :=
  ⟨fun x hx => by
    have := List.eq_of_mem_replicate hx
    subst this
    exact ⟨rfl, rfl⟩, by simp [Dk.made], by simp [Dk.made], by simpa [Dk.made] using hn⟩

theorem n_count (A : St) : A.count.2.n = A.n := by
  unfold St.count
  split
  · rfl
  · split <;> rfl
theorem n_put (A : St) (i : Nat) (s : List UInt8) : (A.put i s).n = A.n := by simp [St.put, St.n]
theorem n_write (A : St) (i : Int) (s : List UInt8) : (A.write i s).2.n = A.n := by
  unfold St.write
  split
  · rfl
  · split
    · rfl
    · rw [n_count, n_put]
theorem n_settle (A : St) : A.settle.n = A.n := by simp [St.settle, St.n]
theorem n_sync (A : St) : A.sync.2.n = A.n := by
  unfold St.sync
  split
  · rfl
  · split
    · exact n_count A
    · rw [n_settle, n_count]
theorem n_crash (A : St) (c : Cr) : (A.crash c).n = A.n := by simp [St.crash, St.n, crashL_length]
theorem n_armed (A : St) (n : Int) : (A.armed n).2.n = A.n := by
  unfold St.armed
  split
  · rfl
  · split <;> rfl

/-! rows of sectors as one row -/
theorem flat_length (L : List (List UInt8)) (h : ∀ x ∈ L, x.length = 64) : L.flatten.length = 64 * L.length := by
  induction L with
  | nil => rfl
  | cons x r ih =>
    rw [List.flatten_cons, List.length_append, h x List.mem_cons_self, ih (fun y hy => h y (List.mem_cons_of_mem _ hy)), List.length_cons]
    omega
theorem flat_drop (L : List (List UInt8)) (h : ∀ x ∈ L, x.length = 64) : ∀ i, L.flatten.drop (64 * i) = (L.drop i).flatten := by
  induction L with
  | nil => intro i; simp
  | cons x r ih =>
    intro i
    cases i with
    | zero => simp
    | succ i =>
      rw [List.flatten_cons, List.drop_append, List.drop_of_length_le (by rw [h x List.mem_cons_self]; omega), h x List.mem_cons_self, List.nil_append, show 64 * (i + 1) - 64 = 64 * i by omega,
        ih (fun y hy => h y (List.mem_cons_of_mem _ hy)), List.drop_succ_cons]
theorem flat_take (L : List (List UInt8)) (h : ∀ x ∈ L, x.length = 64) : ∀ i, L.flatten.take (64 * i) = (L.take i).flatten := by
  induction L with
  | nil => intro i; simp
  | cons x r ih =>
    intro i
    cases i with
    | zero => simp
    | succ i =>
      rw [List.flatten_cons, List.take_append, List.take_of_length_le (by rw [h x List.mem_cons_self]; omega), h x List.mem_cons_self, show 64 * (i + 1) - 64 = 64 * i by omega,
        ih (fun y hy => h y (List.mem_cons_of_mem _ hy)), List.take_succ_cons, List.flatten_cons]
theorem flat_sector (L : List (List UInt8)) (h : ∀ x ∈ L, x.length = 64) (i : Nat) (hi : i < L.length) : (L.flatten.drop (64 * i)).take 64 = L[i] := by
  have hl : L[i].length = 64 := h _ (List.getElem_mem hi)
  rw [flat_drop L h, List.drop_eq_getElem_cons hi, List.flatten_cons]
  exact List.take_left' hl
theorem flat_get (L : List (List UInt8)) (h : ∀ x ∈ L, x.length = 64) (i j : Nat) (hi : i < L.length) (hj : j < 64) : L.flatten[64 * i + j]? = L[i][j]? := by
  have h1 : L.flatten[64 * i + j]? = ((L.flatten.drop (64 * i)).take 64)[j]? := by rw [List.getElem?_take, if_pos hj, List.getElem?_drop]
  rw [h1, flat_sector L h i hi]
/-- bytes written into one sector -/
theorem flat_splice (L : List (List UInt8)) (h : ∀ x ∈ L, x.length = 64) (i k : Nat) (hi : i < L.length) (cs : List UInt8) (hk : k + cs.length ≤ 64) :
    splice L.flatten (64 * i + k) cs = (L.set i (splice L[i] k cs)).flatten := by
  have hl : L[i].length = 64 := h _ (List.getElem_mem hi)
  have e : L.flatten = (L.take i).flatten ++ (L[i] ++ (L.drop (i + 1)).flatten) := by
    rw [← List.flatten_cons, ← List.drop_eq_getElem_cons hi, ← List.flatten_append, List.take_append_drop]
  have hp : (L.take i).flatten.length = 64 * i := by
    rw [flat_length _ (fun x hx => h x (List.mem_of_mem_take hx)), List.length_take, Nat.min_eq_left (Nat.le_of_lt hi)]
  rw [List.set_eq_take_append_cons_drop, if_pos hi, List.flatten_append, List.flatten_cons]
  generalize (L.take i).flatten = P at *
  generalize (L.drop (i + 1)).flatten = S at *
  generalize L[i] = M at *
  unfold splice
  rw [e, List.take_append, List.take_of_length_le (by omega), hp, show 64 * i + k - 64 * i = k by omega, List.take_append_of_le_length (by omega),
    List.drop_append, List.drop_of_length_le (by omega), hp, List.nil_append, show 64 * i + k + cs.length - 64 * i = k + cs.length by omega, List.drop_append_of_le_length (by omega)]
  simp only [List.append_assoc]
end Go.Proofs.Ytpjpncfoenadhaa.Dk
