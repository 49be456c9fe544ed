/- Plain arithmetic of the check over bytes: bit by bit, byte by byte and four bits at a time come to the same; one turned bit turns the check. No program in sight. -/
import Derived.Laws.BitsAllLaws
import Derived.RowKit
namespace Go.Proofs.Ytbjkefodlnkaeaa.Crc

/-- one bit falls out -/
def fall (r : Nat) : Nat := (r / 2) ^^^ (if r % 2 = 1 then 2197175160 else 0)
def fall4 (r : Nat) : Nat := fall (fall (fall (fall r)))
def byteStep (r c : Nat) : Nat := fall4 (fall4 (r ^^^ c))
/-- the register behind bytes -/
def regs (r : Nat) (l : List UInt8) : Nat := l.foldl (fun r c => byteStep r c.toNat) r
def flip (r : Nat) : Nat := 4294967295 - r
def more (sum : Nat) (l : List UInt8) : Nat := flip (regs (flip sum) l)
def sum (l : List UInt8) : Nat := more 0 l

theorem eq_of_xor (a b : Nat) (h : a ^^^ b = 0) : a = b := by
  have : a ^^^ b ^^^ b = b := by rw [h, Nat.zero_xor]
  rwa [Nat.xor_assoc, Nat.xor_self, Nat.xor_zero] at this
theorem xor_can (a b c : Nat) (h : a ^^^ b = a ^^^ c) : b = c := by
  have : a ^^^ (a ^^^ b) = a ^^^ (a ^^^ c) := by rw [h]
  rwa [← Nat.xor_assoc, ← Nat.xor_assoc, Nat.xor_self, Nat.zero_xor, Nat.zero_xor] at this
theorem half_xor (a b : Nat) : (a ^^^ b) / 2 = a / 2 ^^^ b / 2 := by
  have := Nat.shiftRight_xor_distrib (a := a) (b := b) (i := 1)
  simpa [Nat.shiftRight_eq_div_pow] using this
theorem odd_xor (a b : Nat) : (a ^^^ b) % 2 = (a % 2 + b % 2) % 2 := by
  have h : (a ^^^ b) % 2 = (a % 2) ^^^ (b % 2) := by
    have := @Nat.xor_mod_two_pow a b 1
    simpa using this
  rw [h]
  rcases Nat.mod_two_eq_zero_or_one a with ha | ha <;> rcases Nat.mod_two_eq_zero_or_one b with hb | hb <;> rw [ha, hb] <;> rfl
theorem fall_xor (a b : Nat) : fall (a ^^^ b) = fall a ^^^ fall b := by
  unfold fall
  rw [half_xor, odd_xor]
  have sh : ∀ x y p : Nat, (x ^^^ y) ^^^ p = (x ^^^ p) ^^^ y := fun x y p => by rw [Nat.xor_assoc, Nat.xor_comm y p, ← Nat.xor_assoc]
  rcases Nat.mod_two_eq_zero_or_one a with ha | ha <;> rcases Nat.mod_two_eq_zero_or_one b with hb | hb <;> rw [ha, hb]
  · simp
  · simp [Nat.xor_assoc]
  · simp only [Nat.reduceAdd, Nat.reduceMod, if_true, Nat.zero_ne_one, if_false, Nat.xor_zero]
    rw [sh]
  · simp only [Nat.reduceAdd, Nat.reduceMod, if_true, Nat.zero_ne_one, if_false, Nat.xor_zero]
    have : ∀ x y p : Nat, (x ^^^ p) ^^^ (y ^^^ p) = x ^^^ y := fun x y p => by
      rw [Nat.xor_comm y p, Nat.xor_assoc, ← Nat.xor_assoc p p, Nat.xor_self, Nat.zero_xor]
    rw [this]
theorem fall_even (a : Nat) : fall (2 * a) = a := by
  unfold fall
  rw [if_neg (by omega), Nat.xor_zero]
  omega
theorem fall_lt (r : Nat) (h : r < 4294967296) : fall r < 4294967296 := by
  unfold fall
  have h1 : r / 2 < 2 ^ 32 := by omega
  have h2 : (if r % 2 = 1 then 2197175160 else 0) < 2 ^ 32 := by split <;> decide
  exact Nat.xor_lt_two_pow h1 h2
theorem fall_zero (c : Nat) (hc : c < 4294967296) (h : fall c = 0) : c = 0 := by
  unfold fall at h
  have h1 := eq_of_xor _ _ h
  by_cases ho : c % 2 = 1
  · rw [if_pos ho] at h1
    omega
  · rw [if_neg ho] at h1
    omega
theorem fall_inj (a b : Nat) (ha : a < 4294967296) (hb : b < 4294967296) (h : fall a = fall b) : a = b := by
  have h0 : fall (a ^^^ b) = 0 := by rw [fall_xor, h, Nat.xor_self]
  exact eq_of_xor _ _ (fall_zero _ (Nat.xor_lt_two_pow (n := 32) ha hb) h0)
theorem fall4_lt (r : Nat) (h : r < 4294967296) : fall4 r < 4294967296 := fall_lt _ (fall_lt _ (fall_lt _ (fall_lt _ h)))
theorem fall4_inj (a b : Nat) (ha : a < 4294967296) (hb : b < 4294967296) (h : fall4 a = fall4 b) : a = b :=
  fall_inj a b ha hb (fall_inj _ _ (fall_lt _ ha) (fall_lt _ hb) (fall_inj _ _ (fall_lt _ (fall_lt _ ha)) (fall_lt _ (fall_lt _ hb)) (fall_inj _ _ (fall_lt _ (fall_lt _ (fall_lt _ ha))) (fall_lt _ (fall_lt _ (fall_lt _ hb))) h)))
theorem fall4_xor (a b : Nat) : fall4 (a ^^^ b) = fall4 a ^^^ fall4 b := by
  unfold fall4
  rw [fall_xor, fall_xor, fall_xor, fall_xor]
theorem fall4_16 (a : Nat) : fall4 (16 * a) = a := by
  unfold fall4
  rw [show 16 * a = 2 * (2 * (2 * (2 * a))) by omega, fall_even, fall_even, fall_even, fall_even]
theorem split_pow (x i : Nat) : x = (2 ^ i * (x / 2 ^ i)) ^^^ (x % 2 ^ i) := by
  apply Nat.eq_of_testBit_eq
  intro j
  rw [Nat.testBit_xor, Nat.testBit_two_pow_mul, Nat.testBit_mod_two_pow, Nat.testBit_div_two_pow]
  by_cases h : i ≤ j
  · rw [show j - i + i = j by omega]
    simp [h, show ¬ j < i by omega]
  · simp [h, show j < i by omega]
/-- what four bits that fall out come to -/
theorem fall4_split (x : Nat) : fall4 x = (x / 16) ^^^ fall4 (x % 16) := by
  have h := split_pow x 4
  have e := congrArg fall4 h
  rw [fall4_xor] at e
  rw [e, show 2 ^ 4 = 16 from rfl, fall4_16]
def tab (i : Nat) : Nat := ([0, 274646895, 549293790, 820201905, 1098587580, 1361435347, 1640403810, 1905808397, 2197175160, 2460548119, 2722870694, 2987750089, 3280807620, 3553878443, 3811616794, 4084100981] : List Nat).getD i 0
theorem tab_all : ∀ i : Fin 16, fall4 i.val = tab i.val := by decide +kernel
theorem fall4_tab (x : Nat) : fall4 x = (x / 16) ^^^ tab (x % 16) := by rw [fall4_split, tab_all ⟨x % 16, Nat.mod_lt _ (by omega)⟩]
theorem byteStep_lt (r c : Nat) (h : r < 4294967296) (hc : c < 256) : byteStep r c < 4294967296 :=
  fall4_lt _ (fall4_lt _ (Nat.xor_lt_two_pow (n := 32) h (by omega)))
theorem byteStep_inj (r c d : Nat) (h : r < 4294967296) (hc : c < 256) (hd : d < 256) (e : byteStep r c = byteStep r d) : c = d := by
  have h1 : r ^^^ c < 4294967296 := Nat.xor_lt_two_pow (n := 32) h (by omega)
  have h2 : r ^^^ d < 4294967296 := Nat.xor_lt_two_pow (n := 32) h (by omega)
  exact xor_can r c d (fall4_inj _ _ h1 h2 (fall4_inj _ _ (fall4_lt _ h1) (fall4_lt _ h2) e))
theorem byteStep_reg (r q c : Nat) (h : r < 4294967296) (hq : q < 4294967296) (hc : c < 256) (e : byteStep r c = byteStep q c) : r = q := by
  have h1 : r ^^^ c < 4294967296 := Nat.xor_lt_two_pow (n := 32) h (by omega)
  have h2 : q ^^^ c < 4294967296 := Nat.xor_lt_two_pow (n := 32) hq (by omega)
  have := fall4_inj _ _ h1 h2 (fall4_inj _ _ (fall4_lt _ h1) (fall4_lt _ h2) e)
  rw [Nat.xor_comm r, Nat.xor_comm q] at this
  exact xor_can c r q this
theorem regs_lt (l : List UInt8) : ∀ r, r < 4294967296 → regs r l < 4294967296 := by
  induction l with
  | nil => intro r h; exact h
  | cons c l ih => intro r h; exact ih _ (byteStep_lt r _ h c.toNat_lt)
theorem regs_append (r : Nat) (l m : List UInt8) : regs r (l ++ m) = regs (regs r l) m := by unfold regs; rw [List.foldl_append]
theorem regs_snoc (r : Nat) (l : List UInt8) (c : UInt8) : regs r (l ++ [c]) = byteStep (regs r l) c.toNat := by rw [regs_append]; rfl
theorem regs_inj (l : List UInt8) : ∀ r q, r < 4294967296 → q < 4294967296 → regs r l = regs q l → r = q := by
  induction l with
  | nil => intro r q _ _ h; exact h
  | cons c l ih =>
    intro r q hr hq h
    exact byteStep_reg r q _ hr hq c.toNat_lt (ih _ _ (byteStep_lt r _ hr c.toNat_lt) (byteStep_lt q _ hq c.toNat_lt) h)
/-- one byte that is another turns the register behind all -/
theorem regs_ne (r : Nat) (hr : r < 4294967296) (l m : List UInt8) (c d : UInt8) (h : regs r (l ++ c :: m) = regs r (l ++ d :: m)) : c = d := by
  rw [regs_append, regs_append] at h
  have hl := regs_lt l r hr
  have h2 := regs_inj m _ _ (byteStep_lt _ _ hl c.toNat_lt) (byteStep_lt _ _ hl d.toNat_lt) h
  exact UInt8.toNat_inj.1 (byteStep_inj _ _ _ hl c.toNat_lt d.toNat_lt h2)
theorem flip_lt (r : Nat) : flip r < 4294967296 := by unfold flip; omega
theorem flip_flip (r : Nat) (h : r < 4294967296) : flip (flip r) = r := by unfold flip; omega
theorem flip_inj (a b : Nat) (ha : a < 4294967296) (hb : b < 4294967296) (h : flip a = flip b) : a = b := by unfold flip at h; omega
theorem more_lt (n : Nat) (l : List UInt8) : more n l < 4294967296 := flip_lt _
theorem sum_lt (l : List UInt8) : sum l < 4294967296 := flip_lt _
theorem more_more (n : Nat) (l m : List UInt8) : more (more n l) m = more n (l ++ m) := by
  unfold more
  rw [flip_flip _ (regs_lt _ _ (flip_lt _)), regs_append]
theorem more_nil (n : Nat) (h : n < 4294967296) : more n [] = n := flip_flip n h
theorem sum_ne (l m : List UInt8) (c d : UInt8) (h : sum (l ++ c :: m) = sum (l ++ d :: m)) : c = d :=
  regs_ne (flip 0) (by decide) l m c d (flip_inj _ _ (regs_lt _ _ (by decide)) (regs_lt _ _ (by decide)) h)

/-! the document's way: bit by bit -/
theorem fall_bit (r c : Nat) : fall (r ^^^ c) = fall (r ^^^ c % 2) ^^^ c / 2 := by
  have h := split_pow c 1
  rw [show (2 : Nat) ^ 1 = 2 from rfl] at h
  have : r ^^^ c = (r ^^^ c % 2) ^^^ 2 * (c / 2) := by
    rw [Nat.xor_assoc, Nat.xor_comm (c % 2), ← h]
  rw [this, fall_xor, fall_even]
/-- what a round of the document's loop does -/
def step1 (r b : Nat) : Nat := if r % 2 = b then r / 2 else (r / 2) ^^^ 2197175160
theorem step1_fall (r b : Nat) (hb : b < 2) : step1 r b = fall (r ^^^ b) := by
  unfold step1 fall
  rw [half_xor, odd_xor, show b / 2 = 0 by omega, Nat.xor_zero]
  by_cases h : r % 2 = b
  · rw [if_pos h, if_neg (by omega), Nat.xor_zero]
  · rw [if_neg h, if_pos (by omega)]
def bitOf (l : List UInt8) (i : Nat) : Nat := (l.getD (i / 8) 0).toNat / 2 ^ (i % 8) % 2
/-- the register behind i bits -/
def refAt (l : List UInt8) : Nat → Nat
  | 0 => 4294967295
  | i + 1 => step1 (refAt l i) (bitOf l i)
theorem refAt_in (l : List UInt8) (k : Nat) : ∀ j, j ≤ 8 → refAt l (8 * k + j) ^^^ ((l.getD k 0).toNat / 2 ^ j) = Nat.repeat fall j (refAt l (8 * k) ^^^ (l.getD k 0).toNat)
  | 0, _ => by simp [Nat.repeat]
  | j + 1, h => by
    have ih := refAt_in l k j (by omega)
    have hb : bitOf l (8 * k + j) = (l.getD k 0).toNat / 2 ^ j % 2 := by
      unfold bitOf
      rw [show (8 * k + j) / 8 = k by omega, show (8 * k + j) % 8 = j by omega]
    show refAt l (8 * k + j + 1) ^^^ _ = fall (Nat.repeat fall j _)
    rw [← ih, fall_bit]
    show step1 (refAt l (8 * k + j)) (bitOf l (8 * k + j)) ^^^ _ = _
    rw [hb, step1_fall _ _ (Nat.mod_lt _ (by omega)), Nat.div_div_eq_div_mul, Nat.pow_succ]
theorem repeat8 (x : Nat) : Nat.repeat fall 8 x = fall4 (fall4 x) := rfl
theorem refAt_byte (l : List UInt8) (k : Nat) : refAt l (8 * (k + 1)) = byteStep (refAt l (8 * k)) (l.getD k 0).toNat := by
  have h := refAt_in l k 8 (Nat.le_refl _)
  have hc := (l.getD k 0).toNat_lt
  rw [show (l.getD k 0).toNat / 2 ^ 8 = 0 from Nat.div_eq_of_lt hc, Nat.xor_zero, repeat8] at h
  exact h
theorem refAt_regs (l : List UInt8) : ∀ k, k ≤ l.length → refAt l (8 * k) = regs 4294967295 (l.take k)
  | 0, _ => rfl
  | k + 1, h => by
    rw [refAt_byte, refAt_regs l k (by omega), List.take_succ_eq_append_getElem (by omega), regs_snoc]
    simp [List.getD, List.getElem?_eq_getElem (show k < l.length by omega)]
theorem refAt_sum (l : List UInt8) : flip (refAt l (8 * l.length)) = sum l := by
  rw [refAt_regs l l.length (Nat.le_refl _), List.take_length]
  rfl
theorem refAt_lt (l : List UInt8) : ∀ i, refAt l i < 4294967296
  | 0 => by show 4294967295 < 4294967296; omega
  | i + 1 => by
    have h := refAt_lt l i
    have hb : bitOf l i < 2 := Nat.mod_lt _ (by omega)
    show step1 (refAt l i) (bitOf l i) < _
    rw [step1_fall _ _ hb]
    exact fall_lt _ (Nat.xor_lt_two_pow (n := 32) h (by omega))

/-! the check's bytes -/
def byte0 (n : Nat) : UInt8 := UInt8.ofNat (n % 256)
def byte1 (n : Nat) : UInt8 := UInt8.ofNat (n / 256 % 256)
def byte2 (n : Nat) : UInt8 := UInt8.ofNat (n / 65536 % 256)
def byte3 (n : Nat) : UInt8 := UInt8.ofNat (n / 16777216 % 256)
theorem byte0_is (n : Nat) : ((n : Int) % 256) = ((byte0 n).toNat : Int) := by
  unfold byte0
  rw [UInt8.toNat_ofNat']
  omega
theorem byte1_is (n : Nat) : ((n : Int) / 256 % 256) = ((byte1 n).toNat : Int) := by
  unfold byte1
  rw [UInt8.toNat_ofNat']
  omega
theorem byte2_is (n : Nat) : ((n : Int) / 65536 % 256) = ((byte2 n).toNat : Int) := by
  unfold byte2
  rw [UInt8.toNat_ofNat']
  omega
theorem byte3_is (n : Nat) (h : n < 4294967296) : ((n : Int) / 16777216) = ((byte3 n).toNat : Int) := by
  unfold byte3
  rw [UInt8.toNat_ofNat']
  omega
def four (n : Nat) : List UInt8 := [byte0 n, byte1 n, byte2 n, byte3 n]
theorem four_length (n : Nat) : (four n).length = 4 := rfl
theorem byte_inj (a b : Nat) (ha : a < 256) (hb : b < 256) (h : UInt8.ofNat a = UInt8.ofNat b) : a = b := by
  have := congrArg UInt8.toNat h
  rw [UInt8.toNat_ofNat', UInt8.toNat_ofNat'] at this
  omega
theorem four_inj (n m : Nat) (hn : n < 4294967296) (hm : m < 4294967296) (h : four n = four m) : n = m := by
  unfold four byte0 byte1 byte2 byte3 at h
  injection h with h0 h
  injection h with h1 h
  injection h with h2 h
  injection h with h3 _
  have e0 := byte_inj _ _ (by omega) (by omega) h0
  have e1 := byte_inj _ _ (by omega) (by omega) h1
  have e2 := byte_inj _ _ (by omega) (by omega) h2
  have e3 := byte_inj _ _ (by omega) (by omega) h3
  omega
/-- bytes with their check ahead -/
def lay (l : List UInt8) : List UInt8 := four (sum l) ++ l
theorem lay_length (l : List UInt8) : (lay l).length = 4 + l.length := by simp [lay, four_length]
theorem lay_drop (l : List UInt8) : (lay l).drop 4 = l := rfl
theorem lay_take (l : List UInt8) : (lay l).take 4 = four (sum l) := rfl
/-- are these bytes with their check ahead? -/
def good (l : List UInt8) : Bool := decide (l.take 4 = four (sum (l.drop 4)))
theorem good_lay (l : List UInt8) : good (lay l) = true := by simp [good, lay_drop, lay_take]
theorem good_iff (l : List UInt8) : good l = true ↔ lay (l.drop 4) = l := by
  unfold good lay
  rw [decide_eq_true_eq]
  constructor
  · intro h
    rw [← h]
    exact List.take_append_drop 4 l
  · intro h
    have := congrArg (List.take 4) h
    rw [List.take_append_of_le_length (by rw [four_length]; omega), List.take_of_length_le (by rw [four_length]; omega)] at this
    exact this.symm
end Go.Proofs.Ytbjkefodlnkaeaa.Crc
