/- Plain law: the bytewise sum and the bitwise sum are one; the sum is one-to-one in its remainder and in each byte. -/
namespace Go.Proofs.Ytbeenfkmnchhbaa.Sums

def P : Nat := 3988292384
def T (r : Nat) : Nat := if r % 2 = 1 then (r / 2) ^^^ P else r / 2
def It : Nat → Nat → Nat
  | 0, r => r
  | j + 1, r => T (It j r)
def step (r c : Nat) : Nat := It 8 (r ^^^ c)
def fold (r : Nat) (l : List Nat) : Nat := l.foldl step r
def more (s : Nat) (l : List Nat) : Nat := fold (s ^^^ 4294967295) l ^^^ 4294967295
def crc (l : List Nat) : Nat := more 0 l

/-- bit i of bytes -/
def bit (l : List Nat) (i : Nat) : Nat := (l.getD (i / 8) 0) / 2 ^ (i % 8) % 2
/-- the reference's remainder behind i rbits -/
def rbits (r : Nat) (l : List Nat) : Nat → Nat
  | 0 => r
  | i + 1 => T (rbits r l i ^^^ bit l i)

theorem xor_swap (a b c d : Nat) : (a ^^^ b) ^^^ (c ^^^ d) = (a ^^^ c) ^^^ (b ^^^ d) := by
  rw [Nat.xor_assoc, ← Nat.xor_assoc b c d, Nat.xor_comm b c, Nat.xor_assoc c b d, ← Nat.xor_assoc]

theorem T_xor (x y : Nat) : T (x ^^^ y) = T x ^^^ T y := by
  have h := @Nat.xor_mod_two_eq_one x y
  unfold T
  by_cases hx : x % 2 = 1 <;> by_cases hy : y % 2 = 1
  · rw [if_neg (by rw [h]; simp [hx, hy]), if_pos hx, if_pos hy, Nat.xor_div_two, xor_swap, Nat.xor_self, Nat.xor_zero]
  · rw [if_pos (by rw [h]; simp [hx, hy]), if_pos hx, if_neg hy, Nat.xor_div_two, Nat.xor_assoc, Nat.xor_comm (y / 2), ← Nat.xor_assoc]
  · rw [if_pos (by rw [h]; simp [hx, hy]), if_neg hx, if_pos hy, Nat.xor_div_two, Nat.xor_assoc]
  · rw [if_neg (by rw [h]; simp [hx, hy]), if_neg hx, if_neg hy, Nat.xor_div_two]

theorem T_lt {x : Nat} (h : x < 4294967296) : T x < 4294967296 := by
  unfold T
  split
  · exact Nat.xor_lt_two_pow (n := 32) (by omega) (by decide)
  · omega

theorem T_zero {z : Nat} (h : z < 4294967296) (h0 : T z = 0) : z = 0 := by
  unfold T at h0
  split at h0
  · have : z / 2 = P := by
      have e : (z / 2 ^^^ P) ^^^ P = P := by rw [h0]; simp
      rw [Nat.xor_assoc, Nat.xor_self, Nat.xor_zero] at e
      exact e
    unfold P at this; omega
  · omega

theorem eq_of_xor {a b : Nat} (h : a ^^^ b = 0) : a = b := by
  have e : (a ^^^ b) ^^^ b = b := by rw [h]; simp
  rw [Nat.xor_assoc, Nat.xor_self, Nat.xor_zero] at e
  exact e

theorem xor_lt {a b : Nat} (ha : a < 4294967296) (hb : b < 4294967296) : a ^^^ b < 4294967296 := Nat.xor_lt_two_pow (n := 32) ha hb

theorem T_inj {x y : Nat} (hx : x < 4294967296) (hy : y < 4294967296) (h : T x = T y) : x = y :=
  eq_of_xor (T_zero (xor_lt hx hy) (by rw [T_xor, h, Nat.xor_self]))

theorem It_lt {x : Nat} (h : x < 4294967296) (j : Nat) : It j x < 4294967296 := by
  induction j with
  | zero => exact h
  | succ j ih => exact T_lt ih

theorem It_inj {x y : Nat} (hx : x < 4294967296) (hy : y < 4294967296) (j : Nat) (h : It j x = It j y) : x = y := by
  induction j with
  | zero => exact h
  | succ j ih => exact ih (T_inj (It_lt hx j) (It_lt hy j) h)

theorem step_lt {r c : Nat} (hr : r < 4294967296) (hc : c < 256) : step r c < 4294967296 := It_lt (xor_lt hr (by omega)) 8

theorem xor_left {a b c : Nat} (h : a ^^^ b = a ^^^ c) : b = c := by
  have e : a ^^^ (a ^^^ b) = a ^^^ (a ^^^ c) := by rw [h]
  rw [← Nat.xor_assoc, ← Nat.xor_assoc, Nat.xor_self, Nat.zero_xor, Nat.zero_xor] at e
  exact e

theorem step_inj_r {r r' c : Nat} (hr : r < 4294967296) (hr' : r' < 4294967296) (hc : c < 256) (h : step r c = step r' c) : r = r' := by
  have := It_inj (xor_lt hr (by omega)) (xor_lt hr' (by omega)) 8 h
  rw [Nat.xor_comm r, Nat.xor_comm r'] at this
  exact xor_left this

theorem step_inj_c {r c c' : Nat} (hr : r < 4294967296) (hc : c < 256) (hc' : c' < 256) (h : step r c = step r c') : c = c' :=
  xor_left (It_inj (xor_lt hr (by omega)) (xor_lt hr (by omega)) 8 h)

theorem fold_lt {r : Nat} (hr : r < 4294967296) (l : List Nat) (hl : ∀ c ∈ l, c < 256) : fold r l < 4294967296 := by
  induction l generalizing r with
  | nil => exact hr
  | cons c l ih => exact ih (step_lt hr (hl c (by simp))) (fun x hx => hl x (by simp [hx]))

theorem fold_inj {r r' : Nat} (hr : r < 4294967296) (hr' : r' < 4294967296) (l : List Nat) (hl : ∀ c ∈ l, c < 256) (h : fold r l = fold r' l) : r = r' := by
  induction l generalizing r r' with
  | nil => exact h
  | cons c l ih =>
    have hc := hl c (by simp)
    exact step_inj_r hr hr' hc (ih (step_lt hr hc) (step_lt hr' hc) (fun x hx => hl x (by simp [hx])) h)

theorem fold_append (r : Nat) (l m : List Nat) : fold r (l ++ m) = fold (fold r l) m := by simp [fold]

theorem more_lt {s : Nat} (hs : s < 4294967296) (l : List Nat) (hl : ∀ c ∈ l, c < 256) : more s l < 4294967296 :=
  xor_lt (fold_lt (xor_lt hs (by decide)) l hl) (by decide)

theorem xor_back (a b : Nat) : (a ^^^ b) ^^^ b = a := by rw [Nat.xor_assoc, Nat.xor_self, Nat.xor_zero]

theorem more_append (s : Nat) (l m : List Nat) : more (more s l) m = more s (l ++ m) := by
  unfold more; rw [xor_back, fold_append]

theorem more_nil (s : Nat) : more s [] = s := by
  show (s ^^^ 4294967295) ^^^ 4294967295 = s
  exact xor_back _ _

theorem crc_turned (pre post : List Nat) (c c' : Nat) (hpre : ∀ x ∈ pre, x < 256) (hpost : ∀ x ∈ post, x < 256) (hc : c < 256) (hc' : c' < 256) (hne : c ≠ c') :
    crc (pre ++ c :: post) ≠ crc (pre ++ c' :: post) := by
  intro h
  unfold crc more at h
  have h1 : fold (0 ^^^ 4294967295) (pre ++ c :: post) = fold (0 ^^^ 4294967295) (pre ++ c' :: post) := by
    have e := congrArg (· ^^^ 4294967295) h
    simpa only [xor_back] using e
  rw [fold_append, fold_append] at h1
  have hr : fold (0 ^^^ 4294967295) pre < 4294967296 := fold_lt (by decide) pre hpre
  exact hne (step_inj_c hr hc hc' (fold_inj (step_lt hr hc) (step_lt hr hc') post hpost h1))

theorem T_double (x : Nat) : T (2 * x) = x := by
  unfold T; rw [if_neg (by omega)]; omega

theorem split_bit (d : Nat) : d = (d % 2) ^^^ (2 * (d / 2)) := by
  apply Nat.eq_of_testBit_eq
  intro i
  rw [Nat.testBit_xor]
  cases i with
  | zero => simp [Nat.testBit_zero]
  | succ i =>
    rw [Nat.testBit_succ, Nat.testBit_succ, Nat.testBit_succ]
    rw [show d % 2 / 2 = 0 by omega, show 2 * (d / 2) / 2 = d / 2 by omega]
    simp

theorem T_bit (s d : Nat) : T (s ^^^ d) = T (s ^^^ d % 2) ^^^ (d / 2) := by
  conv => lhs; rw [split_bit d]
  rw [← Nat.xor_assoc, T_xor (s ^^^ d % 2), T_double]

/-- j rbits of one byte -/
theorem rbits_byte (r : Nat) (l : List Nat) (k : Nat) (j : Nat) (hj : j ≤ 8) :
    It j (rbits r l (8 * k) ^^^ l.getD k 0) = rbits r l (8 * k + j) ^^^ (l.getD k 0 / 2 ^ j) := by
  induction j with
  | zero => simp [It]
  | succ j ih =>
    rw [It, ih (by omega), T_bit, Nat.div_div_eq_div_mul, ← Nat.pow_succ]
    congr 1
    show _ = T (rbits r l (8 * k + j) ^^^ bit l (8 * k + j))
    unfold bit
    rw [show (8 * k + j) / 8 = k by omega, show (8 * k + j) % 8 = j by omega]

theorem getD_lt (l : List Nat) (hl : ∀ c ∈ l, c < 256) (k : Nat) : l.getD k 0 < 256 := by
  rw [List.getD_eq_getElem?_getD]
  by_cases h : k < l.length
  · rw [List.getElem?_eq_getElem h]; exact hl _ (List.getElem_mem h)
  · rw [List.getElem?_eq_none (by omega)]; decide

theorem rbits_fold (r : Nat) (l : List Nat) (hl : ∀ c ∈ l, c < 256) (k : Nat) (hk : k ≤ l.length) : rbits r l (8 * k) = fold r (l.take k) := by
  induction k with
  | zero => simp [rbits, fold]
  | succ k ih =>
    have h8 := rbits_byte r l k 8 (by omega)
    have hlt := getD_lt l hl k
    rw [show l.getD k 0 / 2 ^ 8 = 0 by omega, Nat.xor_zero] at h8
    rw [show 8 * (k + 1) = 8 * k + 8 by omega, ← h8, ih (by omega)]
    rw [List.take_succ_eq_append_getElem (by omega), fold_append]
    rw [List.getD_eq_getElem?_getD, List.getElem?_eq_getElem (by omega)]
    rfl

theorem rbits_lt {r : Nat} (hr : r < 4294967296) (l : List Nat) (i : Nat) : rbits r l i < 4294967296 := by
  induction i with
  | zero => exact hr
  | succ i ih => exact T_lt (xor_lt ih (by unfold bit; omega))

/-- Fnv -/
def fnv (l : List Nat) : Nat := l.foldl (fun h c => (h ^^^ c) * 1099511628211 % 18446744073709551616) 14695981039346656037

theorem knows : crc [49, 50, 51, 52, 53, 54, 55, 56, 57] = 3421780262 := by decide +kernel

end Go.Proofs.Ytbeenfkmnchhbaa.Sums
