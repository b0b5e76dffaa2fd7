/- CRC-32C in plain numbers: a step of a register, linear over xor; tables; squares; what sums tell. Conditions: none. -/
namespace Go.Proofs.Ytpnagblbhlglhaa

/-- The polynomial, its bits turned round. -/
def polyC : Nat := 2197175160
/-- One bit of a register. -/
def st (s : Nat) : Nat := if s % 2 = 1 then (s / 2) ^^^ polyC else s / 2
def stN : Nat → Nat → Nat
  | 0, s => s
  | n + 1, s => stN n (st s)
def st8 (s : Nat) : Nat := stN 8 s

theorem xor_div2 (a b : Nat) : (a ^^^ b) / 2 = a / 2 ^^^ b / 2 := by
  apply Nat.eq_of_testBit_eq
  intro i
  simp [Nat.testBit_xor, Nat.testBit_div_two]
theorem xor_mod2 (a b : Nat) : (a ^^^ b) % 2 = (a % 2 + b % 2) % 2 := by
  have h : ∀ n : Nat, n % 2 = if n.testBit 0 then 1 else 0 := by
    intro n
    rw [Nat.testBit_zero]
    by_cases h : n % 2 = 1 <;> simp [h]; omega
  rw [h (a ^^^ b), h a, h b, Nat.testBit_xor]
  cases a.testBit 0 <;> cases b.testBit 0 <;> rfl
theorem xor_xor_cancel (p a b : Nat) : (a ^^^ p) ^^^ (b ^^^ p) = a ^^^ b := by
  apply Nat.eq_of_testBit_eq
  intro i
  simp only [Nat.testBit_xor]
  cases a.testBit i <;> cases b.testBit i <;> cases p.testBit i <;> rfl
theorem xor_swap (p a b : Nat) : (a ^^^ p) ^^^ b = (a ^^^ b) ^^^ p := by
  apply Nat.eq_of_testBit_eq
  intro i
  simp only [Nat.testBit_xor]
  cases a.testBit i <;> cases b.testBit i <;> cases p.testBit i <;> rfl
theorem st_xor (a b : Nat) : st (a ^^^ b) = st a ^^^ st b := by
  unfold st
  rw [xor_div2, xor_mod2]
  rcases Nat.mod_two_eq_zero_or_one a with ha | ha <;> rcases Nat.mod_two_eq_zero_or_one b with hb | hb <;> simp only [ha, hb] <;> simp
  · rw [Nat.xor_assoc]
  · rw [xor_swap]
  · rw [xor_xor_cancel]
theorem xor_lt32 {a b : Nat} (ha : a < 4294967296) (hb : b < 4294967296) : a ^^^ b < 4294967296 := by
  have e : (4294967296 : Nat) = 2 ^ 32 := by decide
  rw [e] at ha hb ⊢
  exact Nat.xor_lt_two_pow ha hb
theorem st_zero : st 0 = 0 := rfl
theorem stN_xor (n a b : Nat) : stN n (a ^^^ b) = stN n a ^^^ stN n b := by
  induction n generalizing a b with
  | zero => rfl
  | succ n ih => rw [stN, st_xor, ih]; rfl
theorem st8_xor (a b : Nat) : st8 (a ^^^ b) = st8 a ^^^ st8 b := stN_xor 8 a b
theorem stN_zero (n : Nat) : stN n 0 = 0 := by
  induction n with
  | zero => rfl
  | succ n ih => rw [stN, st_zero, ih]
theorem stN_add (m n s : Nat) : stN (m + n) s = stN n (stN m s) := by
  induction m generalizing s with
  | zero => rw [Nat.zero_add]; rfl
  | succ m ih => rw [Nat.succ_add, stN, ih]; rfl
theorem stN_succ (n s : Nat) : stN (n + 1) s = st (stN n s) := by rw [stN_add]; rfl
theorem st_lt {s : Nat} (h : s < 4294967296) : st s < 4294967296 := by
  unfold st
  split
  · exact xor_lt32 (by omega) (by decide)
  · omega
theorem stN_lt {s : Nat} (n : Nat) (h : s < 4294967296) : stN n s < 4294967296 := by
  induction n generalizing s with
  | zero => exact h
  | succ n ih => exact ih (st_lt h)
theorem st_even (q : Nat) : st (2 * q) = q := by unfold st; rw [if_neg (by omega)]; omega
theorem stN_shift (n q : Nat) : stN n (2 ^ n * q) = q := by
  induction n with
  | zero => simp [stN]
  | succ n ih => rw [stN, show 2 ^ (n + 1) * q = 2 * (2 ^ n * q) by rw [Nat.pow_succ]; rw [Nat.mul_comm (2 ^ n) 2, Nat.mul_assoc], st_even, ih]
/-- A number is its high part, xor its low part. -/
theorem split_xor (k s : Nat) : s = (2 ^ k * (s / 2 ^ k)) ^^^ (s % 2 ^ k) := by
  apply Nat.eq_of_testBit_eq
  intro i
  rw [Nat.testBit_xor, Nat.testBit_mod_two_pow, Nat.testBit_two_pow_mul, Nat.testBit_div_two_pow]
  by_cases h : i < k
  · simp [h, Nat.not_le.2 h]
  · have h2 : k ≤ i := by omega
    simp [h, h2]
/-- Four bits at once, by a table of the low half. -/
theorem st4_table (s : Nat) : stN 4 s = (s / 16) ^^^ stN 4 (s % 16) := by
  conv => lhs; rw [split_xor 4 s]
  rw [stN_xor, stN_shift]

/-- A register that goes on over bytes. -/
def reg (s : Nat) : List Nat → Nat
  | [] => s
  | c :: l => reg (st8 (s ^^^ c)) l
theorem reg_append (s : Nat) (l m : List Nat) : reg s (l ++ m) = reg (reg s l) m := by
  induction l generalizing s with
  | nil => rfl
  | cons c l ih => exact ih _
theorem reg_lt {s : Nat} {l : List Nat} (hs : s < 4294967296) (hl : ∀ c ∈ l, c < 256) : reg s l < 4294967296 := by
  induction l generalizing s with
  | nil => exact hs
  | cons c l ih =>
    refine ih (stN_lt 8 (xor_lt32 hs ?_)) (fun d hd => hl d (List.mem_cons_of_mem _ hd))
    have := hl c (List.mem_cons_self ..)
    omega
/-- Two texts as long, two registers: the difference runs by itself. -/
def xorL : List Nat → List Nat → List Nat
  | a :: l, b :: m => (a ^^^ b) :: xorL l m
  | _, _ => []
theorem xor4 (a b c d : Nat) : (a ^^^ b) ^^^ (c ^^^ d) = (a ^^^ c) ^^^ (b ^^^ d) := by
  apply Nat.eq_of_testBit_eq
  intro i
  simp only [Nat.testBit_xor]
  cases a.testBit i <;> cases b.testBit i <;> cases c.testBit i <;> cases d.testBit i <;> rfl
theorem reg_cons (s c : Nat) (l : List Nat) : reg s (c :: l) = reg (st8 (s ^^^ c)) l := rfl
theorem reg_xor (s t : Nat) (l m : List Nat) (h : l.length = m.length) : reg (s ^^^ t) (xorL l m) = reg s l ^^^ reg t m := by
  induction l generalizing s t m with
  | nil =>
    have : m = [] := List.eq_nil_of_length_eq_zero (by rw [← h]; rfl)
    subst this
    rfl
  | cons a l ih =>
    obtain ⟨b, m, rfl⟩ : ∃ b m', m = b :: m' := by
      match m, h with
      | b :: m', _ => exact ⟨b, m', rfl⟩
    have h2 : l.length = m.length := by simpa using h
    have h3 := ih (st8 (s ^^^ a)) (st8 (t ^^^ b)) m h2
    rw [← st8_xor, xor4] at h3
    rw [reg_cons, reg_cons, ← h3]
    rfl
/-- The whole sum. -/
def crcMore (sum : Nat) (l : List Nat) : Nat := 4294967295 - reg (4294967295 - sum) l
def crcSum (l : List Nat) : Nat := crcMore 0 l

theorem compl_gen (n x : Nat) (h : x < 2 ^ n) : 2 ^ n - (x + 1) = x ^^^ (2 ^ n - 1) := by
  apply Nat.eq_of_testBit_eq
  intro i
  rw [Nat.testBit_xor, Nat.testBit_two_pow_sub_succ h, Nat.testBit_two_pow_sub_one]
  by_cases hi : i < n
  · simp [hi]
  · have : x.testBit i = false := Nat.testBit_lt_two_pow (Nat.lt_of_lt_of_le h (Nat.pow_le_pow_right (by decide) (by omega)))
    simp [hi, this]
/-- x's complement of 32 bits. -/
theorem compl_xor {x : Nat} (h : x < 4294967296) : 4294967295 - x = x ^^^ 4294967295 := by
  have e : (4294967296 : Nat) = 2 ^ 32 := by decide
  have e1 : (4294967295 : Nat) = 2 ^ 32 - 1 := by decide
  have h2 : 4294967295 - x = 4294967296 - (x + 1) := by omega
  rw [h2, e, e1]
  exact compl_gen 32 x (by rw [← e]; exact h)

/-! ### Squares: what each bit of a register becomes under n steps of eight -/
/-- n bytes 0. -/
def far0 (n s : Nat) : Nat := stN (8 * n) s
theorem far0_zero (s : Nat) : far0 0 s = s := rfl
theorem far0_add (m n s : Nat) : far0 (m + n) s = far0 n (far0 m s) := by unfold far0; rw [Nat.mul_add, stN_add]
theorem far0_one (s : Nat) : far0 1 s = st8 s := rfl
theorem far0_xor (n a b : Nat) : far0 n (a ^^^ b) = far0 n a ^^^ far0 n b := stN_xor _ _ _
theorem far0_lt {n s : Nat} (h : s < 4294967296) : far0 n s < 4294967296 := stN_lt _ h
theorem far0_succ (n s : Nat) : far0 (n + 1) s = st8 (far0 n s) := by rw [far0_add]; rfl
/-- What is told of the low k bits of x. -/
theorem low_succ (k x : Nat) : x % 2 ^ (k + 1) = (x % 2 ^ k) ^^^ (if x.testBit k then 2 ^ k else 0) := by
  apply Nat.eq_of_testBit_eq
  intro i
  rw [Nat.testBit_xor, Nat.testBit_mod_two_pow, Nat.testBit_mod_two_pow]
  by_cases hk : x.testBit k
  · simp only [hk, if_true, Nat.testBit_two_pow]
    by_cases h1 : i < k
    · have : ¬ k = i := by omega
      simp [h1, show i < k + 1 by omega, this]
    · by_cases h2 : i = k
      · subst h2; simp [hk]
      · simp [h1, show ¬ i < k + 1 by omega, Ne.symm h2]
  · simp only [hk, Nat.zero_testBit, Bool.xor_false]
    by_cases h1 : i < k
    · simp [h1, show i < k + 1 by omega]
    · by_cases h2 : i = k
      · subst h2; simp [hk]
      · simp [h1, show ¬ i < k + 1 by omega]
theorem far0_low (n k x : Nat) : far0 n (x % 2 ^ (k + 1)) = far0 n (x % 2 ^ k) ^^^ (if x.testBit k then far0 n (2 ^ k) else 0) := by
  rw [low_succ, far0_xor]
  split
  · rfl
  · rw [show far0 n 0 = 0 from stN_zero _]

/-! ### Parity: an odd number of bits other is always seen -/
/-- The parity of the low k bits. -/
def par : Nat → Nat → Bool
  | 0, _ => false
  | k + 1, x => (x.testBit k) ^^ (par k x)
theorem par_xor (k a b : Nat) : par k (a ^^^ b) = ((par k a) ^^ (par k b)) := by
  induction k with
  | zero => rfl
  | succ k ih => simp only [par, ih, Nat.testBit_xor]; cases a.testBit k <;> cases b.testBit k <;> cases par k a <;> cases par k b <;> rfl
theorem par_div2 (k x : Nat) : ((par k (x / 2)) ^^ (decide (x % 2 = 1))) = par (k + 1) x := by
  induction k with
  | zero => simp [par, Nat.testBit_zero]
  | succ k ih =>
    rw [par, par, ← ih, Nat.testBit_div_two]
    cases x.testBit (k + 1) <;> simp
theorem par32_poly : par 32 polyC = true := by decide
theorem par33 {s : Nat} (h : s < 4294967296) : par 33 s = par 32 s := by
  rw [par, Nat.testBit_lt_two_pow (by simpa using h)]
  simp
theorem par_st {s : Nat} (h : s < 4294967296) : par 32 (st s) = par 32 s := by
  have h1 := par_div2 32 s
  rw [par33 h] at h1
  rw [← h1]
  unfold st
  split
  · rename_i h2
    rw [par_xor, par32_poly]
    simp [h2]
  · rename_i h2
    simp [h2]
theorem par_stN {s : Nat} (n : Nat) (h : s < 4294967296) : par 32 (stN n s) = par 32 s := by
  induction n generalizing s with
  | zero => rfl
  | succ n ih => rw [stN, ih (st_lt h), par_st h]
def parL : List Nat → Bool
  | [] => false
  | c :: l => (par 32 c) ^^ (parL l)
theorem par_st8 {s : Nat} (h : s < 4294967296) : par 32 (st8 s) = par 32 s := par_stN 8 h
theorem st8_lt {s : Nat} (h : s < 4294967296) : st8 s < 4294967296 := stN_lt 8 h
theorem par_reg {s : Nat} {l : List Nat} (hs : s < 4294967296) (hl : ∀ c ∈ l, c < 256) : par 32 (reg s l) = ((par 32 s) ^^ (parL l)) := by
  induction l generalizing s with
  | nil => rw [show reg s [] = s from rfl, show parL [] = false from rfl, Bool.xor_false]
  | cons c l ih =>
    have hc := hl c (List.mem_cons_self ..)
    have hx : s ^^^ c < 4294967296 := xor_lt32 hs (by omega)
    have h1 := ih (s := st8 (s ^^^ c)) (st8_lt hx) (fun d hd => hl d (List.mem_cons_of_mem _ hd))
    rw [par_st8 hx, par_xor] at h1
    rw [reg_cons, h1, parL, Bool.xor_assoc]

/-! ### A burst of at most 32 bits is always seen -/
/-- A step is one to one. -/
theorem st_inj0 {s : Nat} (h : s < 4294967296) (h0 : st s = 0) : s = 0 := by
  unfold st at h0
  split at h0
  · have h1 : s / 2 = polyC := by
      have h2 := congrArg (fun z => z ^^^ polyC) h0
      simpa [Nat.xor_assoc] using h2
    unfold polyC at h1
    omega
  · omega
theorem stN_inj0 {s : Nat} (n : Nat) (h : s < 4294967296) (h0 : stN n s = 0) : s = 0 := by
  induction n generalizing s with
  | zero => exact h0
  | succ n ih => exact st_inj0 h (ih (st_lt h) h0)

end Go.Proofs.Ytpnagblbhlglhaa
