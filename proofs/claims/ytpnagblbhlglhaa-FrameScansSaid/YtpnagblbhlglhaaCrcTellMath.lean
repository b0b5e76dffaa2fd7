/- The plain law of wicketlaw02.CrcTells: flips of bits, their parity, a text as one number, bursts. Conditions: those that each states. -/
import Derived.Test.YtpnagblbhlglhaaCrcMath
namespace Go.Proofs.Ytpnagblbhlglhaa

/-- A text as one number, its first byte lowest. -/
def numL : List Nat → Nat
  | [] => 0
  | c :: l => c ^^^ (2 ^ 8 * numL l)

theorem pow_mul_xor (k a b : Nat) : 2 ^ k * (a ^^^ b) = 2 ^ k * a ^^^ 2 ^ k * b := by
  apply Nat.eq_of_testBit_eq
  intro i
  rw [Nat.testBit_xor, Nat.testBit_two_pow_mul, Nat.testBit_two_pow_mul, Nat.testBit_two_pow_mul, Nat.testBit_xor]
  by_cases h : k ≤ i <;> simp [h]

theorem stN_byte (n X : Nat) : stN (8 * (n + 1)) X = stN (8 * n) (stN 8 X) := by
  rw [show 8 * (n + 1) = 8 + 8 * n by omega]
  exact stN_add 8 (8 * n) X
theorem st8_num (s c a : Nat) : stN 8 (s ^^^ (c ^^^ 2 ^ 8 * a)) = st8 (s ^^^ c) ^^^ a := by
  rw [← Nat.xor_assoc, stN_xor, stN_shift]
  rfl
theorem numL_cons (c : Nat) (l : List Nat) : numL (c :: l) = c ^^^ 2 ^ 8 * numL l := rfl
theorem reg_num : ∀ (l : List Nat) (s : Nat), reg s l = stN (8 * l.length) (s ^^^ numL l)
  | [], s => by
    show s = stN 0 (s ^^^ 0)
    rw [Nat.xor_zero]
    rfl
  | c :: l, s => by
    rw [reg_cons, reg_num l, numL_cons, List.length_cons, stN_byte, st8_num]

/-- Bit k of a text turned. -/
def flipB (l : List Nat) (k : Nat) : List Nat := l.modify (k / 8) (· ^^^ 2 ^ (k % 8))
theorem flipB_length (l : List Nat) (k : Nat) : (flipB l k).length = l.length := by simp [flipB]
theorem flipB_set (l : List Nat) (k : Nat) (h : k / 8 < l.length) : flipB l k = l.set (k / 8) (l[k / 8] ^^^ 2 ^ (k % 8)) := by
  apply List.ext_getElem (by simp [flipB])
  intro j h1 h2
  simp only [flipB, List.getElem_modify, List.getElem_set]
  split
  · rename_i e
    subst e
    rfl
  · rfl
theorem pow_small (k : Nat) : 2 ^ (k % 8) < 256 := by
  have : k % 8 ≤ 7 := by omega
  calc 2 ^ (k % 8) ≤ 2 ^ 7 := Nat.pow_le_pow_right (by omega) this
    _ < 256 := by decide
theorem xor_small {a b : Nat} (ha : a < 256) (hb : b < 256) : a ^^^ b < 256 := by
  have := Nat.xor_lt_two_pow (n := 8) (x := a) (y := b) ha hb
  simpa using this
theorem flipB_small {l : List Nat} (h : ∀ c ∈ l, c < 256) (k : Nat) : ∀ c ∈ flipB l k, c < 256 := by
  intro c hc
  obtain ⟨j, hj, rfl⟩ := List.getElem_of_mem hc
  have hj' : j < l.length := by rwa [flipB_length] at hj
  have e : (flipB l k)[j] = if k / 8 = j then l[j] ^^^ 2 ^ (k % 8) else l[j] := by
    simp only [flipB, List.getElem_modify]
  rw [e]
  have := h l[j] (List.getElem_mem hj')
  split
  · exact xor_small this (pow_small k)
  · exact this
theorem num_flip (l : List Nat) : ∀ k, k < 8 * l.length → numL (flipB l k) = numL l ^^^ 2 ^ k := by
  induction l with
  | nil => intro k hk; simp at hk
  | cons c l ih =>
    intro k hk
    by_cases h8 : k < 8
    · have e0 : k / 8 = 0 := by omega
      have e1 : k % 8 = k := by omega
      unfold flipB
      rw [e0, e1]
      show (c ^^^ 2 ^ k) ^^^ 2 ^ 8 * numL l = (c ^^^ 2 ^ 8 * numL l) ^^^ 2 ^ k
      rw [Nat.xor_assoc, Nat.xor_comm (2 ^ k), Nat.xor_assoc]
    · obtain ⟨m, rfl⟩ : ∃ m, k = m + 8 := ⟨k - 8, by omega⟩
      have e0 : (m + 8) / 8 = m / 8 + 1 := by omega
      have e1 : (m + 8) % 8 = m % 8 := by omega
      have hm : m < 8 * l.length := by simp at hk; omega
      have e : flipB (c :: l) (m + 8) = c :: flipB l m := by
        unfold flipB
        rw [e0, e1]
        rfl
      rw [e]
      show c ^^^ 2 ^ 8 * numL (flipB l m) = (c ^^^ 2 ^ 8 * numL l) ^^^ 2 ^ (m + 8)
      rw [ih m hm, pow_mul_xor, Nat.xor_assoc]
      congr 2
      rw [Nat.pow_add, Nat.mul_comm]

theorem num_inj : ∀ (l m : List Nat), l.length = m.length → (∀ c ∈ l, c < 256) → (∀ c ∈ m, c < 256) → numL l = numL m → l = m := by
  intro l
  induction l with
  | nil => intro m h _ _ _; exact (List.eq_nil_of_length_eq_zero h.symm).symm
  | cons c l ih =>
    intro m h hl hm he
    cases m with
    | nil => simp at h
    | cons d m =>
      have hc := hl c (by simp)
      have hd := hm d (by simp)
      have he' : c ^^^ 2 ^ 8 * numL l = d ^^^ 2 ^ 8 * numL m := he
      have h1 : c = d := by
        have := congrArg (· % 2 ^ 8) he'
        simp only [Nat.xor_mod_two_pow, Nat.mul_mod_right, Nat.xor_zero] at this
        omega
      have h2 : numL l = numL m := by
        subst h1
        have h3 : c ^^^ (c ^^^ 2 ^ 8 * numL l) = c ^^^ (c ^^^ 2 ^ 8 * numL m) := by rw [he']
        rw [← Nat.xor_assoc, ← Nat.xor_assoc, Nat.xor_self, Nat.zero_xor, Nat.zero_xor] at h3
        omega
      rw [h1, ih m (by simpa using h) (fun x hx => hl x (by simp [hx])) (fun x hx => hm x (by simp [hx])) h2]

theorem crcSum_reg {l : List Nat} (h : ∀ c ∈ l, c < 256) : crcSum l = reg 4294967295 l ^^^ 4294967295 := by
  have := compl_xor (reg_lt (s := 4294967295) (l := l) (by omega) h)
  rw [← this]
  rfl
/-- Like sums have like registers. -/
theorem sum_reg {l m : List Nat} (hl : ∀ c ∈ l, c < 256) (hm : ∀ c ∈ m, c < 256) (h : crcSum l = crcSum m) : reg 4294967295 l = reg 4294967295 m := by
  rw [crcSum_reg hl, crcSum_reg hm] at h
  have := congrArg (· ^^^ 4294967295) h
  simpa [Nat.xor_assoc] using this

/-! ### Bursts -/
/-- Texts that differ in a burst of at most 32 bits and have one sum are one text. -/
theorem burst {l m : List Nat} (hl : ∀ c ∈ l, c < 256) (hm : ∀ c ∈ m, c < 256) (hlen : m.length = l.length) (k u : Nat) (hk : k ≤ 8 * l.length) (hu : u < 4294967296)
    (hn : numL m = numL l ^^^ (2 ^ k * u)) (hs : crcSum m = crcSum l) : m = l := by
  have hr := sum_reg hm hl hs
  rw [reg_num, reg_num, hlen, hn, ← Nat.xor_assoc, stN_xor] at hr
  have h0 : stN (8 * l.length) (2 ^ k * u) = 0 := by
    have h1 : stN (8 * l.length) (4294967295 ^^^ numL l) ^^^ (stN (8 * l.length) (4294967295 ^^^ numL l) ^^^ stN (8 * l.length) (2 ^ k * u)) = 0 := by rw [hr, Nat.xor_self]
    rwa [← Nat.xor_assoc, Nat.xor_self, Nat.zero_xor] at h1
  obtain ⟨d, hd⟩ : ∃ d, 8 * l.length = k + d := ⟨8 * l.length - k, by omega⟩
  rw [hd, stN_add, stN_shift] at h0
  have hu0 := stN_inj0 d hu h0
  subst hu0
  exact num_inj m l hlen hm hl (by rw [hn]; simp)

/-! ### Parity -/
theorem par8_pow : ∀ k, k < 8 → par 32 (2 ^ k) = true := by decide
theorem parL_cons (c : Nat) (l : List Nat) : parL (c :: l) = ((par 32 c) ^^ (parL l)) := rfl
theorem par_flip (l : List Nat) : ∀ k, k < 8 * l.length → parL (flipB l k) = !parL l := by
  induction l with
  | nil => intro k hk; simp at hk
  | cons c l ih =>
    intro k hk
    by_cases h8 : k < 8
    · have e0 : k / 8 = 0 := by omega
      have e1 : k % 8 = k := by omega
      unfold flipB
      rw [e0, e1]
      show parL ((c ^^^ 2 ^ k) :: l) = _
      rw [parL_cons, parL_cons, par_xor, par8_pow k h8]
      cases par 32 c <;> cases parL l <;> rfl
    · obtain ⟨m, rfl⟩ : ∃ m, k = m + 8 := ⟨k - 8, by omega⟩
      have e0 : (m + 8) / 8 = m / 8 + 1 := by omega
      have e1 : (m + 8) % 8 = m % 8 := by omega
      have hm : m < 8 * l.length := by simp at hk; omega
      have e : flipB (c :: l) (m + 8) = c :: flipB l m := by
        unfold flipB
        rw [e0, e1]
        rfl
      rw [e, parL_cons, parL_cons, ih m hm]
      cases par 32 c <;> cases parL l <;> rfl
/-- Texts of unlike parity have unlike sums. -/
theorem odd_sums {l m : List Nat} (hl : ∀ c ∈ l, c < 256) (hm : ∀ c ∈ m, c < 256) (hp : parL m = !parL l) : crcSum m ≠ crcSum l := by
  intro h
  have hr := sum_reg hm hl h
  have := congrArg (par 32) hr
  rw [par_reg (by omega) hm, par_reg (by omega) hl, hp] at this
  revert this
  cases par 32 4294967295 <;> cases parL l <;> simp

/-! ### The sum of the xor -/
theorem xorL_length : ∀ (l m : List Nat), l.length = m.length → (xorL l m).length = l.length := by
  intro l
  induction l with
  | nil => intro m h; cases m <;> simp_all [xorL]
  | cons c l ih =>
    intro m h
    cases m with
    | nil => simp at h
    | cons d m => simp [xorL, ih m (by simpa using h)]
theorem xorL_get : ∀ (l m : List Nat) (k : Nat) (h1 : k < l.length) (h2 : k < m.length) (h3 : k < (xorL l m).length), (xorL l m)[k] = l[k] ^^^ m[k] := by
  intro l
  induction l with
  | nil => intro m k h1; simp at h1
  | cons c l ih =>
    intro m k h1 h2 h3
    cases m with
    | nil => simp at h2
    | cons d m =>
      cases k with
      | zero => rfl
      | succ k => exact ih m k (by simpa using h1) (by simpa using h2) (by simpa [xorL] using h3)
theorem xorL_small {l m : List Nat} (h : l.length = m.length) (hl : ∀ c ∈ l, c < 256) (hm : ∀ c ∈ m, c < 256) : ∀ c ∈ xorL l m, c < 256 := by
  intro c hc
  obtain ⟨j, hj, rfl⟩ := List.getElem_of_mem hc
  have hj1 : j < l.length := by rw [xorL_length l m h] at hj; exact hj
  rw [xorL_get l m j hj1 (by omega) hj]
  exact xor_small (hl _ (List.getElem_mem _)) (hm _ (List.getElem_mem _))
theorem sum_xor3 {b x z : List Nat} (hb : ∀ c ∈ b, c < 256) (hx : ∀ c ∈ x, c < 256) (hz : ∀ c ∈ z, c < 256) (h1 : b.length = x.length) (h2 : b.length = z.length) :
    crcSum b ^^^ crcSum x ^^^ crcSum z = crcSum (xorL (xorL b x) z) := by
  have hbx := xorL_small h1 hb hx
  have lbx : (xorL b x).length = z.length := by rw [xorL_length b x h1, h2]
  rw [crcSum_reg hb, crcSum_reg hx, crcSum_reg hz, crcSum_reg (xorL_small lbx hbx hz)]
  have e := reg_xor (4294967295 ^^^ 4294967295) 4294967295 (xorL b x) z lbx
  rw [reg_xor 4294967295 4294967295 b x h1, Nat.xor_self, Nat.zero_xor] at e
  rw [e]
  generalize reg 4294967295 b = p
  generalize reg 4294967295 x = q
  generalize reg 4294967295 z = r
  generalize 4294967295 = o
  apply Nat.eq_of_testBit_eq
  intro i
  simp only [Nat.testBit_xor]
  cases p.testBit i <;> cases q.testBit i <;> cases r.testBit i <;> cases o.testBit i <;> rfl

/-! ### A row filled from its beginning -/
def fillTo (W : List Nat) (k : Nat) : List Nat := W.take k ++ List.replicate (W.length - k) 0
theorem fillTo_length (W : List Nat) (k : Nat) (h : k ≤ W.length) : (fillTo W k).length = W.length := by simp [fillTo]; omega
theorem fillTo_zero (W : List Nat) : fillTo W 0 = List.replicate W.length 0 := by simp [fillTo]
theorem fillTo_all (W : List Nat) : fillTo W W.length = W := by simp [fillTo]
theorem fillTo_set (W : List Nat) (k : Nat) (h : k < W.length) : (fillTo W k).set k W[k] = fillTo W (k + 1) := by
  unfold fillTo
  have hl : (W.take k).length = k := by rw [List.length_take]; omega
  rw [List.set_append_right _ _ (by omega), hl, Nat.sub_self, show W.length - k = (W.length - (k + 1)) + 1 by omega, List.replicate_succ, List.set_cons_zero, List.take_succ_eq_append_getElem h, List.append_assoc]
  rfl
theorem fillTo_skip (W : List Nat) (k : Nat) (h : k < W.length) (h0 : W[k] = 0) : fillTo W k = fillTo W (k + 1) := by
  unfold fillTo
  rw [List.take_succ_eq_append_getElem h, h0, List.append_assoc, show W.length - k = (W.length - (k + 1)) + 1 by omega, List.replicate_succ]
  rfl

end Go.Proofs.Ytpnagblbhlglhaa
