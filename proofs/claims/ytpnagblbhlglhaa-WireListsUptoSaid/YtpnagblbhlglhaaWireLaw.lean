/- The plain law of wire's forms: what is written is read as it was, and only that. Conditions: those that each states. -/
import Derived.Test.YtpnagblbhlglhaaWireRd3
namespace Go.Proofs.Ytpnagblbhlglhaa

theorem rdN_form : ∀ (n i m : Nat) (rest : List Nat), i ≤ 9 → n < 2 ^ (64 - 7 * i) → (i = 0 ∨ 0 < n) → rdN i m (numF n ++ rest) = some (m + n * 2 ^ (7 * i), i + (numF n).length) := by
  intro n
  induction n using Nat.strongRecOn with
  | ind n ih =>
    intro i m rest hi hn h0
    by_cases h : n < 128
    · rw [numF_low h]
      show rdN i m (n :: rest) = _
      rw [rdN_cons, if_neg, if_pos h, Nat.mod_eq_of_lt h]
      · rfl
      · rintro (⟨rfl, h2⟩ | ⟨h1, h2⟩)
        · have : n < 2 := hn
          omega
        · omega
    · have hi9 : i ≤ 8 := by
        rcases Nat.lt_or_ge i 9 with h1 | h1
        · omega
        · obtain rfl : i = 9 := by omega
          have : n < 2 := hn
          omega
      rw [numF_high h]
      show rdN i m ((n % 128 + 128) :: (numF (n / 128) ++ rest)) = _
      rw [rdN_cons, if_neg (by omega), if_neg (by omega), show (n % 128 + 128) % 128 = n % 128 by omega]
      have e64 : 2 ^ (64 - 7 * i) = 128 * 2 ^ (64 - 7 * (i + 1)) := by
        rw [show 64 - 7 * i = 7 + (64 - 7 * (i + 1)) by omega, Nat.pow_add]
      have hdiv : n / 128 < 2 ^ (64 - 7 * (i + 1)) := by
        rw [e64] at hn
        exact Nat.div_lt_of_lt_mul hn
      rw [ih (n / 128) (by omega) (i + 1) _ rest (by omega) hdiv (.inr (by omega)), List.length_cons]
      have e : 2 ^ (7 * (i + 1)) = 128 * 2 ^ (7 * i) := by rw [show 7 * (i + 1) = 7 + 7 * i by omega, Nat.pow_add]
      have e2 : n % 128 * 2 ^ (7 * i) + n / 128 * (128 * 2 ^ (7 * i)) = n * 2 ^ (7 * i) := by
        rw [← Nat.mul_assoc, ← Nat.add_mul]
        congr 1
        omega
      rw [e, Nat.add_assoc, e2]
      congr 2
      omega
/-- What is written is read. -/
theorem rd_form (n : Nat) (rest : List Nat) (hn : n < 18446744073709551616) : rdV (numF n ++ rest) = n ∧ rdK (numF n ++ rest) = (numF n).length ∧ rdE (numF n ++ rest) = 0 := by
  have h := rdN_form n 0 0 rest (by omega) hn (.inl rfl)
  rw [Nat.zero_add, Nat.zero_add, Nat.mul_zero, Nat.pow_zero, Nat.mul_one] at h
  exact rd_some h

/-- What is read has been written so. -/
theorem rdN_back : ∀ (l : List Nat) (i m v k : Nat), (∀ c ∈ l, c < 256) → rdN i m l = some (v, k) → ∃ n rest, v = m + n * 2 ^ (7 * i) ∧ l = numF n ++ rest ∧ k = i + (numF n).length ∧ (i = 0 ∨ 0 < n) := by
  intro l
  induction l with
  | nil => intro i m v k _ h; simp [rdN] at h
  | cons d l ih =>
    intro i m v k hsm h
    have hd := hsm d (by simp)
    rw [rdN_cons] at h
    split at h
    · cases h
    · rename_i hs
      split at h
      · rename_i hlt
        injection h with h
        injection h with h1 h2
        refine ⟨d, l, by rw [← h1, Nat.mod_eq_of_lt hlt], by rw [numF_low hlt]; rfl, by rw [numF_low hlt, ← h2]; rfl, by omega⟩
      · rename_i hge
        obtain ⟨n, rest, h1, h2, h3, h4⟩ := ih (i + 1) _ v k (fun c hc => hsm c (by simp [hc])) h
        have hn : 0 < n := by omega
        have hdn : (d % 128 + 128 * n) / 128 = n := by omega
        have hdm : (d % 128 + 128 * n) % 128 = d % 128 := by omega
        refine ⟨d % 128 + 128 * n, rest, ?_, ?_, ?_, .inr (by omega)⟩
        · rw [h1, show 7 * (i + 1) = 7 * i + 7 by omega, Nat.pow_add, Nat.add_mul, Nat.add_assoc]
          congr 2
          rw [show (2 : Nat) ^ 7 = 128 from rfl, Nat.mul_comm 128 n, Nat.mul_assoc, Nat.mul_comm 128]
        · rw [numF_high (by omega), hdn, hdm, show d % 128 + 128 = d by omega, h2]; rfl
        · rw [numF_high (by omega), hdn, List.length_cons, h3]; omega
theorem rd_back {l : List Nat} (hs : Small l) (h : rdE l = 0) : ∃ rest, l = numF (rdV l) ++ rest ∧ rdK l = (numF (rdV l)).length := by
  unfold rdE at h
  cases hr : rdNum l with
  | none => rw [hr] at h; cases h
  | some p =>
    obtain ⟨v, k⟩ := p
    obtain ⟨e1, e2, _⟩ := rd_some hr
    obtain ⟨n, rest, h1, h2, h3, _⟩ := rdN_back l 0 0 v k hs hr
    rw [Nat.zero_add, Nat.mul_zero, Nat.pow_zero, Nat.mul_one] at h1
    subst h1
    rw [e1, e2]
    exact ⟨rest, h2, by omega⟩

end Go.Proofs.Ytpnagblbhlglhaa
