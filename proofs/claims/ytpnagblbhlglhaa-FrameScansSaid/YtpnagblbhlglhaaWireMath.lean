/- A number's form in bytes; a signed number folded. Conditions: those that each states. -/
import Derived.Test.YtpnagblbhlglhaaBytes
namespace Go.Proofs.Ytpnagblbhlglhaa

/-- A number's form. -/
def numF (n : Nat) : List Nat := if n < 128 then [n] else (n % 128 + 128) :: numF (n / 128)
termination_by n
decreasing_by omega
theorem numF_low {n : Nat} (h : n < 128) : numF n = [n] := by rw [numF, if_pos h]
theorem numF_high {n : Nat} (h : ¬ n < 128) : numF n = (n % 128 + 128) :: numF (n / 128) := by rw [numF, if_neg h]
theorem numF_small (n : Nat) : Small (numF n) := by
  induction n using Nat.strongRecOn with
  | ind n ih =>
    by_cases h : n < 128
    · rw [numF_low h]; intro c hc; simp at hc; omega
    · rw [numF_high h]
      intro c hc
      rcases List.mem_cons.1 hc with rfl | hc
      · omega
      · exact ih (n / 128) (by omega) c hc
theorem numF_len (k : Nat) : ∀ n, n < 128 ^ (k + 1) → (numF n).length ≤ k + 1 := by
  induction k with
  | zero => intro n h; rw [numF_low (by simpa using h)]; simp
  | succ k ih =>
    intro n h
    by_cases h8 : n < 128
    · rw [numF_low h8]; simp
    · rw [numF_high h8, List.length_cons]
      have := ih (n / 128) (by rw [Nat.div_lt_iff_lt_mul (by omega)]; rw [Nat.pow_succ] at h; exact h)
      omega
theorem numF_le (n : Nat) (h : n < 18446744073709551616) : (numF n).length ≤ 10 := numF_len 9 n (Nat.lt_trans h (by decide))
theorem numF_pos (n : Nat) : 1 ≤ (numF n).length := by
  by_cases h : n < 128
  · rw [numF_low h]; simp
  · rw [numF_high h]; simp
set_option maxRecDepth 10000 in
theorem or128 : ∀ x, x < 256 → x ||| 128 = x % 128 + 128 := by decide

end Go.Proofs.Ytpnagblbhlglhaa
