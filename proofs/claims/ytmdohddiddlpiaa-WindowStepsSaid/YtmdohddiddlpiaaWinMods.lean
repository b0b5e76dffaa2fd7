/- Places of numbers in a ring; what is left as all comes back. Conditions: those that each states. -/
import Derived.Test.YtmdohddiddlpiaaWinMath
namespace Go.Proofs.Ytmdohddiddlpiaa

theorem mod_ne {n m a b : Nat} (ha : m < a) (ha2 : a ≤ m + n) (hb : m < b) (hb2 : b ≤ m + n) (h : a ≠ b) : a % n ≠ b % n := by
  intro e
  have h1 := Nat.div_add_mod a n
  have h2 := Nat.div_add_mod b n
  rw [e] at h1
  rcases Nat.lt_trichotomy (a / n) (b / n) with hlt | heq | hgt
  · have := Nat.mul_le_mul_left n (show a / n + 1 ≤ b / n from hlt)
    rw [Nat.mul_add, Nat.mul_one] at this
    omega
  · rw [heq] at h1; omega
  · have := Nat.mul_le_mul_left n (show b / n + 1 ≤ a / n from hgt)
    rw [Nat.mul_add, Nat.mul_one] at this
    omega
/-- What is still out. -/
structure Stage (n m0 l : Nat) (xs : List Nat) (o : Nat → Bool) (m : Nat) : Prop where
  out : ∀ k, m0 < k → k ≤ l → (o (k % n) = true ↔ k ∈ xs)
  bnd : ∀ k ∈ xs, m < k ∧ k ≤ l
  lo : m0 ≤ m
  hi : m ≤ l
  tight : m = l ∨ o ((m + 1) % n) = true
theorem Stage.step {n m0 l k : Nat} {xs : List Nat} {o : Nat → Bool} {m m' : Nat} (h : Stage n m0 l (xs ++ [k]) o m) (hs : (xs ++ [k]).Pairwise (· < ·)) (hspan : l ≤ m0 + n) (h1 : m ≤ m') (h2 : m' ≤ l)
    (hall : ∀ j, m < j → j ≤ m' → upd o (k % n) false (j % n) = false) (ht : m' = l ∨ upd o (k % n) false ((m' + 1) % n) = true) : Stage n m0 l xs (upd o (k % n) false) m' := by
  have hk := h.bnd k (by simp)
  have hlt : ∀ x ∈ xs, x < k := fun x hx => by
    rw [List.pairwise_append] at hs
    exact hs.2.2 x hx k (by simp)
  have hout : ∀ j, m0 < j → j ≤ l → (upd o (k % n) false (j % n) = true ↔ j ∈ xs) := by
    intro j a b
    by_cases hjk : j = k
    · subst hjk
      rw [upd_same]
      exact ⟨(fun h => by cases h), (fun h => by have := hlt _ h; omega)⟩
    · rw [upd_other o false (mod_ne (m := m0) a (by omega) (by have := h.lo; omega) (by omega) hjk), h.out j a b]
      simp [hjk]
  refine ⟨hout, fun j hj => ?_, by have := h.lo; omega, h2, ht⟩
  have hb := h.bnd j (by simp [hj])
  refine ⟨?_, hb.2⟩
  rcases Nat.lt_or_ge m' j with h3 | h3
  · exact h3
  · have := hall j hb.1 h3
    rw [(hout j (by have := h.lo; omega) hb.2).2 hj] at this
    cases this
theorem Stage.done {n m0 l : Nat} {o : Nat → Bool} {m : Nat} (h : Stage n m0 l [] o m) : m = l := by
  rcases h.tight with e | e
  · exact e
  · rcases Nat.lt_or_ge m l with h1 | h1
    · have := (h.out (m + 1) (by have := h.lo; omega) (by omega)).1 e
      cases this
    · have := h.hi; omega
theorem Stage.none_ {n m0 l : Nat} {o : Nat → Bool} {m : Nat} (h : Stage n m0 l [] o m) : ∀ k, m0 < k → k ≤ l → o (k % n) = false := fun k a b => by
  cases hb : o (k % n) with
  | false => rfl
  | true => have := (h.out k a b).1 hb; cases this
end Go.Proofs.Ytmdohddiddlpiaa
