/- The plain law of names: an order; what comes next; what is behind a beginning; what two ranges share. Conditions: those that each states. -/
import Derived.Test.YtnghfnpmbjnjeaaNamesBehind
import Derived.Test.YtnghfnpmbjnjeaaNamesMeet
namespace Go.Proofs.Ytnghfnpmbjnjeaa

theorem cmp_anti : ∀ a b : List Nat, cmpN a b = - cmpN b a
  | [], [] => rfl
  | [], _ :: _ => rfl
  | _ :: _, [] => rfl
  | x :: a, y :: b => by
    have ih := cmp_anti a b
    simp only [cmpN]
    by_cases h1 : x < y
    · rw [if_pos h1, if_neg (by omega), if_pos h1]
    · by_cases h2 : y < x
      · rw [if_neg h1, if_pos h2, if_pos h2]; rfl
      · rw [if_neg h1, if_neg h2, if_neg h2, if_neg h1]; exact ih
theorem cmp_self (a : List Nat) : cmpN a a = 0 := by have := cmp_anti a a; omega
theorem cmp_eq : ∀ a b : List Nat, cmpN a b = 0 → a = b
  | [], [], _ => rfl
  | [], _ :: _, h => by simp [cmpN] at h
  | _ :: _, [], h => by simp [cmpN] at h
  | x :: a, y :: b, h => by
    simp only [cmpN] at h
    by_cases h1 : x < y
    · rw [if_pos h1] at h; cases h
    · by_cases h2 : y < x
      · rw [if_neg h1, if_pos h2] at h; cases h
      · rw [if_neg h1, if_neg h2] at h
        rw [cmp_eq a b h, show x = y by omega]
theorem cmp_range : ∀ a b : List Nat, cmpN a b = -1 ∨ cmpN a b = 0 ∨ cmpN a b = 1
  | [], [] => .inr (.inl rfl)
  | [], _ :: _ => .inl rfl
  | _ :: _, [] => .inr (.inr rfl)
  | x :: a, y :: b => by
    simp only [cmpN]
    split
    · exact .inl rfl
    · split
      · exact .inr (.inr rfl)
      · exact cmp_range a b
theorem cmp_trans : ∀ a b c : List Nat, cmpN a b ≤ 0 → cmpN b c ≤ 0 → cmpN a c ≤ 0
  | [], _, [], _, _ => by simp [cmpN]
  | [], _, _ :: _, _, _ => by simp [cmpN]
  | _ :: _, [], _, h, _ => by simp [cmpN] at h
  | _ :: _, _ :: _, [], _, h => by simp [cmpN] at h
  | x :: a, y :: b, z :: c, h1, h2 => by
    have ih := cmp_trans a b c
    simp only [cmpN] at h1 h2 ⊢
    by_cases p1 : x < y
    · by_cases p2 : y < z
      · rw [if_pos (by omega)]; decide
      · by_cases p3 : z < y
        · rw [if_neg p2, if_pos p3] at h2; exact absurd h2 (by decide)
        · rw [if_pos (by omega)]; decide
    · by_cases p1' : y < x
      · rw [if_neg p1, if_pos p1'] at h1; exact absurd h1 (by decide)
      · rw [if_neg p1, if_neg p1'] at h1
        by_cases p2 : y < z
        · rw [if_pos (by omega)]; decide
        · by_cases p3 : z < y
          · rw [if_neg p2, if_pos p3] at h2; exact absurd h2 (by decide)
          · rw [if_neg p2, if_neg p3] at h2
            rw [if_neg (by omega), if_neg (by omega)]
            exact ih h1 h2
/-- Ahead of, or at: by a plain order. -/
theorem cmp_lt_le (a b c : List Nat) (h1 : cmpN a b < 0) (h2 : cmpN b c ≤ 0) : cmpN a c < 0 := by
  have h3 := cmp_trans a b c (by omega) h2
  rcases cmp_range a c with h | h | h
  · omega
  · have e := cmp_eq a c h
    subst e
    have := cmp_anti a b
    omega
  · omega
theorem cmp_le_lt (a b c : List Nat) (h1 : cmpN a b ≤ 0) (h2 : cmpN b c < 0) : cmpN a c < 0 := by
  have h3 := cmp_trans a b c h1 (by omega)
  rcases cmp_range a c with h | h | h
  · omega
  · have e := cmp_eq a c h
    subst e
    have := cmp_anti a b
    omega
  · omega
theorem cmp_nil (k : List Nat) : 0 ≤ cmpN k [] := by cases k <;> simp [cmpN]

/-- Nothing lies between a key and the next. -/
theorem next_cmp : ∀ k : List Nat, cmpN k (k ++ [0]) = -1
  | [] => rfl
  | x :: k => by
    have := next_cmp k
    simp only [List.cons_append, cmpN]
    rw [if_neg (by omega), if_neg (by omega)]
    exact this
theorem next_none : ∀ k a : List Nat, cmpN k a < 0 → 0 ≤ cmpN a (k ++ [0])
  | [], [], h => by simp [cmpN] at h
  | [], y :: a, _ => by
    simp only [List.nil_append, cmpN]
    by_cases h : 0 < y
    · rw [if_neg (by omega), if_pos h]; decide
    · rw [if_neg (by omega), if_neg h]
      exact cmp_nil a
  | x :: k, [], h => by simp [cmpN] at h
  | x :: k, y :: a, h => by
    have ih := next_none k a
    simp only [List.cons_append, cmpN] at h ⊢
    by_cases h1 : x < y
    · rw [if_neg (by omega), if_pos h1]; decide
    · by_cases h2 : y < x
      · rw [if_neg h1, if_pos h2] at h; exact absurd h (by decide)
      · rw [if_neg h1, if_neg h2] at h
        rw [if_neg (by omega), if_neg (by omega)]
        exact ih h

/-- Does a key begin with some? -/
def beginsN (k a : List Nat) : Bool := decide (a.length ≤ k.length) && decide (k.take a.length = a)

/-- The part ahead of the last byte that is not 255 is shared; then a byte greater by one. -/
theorem pre_cmp : ∀ (p k m : List Nat), cmpN k (p ++ m) < 0 → 0 ≤ cmpN k p → p.length ≤ k.length ∧ k.take p.length = p
  | [], k, m, _, _ => ⟨Nat.zero_le _, rfl⟩
  | x :: p, [], m, _, h => by simp [cmpN] at h
  | x :: p, y :: k, m, h1, h2 => by
    simp only [List.cons_append, cmpN] at h1 h2
    by_cases q1 : y < x
    · rw [if_pos q1] at h2; exact absurd h2 (by decide)
    · by_cases q2 : x < y
      · rw [if_neg q1, if_pos q2] at h1; exact absurd h1 (by decide)
      · rw [if_neg q1, if_neg q2] at h1 h2
        obtain ⟨e1, e2⟩ := pre_cmp p k m h1 h2
        refine ⟨by simp; omega, ?_⟩
        rw [List.length_cons, List.take_succ_cons, e2, show y = x by omega]
theorem pre_app : ∀ (p a b : List Nat), cmpN (p ++ a) (p ++ b) = cmpN a b
  | [], _, _ => rfl
  | x :: p, a, b => by
    simp only [List.cons_append, cmpN]
    rw [if_neg (by omega), if_neg (by omega)]
    exact pre_app p a b

end Go.Proofs.Ytnghfnpmbjnjeaa
