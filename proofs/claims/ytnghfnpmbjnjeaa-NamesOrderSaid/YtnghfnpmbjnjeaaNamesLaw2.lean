/- The plain law of names: what is behind a beginning; what two ranges share. Conditions: those that each states. -/
import Derived.Test.YtnghfnpmbjnjeaaNamesLaw
namespace Go.Proofs.Ytnghfnpmbjnjeaa

theorem cutK_all (l : List Nat) : ∀ k i, cutK l k ≤ i → i < k → l.getD i 0 = 255
  | 0, i, _, h => by omega
  | k + 1, i, h1, h2 => by
    unfold cutK at h1
    split at h1
    · rename_i h3
      rcases (show i < k ∨ i = k by omega) with h | h
      · exact cutK_all l k i h1 h
      · rw [h]; exact h3
    · omega
/-- Bytes that are all 255: what is not ahead of them begins with them. -/
theorem full_cmp : ∀ (r k : List Nat), (∀ c ∈ r, c = 255) → (∀ c ∈ k, c < 256) → 0 ≤ cmpN k r → r.length ≤ k.length ∧ k.take r.length = r
  | [], k, _, _, _ => ⟨Nat.zero_le _, rfl⟩
  | x :: r, [], _, _, h => by simp [cmpN] at h
  | x :: r, y :: k, hr, hk, h => by
    have hx := hr x (List.mem_cons_self ..)
    have hy := hk y (List.mem_cons_self ..)
    simp only [cmpN] at h
    by_cases q1 : y < x
    · rw [if_pos q1] at h; exact absurd h (by decide)
    · rw [if_neg q1, if_neg (by omega)] at h
      obtain ⟨e1, e2⟩ := full_cmp r k (fun c hc => hr c (List.mem_cons_of_mem _ hc)) (fun c hc => hk c (List.mem_cons_of_mem _ hc)) h
      exact ⟨by simp; omega, by rw [List.length_cons, List.take_succ_cons, e2, show y = x by omega]⟩
theorem begins_split {k a : List Nat} (h : a.length ≤ k.length ∧ k.take a.length = a) : k = a ++ k.drop a.length := by
  conv => lhs; rw [← List.take_append_drop a.length k]
  rw [h.2]
theorem begins_app (a t : List Nat) : a.length ≤ (a ++ t).length ∧ (a ++ t).take a.length = a := ⟨by simp, List.take_left⟩
theorem app_cmp (a t : List Nat) : 0 ≤ cmpN (a ++ t) a := by
  have := pre_app a t []
  rw [List.append_nil] at this
  rw [this]
  exact cmp_nil t
theorem beginsN_iff (k a : List Nat) : beginsN k a = true ↔ (a.length ≤ k.length ∧ k.take a.length = a) := by simp [beginsN]

theorem split_cut (a : List Nat) (j : Nat) (hj : cutK a a.length = j + 1) : ∃ p d r, a = p ++ d :: r ∧ p = a.take j ∧ d = a.getD j 0 ∧ ∀ c ∈ r, c = 255 := by
  have hle := cutK_le a a.length
  have hjl : j < a.length := by omega
  refine ⟨a.take j, a.getD j 0, a.drop (j + 1), ?_, rfl, rfl, ?_⟩
  · rw [List.getD_eq_getElem?_getD, List.getElem?_eq_getElem hjl, Option.getD_some, ← List.drop_eq_getElem_cons hjl, List.take_append_drop]
  · intro c hc
    obtain ⟨i, hi, rfl⟩ := List.getElem_of_mem hc
    rw [List.length_drop] at hi
    have := cutK_all a a.length (j + 1 + i) (by omega) (by omega)
    rw [List.getD_eq_getElem?_getD, List.getElem?_eq_getElem (by omega), Option.getD_some] at this
    rw [List.getElem_drop]
    exact this

/-- Behind a beginning: just what begins with it. -/
theorem behind_law (a k m : List Nat) (hk : ∀ c ∈ k, c < 256) (hm : behN a = some m) : inN k a m = beginsN k a := by
  unfold behN at hm
  split at hm
  · cases hm
  · rename_i h0
    obtain ⟨j, hj⟩ : ∃ j, cutK a a.length = j + 1 := ⟨cutK a a.length - 1, by omega⟩
    rw [hj, Nat.add_sub_cancel] at hm
    injection hm with hm
    obtain ⟨p, d, r, ha, hp, hd, hr⟩ := split_cut a j hj
    rw [← hp, ← hd] at hm
    rw [Bool.eq_iff_iff, beginsN_iff]
    have hml : m.length ≠ 0 := by rw [← hm]; simp
    simp only [inN, Bool.and_eq_true, Bool.or_eq_true, decide_eq_true_eq, hml, false_or]
    subst hm
    constructor
    · rintro ⟨h1, h2⟩
      have h3 : 0 ≤ cmpN k p := by
        have e1 : cmpN a k ≤ 0 := by have := cmp_anti a k; omega
        have e2 : cmpN p a ≤ 0 := by have := app_cmp p (d :: r); rw [← ha] at this; have := cmp_anti p a; omega
        have := cmp_trans p a k e2 e1
        have := cmp_anti k p
        omega
      have h4 := pre_cmp p k [d + 1] h2 h3
      have hks := begins_split h4
      obtain ⟨t, ht⟩ : ∃ t, k.drop p.length = t := ⟨_, rfl⟩
      rw [ht] at hks
      subst hks
      clear h4 ht
      rw [ha, pre_app] at h1
      rw [pre_app] at h2
      match t, h1, h2, hk with
      | [], h1, _, _ => simp [cmpN] at h1
      | y :: t, h1, h2, hk =>
        simp only [cmpN] at h1 h2
        have hy : y = d := by
          by_cases q1 : y < d
          · rw [if_pos q1] at h1; exact absurd h1 (by decide)
          · by_cases q2 : y < d + 1
            · omega
            · rw [if_neg q2] at h2
              by_cases q3 : d + 1 < y
              · rw [if_pos q3] at h2; exact absurd h2 (by decide)
              · rw [if_neg q3] at h2
                have := cmp_nil t
                omega
        subst hy
        rw [if_neg (by omega), if_neg (by omega)] at h1
        obtain ⟨e1, e2⟩ := full_cmp r t hr (fun c hc => hk c (by simp [hc])) h1
        have hts := begins_split ⟨e1, e2⟩
        have : p ++ y :: t = a ++ t.drop r.length := by
          rw [ha, List.append_assoc, List.cons_append, ← hts]
        rw [this]
        exact begins_app a _
    · intro h
      have hks := begins_split h
      obtain ⟨t, ht⟩ : ∃ t, k.drop a.length = t := ⟨_, rfl⟩
      rw [ht] at hks
      subst hks
      refine ⟨app_cmp a t, ?_⟩
      rw [ha, List.append_assoc, pre_app, List.cons_append]
      simp only [cmpN]
      rw [if_pos (by omega)]
      decide
/-- Where nothing is behind: all bytes are 255. -/
theorem behind_none_law (a k : List Nat) (hk : ∀ c ∈ k, c < 256) (hm : behN a = none) : inN k a [] = beginsN k a := by
  unfold behN at hm
  split at hm
  · rename_i h0
    rw [Bool.eq_iff_iff, beginsN_iff]
    have e : inN k a [] = decide (0 ≤ cmpN k a) := by simp [inN]
    rw [e, decide_eq_true_eq]
    constructor
    · refine full_cmp a k (fun c hc => ?_) hk
      obtain ⟨i, hi, rfl⟩ := List.getElem_of_mem hc
      have := cutK_all a a.length i (by omega) hi
      rw [List.getD_eq_getElem?_getD, List.getElem?_eq_getElem hi, Option.getD_some] at this
      exact this
    · intro h
      have hks := begins_split h
      rw [hks]
      exact app_cmp a _
  · cases hm

/-- What two ranges share is what is in both. -/
theorem meet_in (k a b c d : List Nat) : inN k (meetA a c) (meetB b d) = (inN k a b && inN k c d) := by
  have hA : decide (0 ≤ cmpN k (meetA a c)) = (decide (0 ≤ cmpN k a) && decide (0 ≤ cmpN k c)) := by
    rw [Bool.eq_iff_iff]
    simp only [Bool.and_eq_true, decide_eq_true_eq]
    have ea := cmp_anti a k
    have ec := cmp_anti c k
    have eac := cmp_anti a c
    unfold meetA
    by_cases h : 0 < cmpN c a
    · rw [if_pos h]
      constructor
      · intro h1
        have := cmp_trans a c k (by omega) (by omega)
        omega
      · intro h1; omega
    · rw [if_neg h]
      constructor
      · intro h1
        have := cmp_trans c a k (by omega) (by omega)
        omega
      · intro h1; omega
  have hB : (decide ((meetB b d).length = 0) || decide (cmpN k (meetB b d) < 0)) = ((decide (b.length = 0) || decide (cmpN k b < 0)) && (decide (d.length = 0) || decide (cmpN k d < 0))) := by
    rw [Bool.eq_iff_iff]
    simp only [Bool.and_eq_true, Bool.or_eq_true, decide_eq_true_eq]
    have ebd := cmp_anti b d
    unfold meetB
    by_cases hb : b.length = 0
    · rw [if_pos (.inl hb)]
      constructor
      · intro h1; exact ⟨.inl hb, h1⟩
      · intro h1; exact h1.2
    · by_cases hd : d.length = 0
      · rw [if_neg (by omega)]
        constructor
        · intro h1; exact ⟨h1, .inl hd⟩
        · intro h1; exact h1.1
      · by_cases hlt : cmpN d b < 0
        · rw [if_pos (.inr ⟨by omega, hlt⟩)]
          constructor
          · intro h1
            have h2 : cmpN k d < 0 := by omega
            exact ⟨.inr (cmp_lt_le k d b h2 (by omega)), .inr h2⟩
          · intro h1; exact h1.2
        · rw [if_neg (by omega)]
          constructor
          · intro h1
            have h2 : cmpN k b < 0 := by omega
            exact ⟨.inr h2, .inr (cmp_lt_le k b d h2 (by omega))⟩
          · intro h1; exact h1.1
  unfold inN
  rw [hA, hB]
  generalize decide (0 ≤ cmpN k a) = q1
  generalize decide (0 ≤ cmpN k c) = q2
  generalize (decide (b.length = 0) || decide (cmpN k b < 0)) = q3
  generalize (decide (d.length = 0) || decide (cmpN k d < 0)) = q4
  cases q1 <;> cases q2 <;> cases q3 <;> cases q4 <;> rfl
theorem meet_law (k a b c d : List Nat) : match meetN a b c d with
    | some (x, y) => inN k x y = (inN k a b && inN k c d)
    | none => (inN k a b && inN k c d) = false := by
  unfold meetN
  by_cases h : 0 < (meetB b d).length ∧ 0 ≤ cmpN (meetA a c) (meetB b d)
  · rw [if_pos h]
    show (inN k a b && inN k c d) = false
    rw [← meet_in]
    unfold inN
    rw [Bool.and_eq_false_iff]
    by_cases h1 : 0 ≤ cmpN k (meetA a c)
    · right
      have e1 := cmp_anti k (meetA a c)
      have e2 := cmp_anti (meetA a c) (meetB b d)
      have e3 := cmp_anti k (meetB b d)
      have := cmp_trans (meetB b d) (meetA a c) k (by omega) (by omega)
      rw [decide_eq_false (by omega), decide_eq_false (by omega)]
      rfl
    · left; exact decide_eq_false h1
  · rw [if_neg h]
    exact meet_in k a b c d

end Go.Proofs.Ytnghfnpmbjnjeaa
