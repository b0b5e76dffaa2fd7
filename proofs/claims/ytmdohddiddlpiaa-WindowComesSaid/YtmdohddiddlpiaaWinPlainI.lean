/- Plain laws of what is out in a window. Conditions: those that each states. -/
import Derived.Test.YtmdohddiddlpiaaWinSeqI
import Derived.Test.YtmdohddiddlpiaaWinMods
namespace Go.Proofs.Ytmdohddiddlpiaa

def numsOfI (l : List (Nat × Int)) : List Nat := l.map (·.1)
theorem outs_memI (o : Nat → Bool) (v : Nat → Int) (n m j k : Nat) : k ∈ numsOfI (outsNI o v n m j) ↔ m < k ∧ k ≤ m + j ∧ o (k % n) = true := by
  induction j with
  | zero => simp [numsOfI, outsNI]; omega
  | succ j ih =>
    have e : numsOfI (outsNI o v n m (j + 1)) = numsOfI (outsNI o v n m j) ++ (if o ((m + 1 + j) % n) = true then [m + 1 + j] else []) := by
      rw [outsNI]
      unfold numsOfI
      rw [List.map_append]
      congr 1
      split <;> rfl
    rw [e, List.mem_append, ih]
    constructor
    · rintro (⟨a, b, c⟩ | h)
      · exact ⟨a, by omega, c⟩
      · split at h
        · rename_i ho
          simp at h
          subst h
          exact ⟨by omega, by omega, ho⟩
        · cases h
    · rintro ⟨a, b, c⟩
      by_cases hk : k ≤ m + j
      · exact .inl ⟨a, hk, c⟩
      · have hk2 : k = m + 1 + j := by omega
        rw [← hk2, if_pos c]
        exact .inr (by simp)
theorem outs_sortedI (o : Nat → Bool) (v : Nat → Int) (n m j : Nat) : (numsOfI (outsNI o v n m j)).Pairwise (· < ·) := by
  induction j with
  | zero => simp [numsOfI, outsNI]
  | succ j ih =>
    have e : numsOfI (outsNI o v n m (j + 1)) = numsOfI (outsNI o v n m j) ++ (if o ((m + 1 + j) % n) = true then [m + 1 + j] else []) := by
      rw [outsNI]
      unfold numsOfI
      rw [List.map_append]
      congr 1
      split <;> rfl
    rw [e, List.pairwise_append]
    refine ⟨ih, by split <;> simp, fun a ha b hb => ?_⟩
    have h1 := ((outs_memI o v n m j a).1 ha).2.1
    split at hb
    · simp at hb; omega
    · cases hb
theorem outs_noneI (o : Nat → Bool) (v : Nat → Int) (n m j : Nat) (h : ∀ k, m < k → k ≤ m + j → o (k % n) = false) : outsNI o v n m j = [] := by
  have : numsOfI (outsNI o v n m j) = [] := by
    refine List.eq_nil_iff_forall_not_mem.2 fun k hk => ?_
    obtain ⟨a, b, c⟩ := (outs_memI o v n m j k).1 hk
    rw [h k a b] at c
    cases c
  simpa [numsOfI] using this
end Go.Proofs.Ytmdohddiddlpiaa
