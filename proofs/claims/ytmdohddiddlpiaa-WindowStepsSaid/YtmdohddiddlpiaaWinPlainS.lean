/- Plain laws of what is out in a window. Conditions: those that each states. -/
import Derived.Test.YtmdohddiddlpiaaWinSeqS
import Derived.Test.YtmdohddiddlpiaaWinMods
namespace Go.Proofs.Ytmdohddiddlpiaa

def numsOfS (l : List (Nat × ByteArray)) : List Nat := l.map (·.1)
theorem outs_memS (o : Nat → Bool) (v : Nat → ByteArray) (n m j k : Nat) : k ∈ numsOfS (outsNS o v n m j) ↔ m < k ∧ k ≤ m + j ∧ o (k % n) = true := by
  induction j with
  | zero => simp [numsOfS, outsNS]; omega
  | succ j ih =>
    have e : numsOfS (outsNS o v n m (j + 1)) = numsOfS (outsNS o v n m j) ++ (if o ((m + 1 + j) % n) = true then [m + 1 + j] else []) := by
      rw [outsNS]
      unfold numsOfS
      rw [List.map_append]
      congr 1
      split <;> rfl
    rw [e, List.mem_append, ih]
    constructor
    · rintro (⟨a, b, c⟩ | h)
      · exact ⟨a, by omega, c⟩
      · split at h
        · rename_i ho
          simp at h
          subst h
          exact ⟨by omega, by omega, ho⟩
        · cases h
    · rintro ⟨a, b, c⟩
      by_cases hk : k ≤ m + j
      · exact .inl ⟨a, hk, c⟩
      · have hk2 : k = m + 1 + j := by omega
        rw [← hk2, if_pos c]
        exact .inr (by simp)
theorem outs_sortedS (o : Nat → Bool) (v : Nat → ByteArray) (n m j : Nat) : (numsOfS (outsNS o v n m j)).Pairwise (· < ·) := by
  induction j with
  | zero => simp [numsOfS, outsNS]
  | succ j ih =>
    have e : numsOfS (outsNS o v n m (j + 1)) = numsOfS (outsNS o v n m j) ++ (if o ((m + 1 + j) % n) = true then [m + 1 + j] else []) := by
      rw [outsNS]
      unfold numsOfS
      rw [List.map_append]
      congr 1
      split <;> rfl
    rw [e, List.pairwise_append]
    refine ⟨ih, by split <;> simp, fun a ha b hb => ?_⟩
    have h1 := ((outs_memS o v n m j a).1 ha).2.1
    split at hb
    · simp at hb; omega
    · cases hb
theorem outs_noneS (o : Nat → Bool) (v : Nat → ByteArray) (n m j : Nat) (h : ∀ k, m < k → k ≤ m + j → o (k % n) = false) : outsNS o v n m j = [] := by
  have : numsOfS (outsNS o v n m j) = [] := by
    refine List.eq_nil_iff_forall_not_mem.2 fun k hk => ?_
    obtain ⟨a, b, c⟩ := (outs_memS o v n m j k).1 hk
    rw [h k a b] at c
    cases c
  simpa [numsOfS] using this
end Go.Proofs.Ytmdohddiddlpiaa
