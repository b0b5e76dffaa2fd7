/- The next one that is out. Conditions: those that each states. -/
import Derived.Test.YtmdohddiddlpiaaWinRel
namespace Go.Proofs.Ytmdohddiddlpiaa

/-- The last number that was told. -/
def lastN (pre : List (Nat × ByteArray)) : Nat := (pre.getLast?.map (·.1)).getD 0
theorem lastN_nil : lastN [] = 0 := rfl
theorem lastN_snoc (pre : List (Nat × ByteArray)) (x : Nat × ByteArray) : lastN (pre ++ [x]) = x.1 := by simp [lastN]
theorem lastN_max {pre : List (Nat × ByteArray)} (h : (numsOfS pre).Pairwise (· < ·)) : ∀ k ∈ numsOfS pre, k ≤ lastN pre := by
  rcases List.eq_nil_or_concat pre with rfl | ⟨l, x, rfl⟩
  · intro k hk; cases hk
  · intro k hk
    rw [List.concat_eq_append] at *
    rw [lastN_snoc]
    rw [numsOfS, List.map_append, List.pairwise_append] at h
    rw [numsOfS, List.map_append, List.mem_append] at hk
    rcases hk with hk | hk
    · exact Nat.le_of_lt (h.2.2 k hk x.1 (by simp))
    · simp at hk; omega

section
variable {n : Nat} {o : Nat → Bool} {v : Nat → ByteArray} {m l : Nat} {th : List ByteArray} {bk : List Bool}
theorem outs_val (o : Nat → Bool) (v : Nat → ByteArray) (n m : Nat) : ∀ j x, x ∈ outsNS o v n m j → x.2 = v (x.1 % n) := by
  intro j
  induction j with
  | zero => intro x hx; cases hx
  | succ j ih =>
    intro x hx
    rw [outsNS, List.mem_append] at hx
    rcases hx with hx | hx
    · exact ih x hx
    · split at hx
      · simp at hx; subst hx; rfl
      · cases hx
theorem next_out (h : Rel n o v m l th bk) {pre : List (Nat × ByteArray)} (hp : pre <+: outsNS o v n m (l - m)) (k : Nat) (hk : lastN pre < k) (hgap : ∀ i, lastN pre < i → i < k → bk[i - 1]? ≠ some false) :
    (∀ x, bk[k - 1]? = some false → th[k - 1]? = some x → (pre ++ [(k, x)]) <+: outsNS o v n m (l - m) ∧ ∀ y, (pre ++ [y]) <+: outsNS o v n m (l - m) → y = (k, x)) ∧
    (l < k → ∀ y, ¬ (pre ++ [y]) <+: outsNS o v n m (l - m)) := by
  have hml : m ≤ l := by rw [← h.mks, ← h.bl]; exact mk_le bk
  have hmem := outs_memS o v n m (l - m)
  rw [show m + (l - m) = l by omega] at hmem
  have hsort := outs_sortedS o v n m (l - m)
  have hval := outs_val o v n m (l - m)
  obtain ⟨rest, hX⟩ := hp
  obtain ⟨X, hX2⟩ : ∃ X, outsNS o v n m (l - m) = X := ⟨_, rfl⟩
  rw [hX2] at hX hmem hsort hval ⊢
  subst hX
  have hmm : ∀ z, (z ∈ numsOfS pre ∨ z ∈ numsOfS rest) ↔ m < z ∧ z ≤ l ∧ o (z % n) = true := fun z => by rw [← hmem z]; simp [numsOfS]
  have hs3 := hsort
  rw [numsOfS, List.map_append, List.pairwise_append] at hs3
  have hmax := lastN_max (pre := pre) hs3.1
  -- an out number beyond the last one stands in the rest
  have inrest : ∀ j, lastN pre < j + 1 → bk[j]? = some false → j + 1 ∈ numsOfS rest := by
    intro j hj hb
    obtain ⟨_, _, _, h3, h4, h5⟩ := h.get hb
    rcases (hmm (j + 1)).2 ⟨h3, h4, h5⟩ with hh | hh
    · have := hmax _ hh; omega
    · exact hh
  have first : ∀ y ys, rest = y :: ys → lastN pre < y.1 ∧ bk[y.1 - 1]? = some false ∧ 1 ≤ y.1 ∧ ∀ z ∈ numsOfS rest, y.1 ≤ z := by
    intro y ys e
    subst e
    obtain ⟨a, b, c⟩ := (hmm y.1).1 (.inr (by simp [numsOfS]))
    refine ⟨?_, ?_, by omega, fun z hz => ?_⟩
    · rcases List.eq_nil_or_concat pre with e | ⟨l', x, e⟩
      · subst e; rw [lastN_nil]; omega
      · rw [List.concat_eq_append] at e
        subst e
        rw [lastN_snoc]
        exact hs3.2.2 x.1 (by simp) y.1 (by simp)
    · have ho := (h.isOut (y.1 : Int)).1 ⟨by omega, by omega, by simpa using c⟩
      have := ho.2
      rwa [show ((y.1 : Nat) : Int).toNat - 1 = y.1 - 1 by omega] at this
    · have hp2 := hs3.2.1
      rw [List.map_cons, List.pairwise_cons] at hp2
      simp only [numsOfS, List.map_cons, List.mem_cons] at hz
      rcases hz with rfl | hz
      · exact Nat.le_refl _
      · exact Nat.le_of_lt (hp2.1 z hz)
  have hcons : ∀ y, (pre ++ [y]) <+: pre ++ rest → ∃ ys, rest = y :: ys := by
    intro y hy
    rw [List.prefix_append_right_inj] at hy
    obtain ⟨ys, e⟩ := hy
    exact ⟨ys, by rw [← e]; rfl⟩
  refine ⟨fun x hb hx => ?_, fun hlk y hy => ?_⟩
  · have hin := inrest (k - 1) (by omega) hb
    rw [show k - 1 + 1 = k by omega] at hin
    cases hr : rest with
    | nil => rw [hr] at hin; cases hin
    | cons y ys =>
      obtain ⟨f1, f2, f3, f4⟩ := first y ys hr
      have e1 : y.1 = k := by
        have h1 := f4 k hin
        rcases Nat.lt_or_ge y.1 k with h2 | h2
        · exact absurd f2 (hgap y.1 f1 h2)
        · omega
      have e2 : y.2 = x := by
        rw [hval y (by rw [hr]; simp), e1]
        have := h.thing (k - 1) x hb hx
        rwa [show k - 1 + 1 = k by omega] at this
      have e3 : y = (k, x) := by rw [← e1, ← e2]
      subst e3
      refine ⟨by rw [List.prefix_append_right_inj]; exact ⟨ys, rfl⟩, fun z hz => ?_⟩
      rw [← hr] at hz
      obtain ⟨zs, ez⟩ := hcons z hz
      rw [hr] at ez
      injection ez with ez
      exact ez.symm
  · obtain ⟨ys, e⟩ := hcons y hy
    obtain ⟨f1, f2, f3, f4⟩ := first y ys e
    have hyl : y.1 ≤ l := ((hmm y.1).1 (.inr (by rw [e]; simp [numsOfS]))).2.1
    exact absurd f2 (hgap y.1 f1 (by omega))
end
end Go.Proofs.Ytmdohddiddlpiaa
