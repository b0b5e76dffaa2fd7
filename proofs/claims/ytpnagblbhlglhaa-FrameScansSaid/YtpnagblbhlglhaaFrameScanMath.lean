/- What frames bytes are: plain facts. Conditions: those that each states. -/
import Derived.Test.YtpnagblbhlglhaaFrameOne
namespace Go.Proofs.Ytpnagblbhlglhaa
open Go.RowKit

section
variable (E N : List Nat → Nat) (K : List Nat → Nat × List Nat)
def scanF : Nat → List Nat → List (Nat × List Nat) × Nat
  | 0, _ => ([], 0)
  | _ + 1, [] => ([], 0)
  | f + 1, x :: b => if E (x :: b) = 0 then (K (x :: b) :: (scanF f ((x :: b).drop (9 + N (x :: b)))).1, (scanF f ((x :: b).drop (9 + N (x :: b)))).2) else ([], E (x :: b))
theorem scanF_more (f : Nat) : ∀ b : List Nat, b.length ≤ f → ∀ g, b.length ≤ g → scanF E N K f b = scanF E N K g b := by
  induction f with
  | zero =>
    intro b hb g _
    obtain rfl : b = [] := List.length_eq_zero_iff.1 (by omega)
    cases g <;> rfl
  | succ f ih =>
    intro b hb g hg
    cases b with
    | nil => cases g <;> rfl
    | cons x b =>
      cases g with
      | zero => simp at hg
      | succ g =>
        simp only [List.length_cons] at hb hg
        have e := ih ((x :: b).drop (9 + N (x :: b))) (by rw [List.length_drop, List.length_cons]; omega) g (by rw [List.length_drop, List.length_cons]; omega)
        rw [scanF, scanF, e]
theorem scanF_nil (f : Nat) : scanF E N K f [] = ([], 0) := by cases f <;> rfl
theorem scanF_step (b : List Nat) (h : b ≠ []) (hE : E b = 0) : scanF E N K b.length b = (K b :: (scanF E N K (b.drop (9 + N b)).length (b.drop (9 + N b))).1, (scanF E N K (b.drop (9 + N b)).length (b.drop (9 + N b))).2) := by
  cases b with
  | nil => exact absurd rfl h
  | cons x b =>
    have e := scanF_more E N K b.length ((x :: b).drop (9 + N (x :: b))) (by rw [List.length_drop, List.length_cons]; omega) _ (Nat.le_refl _)
    rw [List.length_cons, scanF, if_pos hE, e]
theorem scanF_end (b : List Nat) (h : b ≠ []) (hE : E b ≠ 0) : scanF E N K b.length b = ([], E b) := by
  cases b with
  | nil => exact absurd rfl h
  | cons x b => rw [List.length_cons, scanF, if_neg hE]
theorem scan_exists : ∃ f : List Nat → List (Nat × List Nat) × Nat, f [] = ([], 0) ∧ (∀ b, b ≠ [] → E b = 0 → f b = (K b :: (f (b.drop (9 + N b))).1, (f (b.drop (9 + N b))).2)) ∧ (∀ b, b ≠ [] → E b ≠ 0 → f b = ([], E b)) :=
  ⟨fun b => scanF E N K b.length b, scanF_nil E N K _, scanF_step E N K, scanF_end E N K⟩
end
def frK (b : List Nat) : Nat × List Nat := (b.getD 0 0, bodyN b)
/-- The frames of bytes, and why not further. -/
noncomputable def scanP : List Nat → List (Nat × List Nat) × Nat := Classical.choose (scan_exists beginE bgN frK)
theorem scanP_spec : scanP [] = ([], 0) ∧ (∀ b, b ≠ [] → beginE b = 0 → scanP b = (frK b :: (scanP (b.drop (9 + bgN b))).1, (scanP (b.drop (9 + bgN b))).2)) ∧ (∀ b, b ≠ [] → beginE b ≠ 0 → scanP b = ([], beginE b)) :=
  Classical.choose_spec (scan_exists beginE bgN frK)
noncomputable def scanL (b : List Nat) : List (Nat × List Nat) := (scanP b).1
noncomputable def scanE (b : List Nat) : Nat := (scanP b).2
def sizeL (l : List (Nat × List Nat)) : Nat := (l.map fun x => 9 + x.2.length).sum

theorem scanL_nil : scanL [] = [] := by unfold scanL; rw [scanP_spec.1]
theorem scanE_nil : scanE [] = 0 := by unfold scanE; rw [scanP_spec.1]
theorem scanL_step {b : List Nat} (h : b ≠ []) (hE : beginE b = 0) : scanL b = (b.getD 0 0, bodyN b) :: scanL (b.drop (9 + bgN b)) := congrArg Prod.fst (scanP_spec.2.1 b h hE)
theorem scanE_step {b : List Nat} (h : b ≠ []) (hE : beginE b = 0) : scanE b = scanE (b.drop (9 + bgN b)) := (congrArg Prod.snd (scanP_spec.2.1 b h hE) :)
theorem scanL_end {b : List Nat} (h : b ≠ []) (hE : beginE b ≠ 0) : scanL b = [] := congrArg Prod.fst (scanP_spec.2.2 b h hE)
theorem scanE_end {b : List Nat} (h : b ≠ []) (hE : beginE b ≠ 0) : scanE b = beginE b := congrArg Prod.snd (scanP_spec.2.2 b h hE)
theorem sizeL_append (a b : List (Nat × List Nat)) : sizeL (a ++ b) = sizeL a + sizeL b := by simp [sizeL]
theorem sizeL_one (k : Nat) (b : List Nat) : sizeL [(k, b)] = 9 + b.length := by simp [sizeL]
theorem sizeL_cons (k : Nat) (b : List Nat) (l : List (Nat × List Nat)) : sizeL ((k, b) :: l) = 9 + b.length + sizeL l := by simp [sizeL]

theorem begin_fits {b : List Nat} (hE : beginE b = 0) : 9 + bgN b ≤ b.length := by
  unfold beginE at hE
  split at hE
  · cases hE
  · split at hE
    · cases hE
    · split at hE
      · cases hE
      · omega
theorem bodyN_len {b : List Nat} (hE : beginE b = 0) : (bodyN b).length = bgN b := by
  have := begin_fits hE
  unfold bodyN
  rw [List.length_take, List.length_drop]
  omega
theorem small_body {b : List Nat} (h : Small b) : Small (bodyN b) := fun x hx => h x (List.mem_of_mem_drop (List.mem_of_mem_take hx))
theorem small_drop {b : List Nat} (h : Small b) (k : Nat) : Small (b.drop k) := fun x hx => h x (List.mem_of_mem_drop hx)
theorem small_take {b : List Nat} (h : Small b) (k : Nat) : Small (b.take k) := fun x hx => h x (List.mem_of_mem_take hx)
theorem beginE_le (b : List Nat) : beginE b ≤ 141 := by
  unfold beginE
  split
  · decide
  · split
    · decide
    · split
      · decide
      · split <;> decide

/-- How far a going over is. -/
structure AtF (b : List Nat) (l : List (Nat × List Nat)) (k : Nat) : Prop where
  all : scanL b = l ++ scanL (b.drop k)
  why : scanE b = scanE (b.drop k)
  at_ : k = sizeL l
  le : k ≤ b.length
theorem AtF.start (b : List Nat) : AtF b [] 0 := ⟨by rw [List.drop_zero, List.nil_append], by rw [List.drop_zero], rfl, Nat.zero_le _⟩
theorem AtF.step {b : List Nat} {l : List (Nat × List Nat)} {k : Nat} (h : AtF b l k) (hk : k < b.length) (hE : beginE (b.drop k) = 0) :
    AtF b (l ++ [((b.drop k).getD 0 0, bodyN (b.drop k))]) (k + (9 + bgN (b.drop k))) := by
  have hn : b.drop k ≠ [] := fun e => by have := congrArg List.length e; rw [List.length_drop, List.length_nil] at this; omega
  have hf := begin_fits hE
  rw [List.length_drop] at hf
  refine ⟨?_, ?_, ?_, by omega⟩
  · rw [h.all, scanL_step hn hE, List.drop_drop, List.append_assoc]; rfl
  · rw [h.why, scanE_step hn hE, List.drop_drop]
  · rw [sizeL_append, sizeL_one, bodyN_len hE, ← h.at_]
theorem AtF.pre {b : List Nat} {l : List (Nat × List Nat)} {k : Nat} (h : AtF b l k) : l <+: scanL b := ⟨_, h.all.symm⟩
theorem AtF.stop {b : List Nat} {l : List (Nat × List Nat)} {k : Nat} (h : AtF b l k) (hk : k < b.length) (hE : beginE (b.drop k) ≠ 0) : l = scanL b ∧ scanE b = beginE (b.drop k) := by
  have hn : b.drop k ≠ [] := fun e => by have := congrArg List.length e; rw [List.length_drop, List.length_nil] at this; omega
  exact ⟨by rw [h.all, scanL_end hn hE, List.append_nil], by rw [h.why, scanE_end hn hE]⟩
theorem AtF.over {b : List Nat} {l : List (Nat × List Nat)} {k : Nat} (h : AtF b l k) (hk : ¬ k < b.length) : l = scanL b ∧ scanE b = 0 := by
  have hn : b.drop k = [] := List.drop_eq_nil_of_le (by omega)
  exact ⟨by rw [h.all, hn, scanL_nil, List.append_nil], by rw [h.why, hn, scanE_nil]⟩
end Go.Proofs.Ytpnagblbhlglhaa
