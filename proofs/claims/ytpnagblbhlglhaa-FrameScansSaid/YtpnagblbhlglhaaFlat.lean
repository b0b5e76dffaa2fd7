/- Pieces one behind the other. Conditions: none. -/
import Derived.Test.YtpnagblbhlglhaaBytes
namespace Go.Proofs.Ytpnagblbhlglhaa

/-- The first k pieces, one behind the other. -/
def flatTo (ls : List (List Nat)) (k : Nat) : List Nat := (ls.take k).flatten
theorem flatTo_succ (ls : List (List Nat)) (k : Nat) (h : k < ls.length) : flatTo ls (k + 1) = flatTo ls k ++ ls[k] := by
  unfold flatTo
  rw [List.take_succ_eq_append_getElem h, List.flatten_append]
  simp
theorem flatTo_all (ls : List (List Nat)) : flatTo ls ls.length = ls.flatten := by unfold flatTo; rw [List.take_length]
theorem flatTo_le (ls : List (List Nat)) (k : Nat) : (flatTo ls k).length ≤ ls.flatten.length := by
  have : ls.flatten = flatTo ls k ++ (ls.drop k).flatten := by unfold flatTo; rw [← List.flatten_append, List.take_append_drop]
  rw [this, List.length_append]; omega
/-- A piece stands in the whole at its place. -/
theorem flat_piece (ls : List (List Nat)) (k : Nat) (h : k < ls.length) : (ls.flatten.drop (flatTo ls k).length).take ls[k].length = ls[k] ∧ (flatTo ls k).length + ls[k].length ≤ ls.flatten.length := by
  have e : ls.flatten = flatTo ls k ++ (ls[k] ++ (ls.drop (k + 1)).flatten) := by
    rw [← List.append_assoc, ← flatTo_succ ls k h]
    unfold flatTo
    rw [← List.flatten_append, List.take_append_drop]
  constructor
  · conv => lhs; rw [e]
    rw [List.drop_left, List.take_left]
  · rw [e]; simp only [List.length_append]; omega
theorem small_flatTo {ls : List (List Nat)} (h : ∀ k (hk : k < ls.length), Small ls[k]) (k : Nat) : Small (flatTo ls k) := by
  intro c hc
  obtain ⟨l, hl, hcl⟩ := List.mem_flatten.1 hc
  obtain ⟨j, hj, rfl⟩ := List.getElem_of_mem (List.mem_of_mem_take hl)
  exact h j hj c hcl

end Go.Proofs.Ytpnagblbhlglhaa
