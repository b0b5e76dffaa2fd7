/- A slice of integers that came in. Conditions: those that it states. -/
import Derived.Test.YtmdohddiddlpiaaOpen
namespace Go.Proofs.Ytmdohddiddlpiaa
open Go.ChangeShapes Go.WideShapes Go.ChangeAt Go.RowKit Go.Deep

section
variable {H : Type} {enc : TypeId × Value → H} {P : Program} {w : World} {base : Nat} {sp : Nat → Bool} {held : Bool}
theorem open_intsV {k : IntKind} {t e fuel : Nat} {a : Option Addr} {n c : Nat} {x : DataW H × List MemPlace} (ht : P.underlying t = some (.slice e)) (he : P.underlying e = some (.int k)) (hc : P.cellsOf e = 1)
    (h : DataW.trod enc P w base sp held fuel t [.slice a n c] = some x) :
    ∃ zs : List Int, Reads w w.heap.size 1 a n (zs.map (Value.int k)) ∧ n ≤ c ∧ c ≤ maxLen ∧ (elems x.1).length = n ∧ zs.length = n ∧ ∀ z ∈ zs, (Lit.int k z).wf = true := by
  rcases open_ints ht he hc h with ⟨hcs, rfl⟩ | ⟨ad, len, cap, zs, hcs, _, hl, hm, hz, rfl, hcell, hwz⟩
  · injection hcs with hcs _
    injection hcs with h1 h2 h3
    subst h1; subst h2; subst h3
    exact ⟨[], Reads.none_, Nat.le_refl _, by simp, rfl, rfl, fun z hz => by cases hz⟩
  · injection hcs with hcs _
    injection hcs with h1 h2 h3
    subst h1; subst h2; subst h3
    have hzl : n ≤ zs.length := by rw [hz]; split <;> omega
    refine ⟨zs.take n, ⟨by simp; omega, fun h0 => ⟨ad, rfl, ?_, fun j u hu => ?_⟩⟩, hl, hm, by simp [elems, lits]; omega, by simp; omega, fun z hz' => hwz z (List.mem_of_mem_take hz')⟩
    · have := World.block_lt_of_cell? w _ (hcell 0 (by omega))
      rwa [block_of_add] at this
    · have hj : j < n := by have := (List.getElem?_eq_some_iff.1 hu).1; simp at this; omega
      have hjz : j < zs.length := by omega
      rw [hcell j hjz]
      simp [List.getElem?_take, hj, List.getElem?_eq_getElem hjz] at hu
      rw [← hu]
      simp [List.getElem?_eq_getElem hjz]
end
end Go.Proofs.Ytmdohddiddlpiaa
