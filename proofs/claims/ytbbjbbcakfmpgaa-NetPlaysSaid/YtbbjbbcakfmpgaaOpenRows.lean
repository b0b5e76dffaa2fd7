/- A slice of structs that came in: its elements' cells. Conditions: those that each states. -/
import Derived.Test.YtbbjbbcakfmpgaaOpen
namespace Go.Proofs.Ytbbjbbcakfmpgaa
open Go.ChangeShapes Go.WideShapes Go.ChangeAt Go.RowKit Go.Deep

/-- n rows of k cells, one behind the other. -/
def RowsAt (w : World) (B : Nat) (A : Option Addr) (n k : Nat) (R : Nat → List Value) : Prop :=
  ∀ i, i < n → ∃ ad, A = some ad ∧ ad.block < B ∧ (R i).length = k ∧ ∀ j v, (R i)[j]? = some v → w.cell? ((ad.add (i * k)).add j) = some v
theorem RowsAt.keep {w w' : World} {B n k : Nat} {A : Option Addr} {R : Nat → List Value} (h : RowsAt w B A n k R) (hk : ∀ p : Addr, p.block < B → w'.cell? p = w.cell? p) : RowsAt w' B A n k R := fun i hi => by
  obtain ⟨ad, e, hb, hl, hc⟩ := h i hi
  refine ⟨ad, e, hb, hl, fun j v hj => ?_⟩
  rw [hk _ (by rw [block_of_add, block_of_add]; exact hb)]
  exact hc j v hj
theorem RowsAt.below {w w' : World} {B n k : Nat} {A : Option Addr} {R : Nat → List Value} (h : RowsAt w B A n k R) (hb : Below B w w') : RowsAt w' B A n k R := h.keep fun _ hp => hb.cell hp
theorem RowsAt.more {w : World} {B B' n k : Nat} {A : Option Addr} {R : Nat → List Value} (h : RowsAt w B A n k R) (hB : B ≤ B') : RowsAt w B' A n k R := fun i hi => by
  obtain ⟨ad, e, hb, r⟩ := h i hi
  exact ⟨ad, e, by omega, r⟩
theorem RowsAt.drewN {w : World} {B n k : Nat} {A : Option Addr} {R : Nat → List Value} (h : RowsAt w B A n k R) (m : Nat) : RowsAt (w.drewN m) B A n k R := h

section
variable {H : Type} {enc : TypeId × Value → H} {P : Program} {w : World} {base : Nat} {sp : Nat → Bool} {held : Bool}
/-- A slice of elements of k cells. -/
theorem open_rows {t e fuel k : Nat} {a : Option Addr} {n c : Nat} {x : DataW H × List MemPlace} (ht : P.underlying t = some (.slice e)) (hk : P.cellsOf e = k) (hk0 : 0 < k)
    (h : DataW.trod enc P w base sp held fuel t [.slice a n c] = some x) :
    ∃ R : Nat → List Value, RowsAt w w.heap.size a n k R ∧ n ≤ c ∧ c ≤ maxLen ∧ (elems x.1).length = n ∧ ∀ i, i < n → ∃ m y, DataW.trod enc P w base sp held m e (R i) = some y ∧ (elems x.1)[i]? = some y.1 := by
  rcases open_slice ht h with ⟨hcs, rfl⟩ | ⟨ad, len, cap, m, q, D, Pl, hcs, _, hl, hm, hmm, rfl, hi⟩
  · injection hcs with hcs _
    injection hcs with h1 h2 h3
    subst h1; subst h2; subst h3
    exact ⟨fun _ => [], fun i hi => absurd hi (by omega), Nat.le_refl _, by simp, rfl, fun i hi => absurd hi (by omega)⟩
  · injection hcs with hcs _
    injection hcs with h1 h2 h3
    subst h1; subst h2; subst h3
    have hnm : n ≤ m := by rw [hmm]; split <;> omega
    obtain ⟨R, hR⟩ := choose_lt (α := List Value) (p := fun i cs' => w.cells? base (ad.add (i * k)) k = some cs' ∧ DataW.trod enc P w base sp held q e cs' = some (D i, Pl i)) (fun i hin => by
      obtain ⟨cs', h1, h2⟩ := hi i hin
      rw [hk] at h1
      exact ⟨cs', h1, h2⟩)
    refine ⟨R, fun i hin => ?_, hl, hm, by simp [elems], fun i hin => ⟨q, _, (hR i (by omega)).2, ?_⟩⟩
    · obtain ⟨h1, _⟩ := hR i (by omega)
      obtain ⟨_, hlen, hcell⟩ := World.cells?_some h1
      refine ⟨ad, rfl, ?_, hlen, fun j v hj => ?_⟩
      · have h0 := hcell 0 hk0
        rw [List.getElem?_eq_getElem (by omega)] at h0
        have := World.block_lt_of_cell? w _ h0
        rwa [block_of_add, block_of_add] at this
      · rw [hcell j (by rw [← hlen]; exact (List.getElem?_eq_some_iff.1 hj).1), hj]
    · simp [elems, hin]
/-- Are all fields of a type i64? -/
def allI64 (P : Program) (fs : Array Field) : Bool := (List.range fs.size).all fun i => match fs[i]? with
  | some f => (P.underlying f.type).any fun u => match u with
    | .int .i64 => true
    | _ => false
  | none => false
/-- A struct of integers: its cells. -/
theorem open_ints_row {t fuel : Nat} {fs : Array Field} {cs : List Value} {x : DataW H × List MemPlace} (ht : P.underlying t = some (.struct fs)) (h1 : oneCells P fs = true) (hct : P.cellsOf t = fs.size)
    (hi : allI64 P fs = true)
    (h : DataW.trod enc P w base sp held fuel t cs = some x) : cs.length = fs.size ∧ ∀ i (hi : i < cs.length), ∃ z, cs[i] = .int .i64 z ∧ (Lit.int .i64 z).wf = true := by
  obtain ⟨hl, ys, _, hyl, hf⟩ := open_fields ht h1 hct h
  refine ⟨hl, fun i hlt => ?_⟩
  have h2 := List.all_eq_true.1 hi i (by simp; omega)
  obtain ⟨f, hfi⟩ : ∃ f, fs[i]? = some f := ⟨_, Array.getElem?_eq_getElem (by omega)⟩
  rw [hfi] at h2
  obtain ⟨m, y, _, hy⟩ := hf i f hlt hfi
  have hu : P.underlying f.type = some (.int .i64) := by
    cases hU : P.underlying f.type with
    | none => simp [hU] at h2
    | some u =>
      simp only [hU, Option.any_some] at h2
      split at h2
      · rfl
      · cases h2
  exact open_int_cell hu hy
end
end Go.Proofs.Ytbbjbbcakfmpgaa
