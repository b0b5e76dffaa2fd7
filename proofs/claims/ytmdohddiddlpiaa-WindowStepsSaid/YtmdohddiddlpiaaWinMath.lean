/- A ring of places, as cells. Conditions: none. -/
import Derived.Test.YtmdohddiddlpiaaWords
namespace Go.Proofs.Ytmdohddiddlpiaa

/-- Pairs of cells, one behind the other. -/
def pairsN (f g : Nat → Value) (n : Nat) : List Value := (List.range n).flatMap fun i => [f i, g i]
theorem pairsN_succ (f g : Nat → Value) (n : Nat) : pairsN f g (n + 1) = pairsN f g n ++ [f n, g n] := by simp [pairsN, List.range_succ]
theorem pairsN_len (f g : Nat → Value) (n : Nat) : (pairsN f g n).length = 2 * n := by
  induction n with
  | zero => rfl
  | succ n ih => rw [pairsN_succ, List.length_append, ih]; simp; omega
theorem pairsN_get (f g : Nat → Value) (n : Nat) : ∀ i, i < n → (pairsN f g n)[2 * i]? = some (f i) ∧ (pairsN f g n)[2 * i + 1]? = some (g i) := by
  induction n with
  | zero => intro i hi; omega
  | succ n ih =>
    intro i hi
    rw [pairsN_succ]
    by_cases h : i < n
    · rw [List.getElem?_append_left (by rw [pairsN_len]; omega), List.getElem?_append_left (by rw [pairsN_len]; omega)]
      exact ih i h
    · obtain rfl : i = n := by omega
      rw [List.getElem?_append_right (by rw [pairsN_len]; omega), List.getElem?_append_right (by rw [pairsN_len]; omega), pairsN_len, Nat.sub_self, show 2 * i + 1 - 2 * i = 1 by omega]
      exact ⟨rfl, rfl⟩
/-- One place another. -/
def upd {α : Type} (f : Nat → α) (r : Nat) (x : α) : Nat → α := fun i => if i = r then x else f i
theorem upd_same {α : Type} (f : Nat → α) (r : Nat) (x : α) : upd f r x r = x := if_pos rfl
theorem upd_other {α : Type} (f : Nat → α) {r i : Nat} (x : α) (h : i ≠ r) : upd f r x i = f i := if_neg h
theorem pairsN_ext (f g : Nat → Value) (n : Nat) (l : List Value) (hl : l.length = 2 * n) (h : ∀ i, i < n → l[2 * i]? = some (f i) ∧ l[2 * i + 1]? = some (g i)) : l = pairsN f g n := by
  apply List.ext_getElem?
  intro j
  by_cases hj : j < 2 * n
  · have hi : j / 2 < n := by omega
    obtain ⟨a, b⟩ := h _ hi
    obtain ⟨c, d⟩ := pairsN_get f g n _ hi
    rcases Nat.mod_two_eq_zero_or_one j with h2 | h2
    · rw [show j = 2 * (j / 2) by omega, a, c]
    · rw [show j = 2 * (j / 2) + 1 by omega, b, d]
  · rw [List.getElem?_eq_none (by omega), List.getElem?_eq_none (by rw [pairsN_len]; omega)]
theorem pairsN_set (f g : Nat → Value) (n r : Nat) (a b : Value) : ((pairsN f g n).set (2 * r) a).set (2 * r + 1) b = pairsN (upd f r a) (upd g r b) n := by
  refine pairsN_ext _ _ n _ (by simp [pairsN_len]) fun i hi => ?_
  obtain ⟨c, d⟩ := pairsN_get f g n i hi
  by_cases hir : i = r
  · subst hir
    rw [upd_same, upd_same, List.getElem?_set_ne (by omega), List.getElem?_set_self (by rw [pairsN_len]; omega), List.getElem?_set_self (by rw [List.length_set, pairsN_len]; omega)]
    exact ⟨rfl, rfl⟩
  · rw [upd_other f a hir, upd_other g b hir, List.getElem?_set_ne (by omega), List.getElem?_set_ne (by omega), List.getElem?_set_ne (by omega), List.getElem?_set_ne (by omega)]
    exact ⟨c, d⟩
theorem pairsN_set2 (f g : Nat → Value) (n r : Nat) (b : Value) : (pairsN f g n).set (2 * r + 1) b = pairsN f (upd g r b) n := by
  refine pairsN_ext _ _ n _ (by simp [pairsN_len]) fun i hi => ?_
  obtain ⟨c, d⟩ := pairsN_get f g n i hi
  by_cases hir : i = r
  · subst hir
    rw [upd_same, List.getElem?_set_ne (by omega), List.getElem?_set_self (by rw [pairsN_len]; omega)]
    exact ⟨c, rfl⟩
  · rw [upd_other g b hir, List.getElem?_set_ne (by omega), List.getElem?_set_ne (by omega)]
    exact ⟨c, d⟩
/-- A number's place is out. -/
def IsOut (n : Nat) (o : Nat → Bool) (m l : Nat) (z : Int) : Prop := (m : Int) < z ∧ z ≤ (l : Int) ∧ o (z.toNat % n) = true
theorem drewN_add (w : World) (a b : Nat) : (w.drewN a).drewN b = w.drewN (a + b) := by simp [World.drewN, Nat.add_assoc]
/-- A row as a block. -/
theorem row_blk {w : World} {base e n c g : Nat} {xs : List Value} (h : w.ownsRow base e 2 (.slice (some ⟨g, 0, none⟩) n c) n xs) (hn : 0 < n) : base ≤ g ∧ n ≤ c ∧ ∃ cur, Blk w g e cur ∧ cur.toList.take (2 * n) = xs := by
  rcases h.2 with ⟨h1, h2⟩ | ⟨g', cap, cur, hv, hb, hh, hnc, hm, hsz, ht⟩
  · omega
  · injection hv with h1 h2 h3
    injection h1 with h1
    injection h1 with h1
    subst h1; subst h3
    refine ⟨hb, hnc, cur, hh, ?_⟩
    rw [← ht, Nat.mul_comm]

end Go.Proofs.Ytmdohddiddlpiaa
