/- Two numbers in a row, plainly: their reading, the form of numbers in a row, and what is read of it and of its beginnings. Conditions: those that each states. -/
import Derived.Test.YtpnagblbhlglhaaWireTake
import Derived.Test.YtpnagblbhlglhaaWireLaw
namespace Go.Proofs.Ytpnagblbhlglhaa

/-- The second number's value; how far both are; the error. -/
def pB (l : List Nat) : Nat := if rdE l = 0 then rdV (l.drop (rdK l)) else 0
def pK (l : List Nat) : Nat := rdK l + (if rdE l = 0 then rdK (l.drop (rdK l)) else 0)
def pE (l : List Nat) : Nat := if rdE l = 0 then rdE (l.drop (rdK l)) else rdE l

theorem pair_law (l : List Nat) (h : Small l) : (pE l = 0 ∨ pE l = 4) ∧ pK l ≤ l.length ∧ rdV l < 18446744073709551616 ∧ pB l < 18446744073709551616 ∧
    (pE l = 0 → 2 ≤ pK l ∧ ∀ j, numsN (2 * (j + 1)) l = (numsN (2 * j) (l.drop (pK l))).map (fun q => (rdV l :: pB l :: q.1, pK l + q.2))) ∧ (pE l = 4 → ∀ j, numsN (2 * (j + 1)) l = none) := by
  obtain ⟨b1, b2, b3, b4, b5⟩ := rd_bounds l h
  obtain ⟨d1, d2, d3, d4, d5⟩ := rd_bounds (l.drop (rdK l)) (h.drop _)
  rw [List.length_drop] at d2
  cases hr : rdNum l with
  | none =>
    obtain ⟨e1, e2, e3⟩ := rd_none hr
    unfold pE pK pB
    rw [e3]
    refine ⟨.inr (by simp), by simp; omega, b1, by simp, fun h => by simp at h, fun _ j => ?_⟩
    rw [show 2 * (j + 1) = (2 * j + 1) + 1 by omega, numsN_none hr]
  | some p =>
    obtain ⟨v, k⟩ := p
    obtain ⟨e1, e2, e3⟩ := rd_some hr
    unfold pE pK pB
    simp only [e3, if_true]
    rw [e2] at d1 d2 d3 d4 b2 ⊢
    have b4' := b4 e3
    rw [e2] at b4'
    refine ⟨d3, by omega, b1, d1, fun h0 => ⟨by have := d4 h0; omega, fun j => ?_⟩, fun h4 j => ?_⟩
    · rw [show 2 * (j + 1) = (2 * j + 1) + 1 by omega, numsN_some hr]
      cases hq : rdNum (l.drop k) with
      | none => have := (rd_none hq).2.2; omega
      | some q =>
        obtain ⟨v2, k2⟩ := q
        obtain ⟨f1, f2, f3⟩ := rd_some hq
        rw [numsN_some hq, f1, f2, List.drop_drop, e1]
        cases numsN (2 * j) (l.drop (k + k2)) with
        | none => rfl
        | some y => simp only [Option.map_some, Option.some.injEq, Prod.mk.injEq, true_and]; omega
    · rw [show 2 * (j + 1) = (2 * j + 1) + 1 by omega, numsN_some hr]
      cases hq : rdNum (l.drop k) with
      | none => rw [numsN_none hq]; rfl
      | some q =>
        obtain ⟨v2, k2⟩ := q
        have := (rd_some hq).2.2
        omega

/-- Numbers' forms, one behind the other. -/
def formsN (L : List Nat) : List Nat := L.flatMap numF
theorem formsN_nil : formsN [] = [] := rfl
theorem formsN_cons (x : Nat) (L : List Nat) : formsN (x :: L) = numF x ++ formsN L := rfl
theorem formsN_append (L M : List Nat) : formsN (L ++ M) = formsN L ++ formsN M := by simp [formsN]
theorem formsN_small (L : List Nat) : Small (formsN L) := by
  induction L with
  | nil => intro c hc; cases hc
  | cons x L ih => exact (numF_small x).append ih
theorem formsN_len (L : List Nat) (h : ∀ x ∈ L, x < 18446744073709551616) : L.length ≤ (formsN L).length ∧ (formsN L).length ≤ 10 * L.length := by
  induction L with
  | nil => exact ⟨Nat.le_refl _, by simp [formsN]⟩
  | cons x L ih =>
    have := ih (fun y hy => h y (List.mem_cons_of_mem _ hy))
    have h1 := numF_le x (h x (List.mem_cons_self ..))
    have h2 := numF_pos x
    rw [formsN_cons, List.length_append, List.length_cons]
    omega
theorem rdNum_form (n : Nat) (rest : List Nat) (hn : n < 18446744073709551616) : rdNum (numF n ++ rest) = some (n, (numF n).length) := by
  have h := rdN_form n 0 0 rest (by omega) hn (.inl rfl)
  rwa [Nat.zero_add, Nat.zero_add, Nat.mul_zero, Nat.pow_zero, Nat.mul_one] at h
/-- Of a number's form no beginning is read. -/
theorem rdNum_short (n cut : Nat) (hn : n < 18446744073709551616) (h : cut < (numF n).length) : rdNum ((numF n).take cut) = none := by
  have hs : Small ((numF n).take cut) := (numF_small n).take _
  cases hr : rdNum ((numF n).take cut) with
  | none => rfl
  | some p =>
    obtain ⟨v, k⟩ := p
    exfalso
    obtain ⟨m, rest, h1, h2, h3, _⟩ := rdN_back _ 0 0 v k hs hr
    rw [Nat.zero_add, Nat.mul_zero, Nat.pow_zero, Nat.mul_one] at h1
    subst h1
    rw [Nat.zero_add] at h3
    have hv : v < 18446744073709551616 := (rdN_lt _ 0 0 v k (by omega) (by decide) hs hr).1
    have e : numF n = numF v ++ (rest ++ (numF n).drop cut) := by
      rw [← List.append_assoc, ← h2, List.take_append_drop]
    have r1 := rdNum_form v (rest ++ (numF n).drop cut) hv
    rw [← e] at r1
    have r2 := rdNum_form n [] hn
    rw [List.append_nil, r1] at r2
    injection r2 with r2
    injection r2 with r2 r3
    have hl := congrArg List.length h2
    rw [List.length_take, List.length_append] at hl
    omega
theorem nums_forms (L rest : List Nat) (h : ∀ x ∈ L, x < 18446744073709551616) : numsN L.length (formsN L ++ rest) = some (L, (formsN L).length) := by
  induction L with
  | nil => rfl
  | cons x L ih =>
    have hx := rdNum_form x (formsN L ++ rest) (h x (List.mem_cons_self ..))
    rw [formsN_cons, List.append_assoc, List.length_cons, numsN_some hx, List.drop_left, ih (fun y hy => h y (List.mem_cons_of_mem _ hy))]
    simp
theorem nums_short (L : List Nat) (h : ∀ x ∈ L, x < 18446744073709551616) : ∀ cut, cut < (formsN L).length → numsN L.length ((formsN L).take cut) = none := by
  induction L with
  | nil => intro cut hc; simp [formsN] at hc
  | cons x L ih =>
    intro cut hc
    have hx := h x (List.mem_cons_self ..)
    rw [formsN_cons, List.length_append] at hc
    rw [formsN_cons, List.length_cons]
    by_cases hlt : cut < (numF x).length
    · rw [List.take_append_of_le_length (by omega), numsN_none (rdNum_short x cut hx hlt)]
    · obtain ⟨d, rfl⟩ : ∃ d, cut = (numF x).length + d := ⟨cut - (numF x).length, by omega⟩
      rw [List.take_length_add_append, numsN_some (rdNum_form x _ hx), List.drop_left, ih (fun y hy => h y (List.mem_cons_of_mem _ hy)) d (by omega)]
      rfl

/-- What a list of pairs ends in: the values and how far, or none; its error. -/
def lstP (l : List Nat) (M : Nat) : Option (List Nat × Nat) := if cntE l M = 0 then (numsN (2 * rdV l) (l.drop (rdK l))).map (fun p => (p.1, rdK l + p.2)) else none
def lstPE (l : List Nat) (M : Nat) : Nat := if cntE l M = 0 then (if (numsN (2 * rdV l) (l.drop (rdK l))).isSome then 0 else 4) else cntE l M

theorem lists_fewer (n : Nat) (L : List Nat) (hn : n < 18446744073709551616) (h0 : 0 < n) : lstPE (numF n ++ formsN L) (n - 1) = 3 ∧ lstP (numF n ++ formsN L) (n - 1) = none := by
  obtain ⟨e1, e2, e3⟩ := rd_some (rdNum_form n (formsN L) hn)
  have hc : cntE (numF n ++ formsN L) (n - 1) = 3 := by unfold cntE; rw [e1, e3, if_pos rfl, if_pos (by omega)]
  unfold lstPE lstP
  rw [hc]
  exact ⟨rfl, rfl⟩
section
variable (n : Nat) (L : List Nat) (hl : L.length = 2 * n) (hn : n < 18446744073709551616) (h : ∀ x ∈ L, x < 18446744073709551616)
include hl hn h
theorem lists_whole : lstPE (numF n ++ formsN L) n = 0 ∧ lstP (numF n ++ formsN L) n = some (L, (numF n ++ formsN L).length) := by
  obtain ⟨e1, e2, e3⟩ := rd_some (rdNum_form n (formsN L) hn)
  have hq := nums_forms L [] h
  rw [List.append_nil, hl] at hq
  have hc : cntE (numF n ++ formsN L) n = 0 := by unfold cntE; rw [e1, e3]; simp
  unfold lstPE lstP
  rw [if_pos hc, if_pos hc, e1, e2, List.drop_left, hq, List.length_append]
  exact ⟨rfl, rfl⟩
theorem lists_cut (cut : Nat) (hc : cut < (numF n ++ formsN L).length) : lstPE ((numF n ++ formsN L).take cut) n = 4 ∧ lstP ((numF n ++ formsN L).take cut) n = none := by
  rw [List.length_append] at hc
  by_cases hlt : cut < (numF n).length
  · obtain ⟨e1, e2, e3⟩ := rd_none (rdNum_short n cut hn hlt)
    rw [List.take_append_of_le_length (by omega)]
    have hc : cntE ((numF n).take cut) n = 4 := by unfold cntE; rw [e3]; rfl
    unfold lstPE lstP
    rw [hc]
    exact ⟨rfl, rfl⟩
  · obtain ⟨d, rfl⟩ : ∃ d, cut = (numF n).length + d := ⟨cut - (numF n).length, by omega⟩
    rw [List.take_length_add_append]
    obtain ⟨e1, e2, e3⟩ := rd_some (rdNum_form n ((formsN L).take d) hn)
    have hq := nums_short L h d (by omega)
    rw [hl] at hq
    have hc : cntE (numF n ++ (formsN L).take d) n = 0 := by unfold cntE; rw [e1, e3]; simp
    unfold lstPE lstP
    rw [if_pos hc, if_pos hc, e1, e2, List.drop_left, hq]
    exact ⟨rfl, rfl⟩
end
end Go.Proofs.Ytpnagblbhlglhaa
