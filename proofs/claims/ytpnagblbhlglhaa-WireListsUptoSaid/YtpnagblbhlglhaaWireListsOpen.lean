/- A slice of arrays of two words that came in, as words in a row. Conditions: those that each states. -/
import Derived.Test.YtpnagblbhlglhaaOpenRows
import Derived.Test.YtpnagblbhlglhaaWireTake
namespace Go.Proofs.Ytpnagblbhlglhaa
open Go.ChangeShapes Go.WideShapes Go.ChangeAt Go.RowKit Go.Deep

def twoN (f g : Nat → Nat) (n : Nat) : List Nat := (List.range n).flatMap fun i => [f i, g i]
theorem twoN_succ (f g : Nat → Nat) (n : Nat) : twoN f g (n + 1) = twoN f g n ++ [f n, g n] := by simp [twoN, List.range_succ]
theorem twoN_len (f g : Nat → Nat) (n : Nat) : (twoN f g n).length = 2 * n := by
  induction n with
  | zero => rfl
  | succ n ih => rw [twoN_succ, List.length_append, ih]; simp; omega
theorem twoN_get (f g : Nat → Nat) (n : Nat) : ∀ i, i < n → (twoN f g n)[2 * i]? = some (f i) ∧ (twoN f g n)[2 * i + 1]? = some (g i) := by
  induction n with
  | zero => intro i hi; omega
  | succ n ih =>
    intro i hi
    rw [twoN_succ]
    by_cases h : i < n
    · rw [List.getElem?_append_left (by rw [twoN_len]; omega), List.getElem?_append_left (by rw [twoN_len]; omega)]
      exact ih i h
    · obtain rfl : i = n := by omega
      rw [List.getElem?_append_right (by rw [twoN_len]; omega), List.getElem?_append_right (by rw [twoN_len]; omega), twoN_len, Nat.sub_self, show 2 * i + 1 - 2 * i = 1 by omega]
      exact ⟨rfl, rfl⟩
theorem twoN_lt (f g : Nat → Nat) (n M : Nat) (hf : ∀ i, i < n → f i < M) (hg : ∀ i, i < n → g i < M) : ∀ x ∈ twoN f g n, x < M := by
  intro x hx
  simp only [twoN, List.mem_flatMap, List.mem_range] at hx
  obtain ⟨i, hi, h⟩ := hx
  simp at h
  rcases h with rfl | rfl
  · exact hf i hi
  · exact hg i hi

theorem reads_rows {w : World} {B n : Nat} {A : Option Addr} {R : Nat → List Value} (h : RowsAt w B A n 2 R)
    (hR : ∀ i, i < n → ∃ x y : Nat, R i = [.int .u64 x, .int .u64 y] ∧ x < 18446744073709551616 ∧ y < 18446744073709551616) : ∃ L : List Nat, Reads w B 2 A n (wrds L) ∧ ∀ x ∈ L, x < 18446744073709551616 := by
  obtain ⟨F, hF⟩ := choose_lt (α := Nat × Nat) (p := fun i q => R i = [.int .u64 (q.1 : Int), .int .u64 (q.2 : Int)] ∧ q.1 < 18446744073709551616 ∧ q.2 < 18446744073709551616) (fun i hi => by
    obtain ⟨x, y, h1, h2, h3⟩ := hR i hi
    exact ⟨(x, y), h1, h2, h3⟩)
  refine ⟨twoN (fun i => (F i).1) (fun i => (F i).2) n, ⟨by rw [wrds_length, twoN_len]; omega, fun hn => ?_⟩, twoN_lt _ _ _ _ (fun i hi => (hF i hi).2.1) (fun i hi => (hF i hi).2.2)⟩
  obtain ⟨ad, e, hb, _⟩ := h 0 hn
  refine ⟨ad, e, hb, fun j u hu => ?_⟩
  have hj : j < 2 * n := by
    have := (List.getElem?_eq_some_iff.1 hu).1
    rw [wrds_length, twoN_len] at this
    exact this
  obtain ⟨ad', e', _, _, hc⟩ := h (j / 2) (by omega)
  rw [e] at e'
  injection e' with e'
  subst e'
  obtain ⟨t0, t1⟩ := twoN_get (fun i => (F i).1) (fun i => (F i).2) n (j / 2) (by omega)
  have hRj := (hF (j / 2) (by omega)).1
  rcases Nat.mod_two_eq_zero_or_one j with h2 | h2
  · have ej : j = 2 * (j / 2) := by omega
    have := hc 0 (.int .u64 ((F (j / 2)).1 : Int)) (by rw [hRj]; rfl)
    rw [add_of_add, show j / 2 * 2 + 0 = j by omega] at this
    rw [this]
    rw [wrds, List.getElem?_map, ej, t0] at hu
    exact hu
  · have ej : j = 2 * (j / 2) + 1 := by omega
    have := hc 1 (.int .u64 ((F (j / 2)).2 : Int)) (by rw [hRj]; rfl)
    rw [add_of_add, show j / 2 * 2 + 1 = j by omega] at this
    rw [this]
    rw [wrds, List.getElem?_map, ej, t1] at hu
    exact hu

section
variable {H : Type} {enc : TypeId × Value → H} {P : Program} {w : World} {base : Nat} {sp : Nat → Bool} {held : Bool}
/-- An array of two words. -/
theorem open_two {t e fuel : Nat} {cs : List Value} {x : DataW H × List MemPlace} (ht : P.underlying t = some (.array 2 e)) (he : P.underlying e = some (.int .u64)) (hc : P.cellsOf e = 1) (hct : P.cellsOf t = 2)
    (h : DataW.trod enc P w base sp held fuel t cs = some x) : ∃ a b : Nat, cs = [.int .u64 a, .int .u64 b] ∧ a < 18446744073709551616 ∧ b < 18446744073709551616 := by
  obtain ⟨hl, hi⟩ := open_arr ht hc hct h
  obtain ⟨m0, y0, r0⟩ := hi 0 (by omega)
  obtain ⟨m1, y1, r1⟩ := hi 1 (by omega)
  obtain ⟨z0, e0, w0⟩ := open_int_cell he r0
  obtain ⟨z1, e1, w1⟩ := open_int_cell he r1
  simp [Lit.wf, IntKind.min, IntKind.max, IntKind.signed, IntKind.bits] at w0 w1
  refine ⟨z0.toNat, z1.toNat, ?_, by omega, by omega⟩
  apply List.ext_getElem (by simpa using hl)
  intro j h1 h2
  rcases (show j = 0 ∨ j = 1 by simp at h2; omega) with rfl | rfl
  · rw [e0]; show Value.int .u64 z0 = .int .u64 _; rw [Int.toNat_of_nonneg (by omega)]
  · rw [e1]; show Value.int .u64 z1 = .int .u64 _; rw [Int.toNat_of_nonneg (by omega)]
end
end Go.Proofs.Ytpnagblbhlglhaa
