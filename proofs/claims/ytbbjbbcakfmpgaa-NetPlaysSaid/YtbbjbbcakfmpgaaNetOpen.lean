/- A step of NetPlays that came in: two integers and a slice of texts. Conditions: those that each states. -/
import Derived.Test.YtbbjbbcakfmpgaaNetS
import Derived.Test.YtbbjbbcakfmpgaaOpenRows
namespace Go.Proofs.Ytbbjbbcakfmpgaa
open Go.ChangeShapes Go.WideShapes Go.ChangeAt Go.RowKit Go.Deep

section
variable {H : Type} {enc : TypeId × Value → H} {P : Program} {w : World} {base : Nat} {sp : Nat → Bool} {held : Bool}
theorem open_strsV {t e fuel : Nat} {a : Option Addr} {n c : Nat} {x : DataW H × List MemPlace} (ht : P.underlying t = some (.slice e)) (he : P.underlying e = some .string) (hc : P.cellsOf e = 1)
    (h : DataW.trod enc P w base sp held fuel t [.slice a n c] = some x) :
    ∃ ts : List ByteArray, Reads w w.heap.size 1 a n (strs ts) ∧ (elems x.1).length = n := by
  obtain ⟨R, hR, _, _, hel, hrow⟩ := open_rows ht hc (by decide) h
  have hs : ∀ i, i < n → ∃ s : ByteArray, R i = [.string s] := fun i hi => by
    obtain ⟨m, y, hm, _⟩ := hrow i hi
    obtain ⟨s, h1, _⟩ := DataW.trod_string he hm
    exact ⟨s, h1⟩
  let F : Nat → ByteArray := fun i => match R i with
    | [.string s] => s
    | _ => ⟨#[]⟩
  have hF : ∀ i, i < n → R i = [.string (F i)] := fun i hi => by
    obtain ⟨s, hs⟩ := hs i hi
    simp only [F, hs]
  refine ⟨(List.range n).map F, ⟨by simp [strs_length], fun h0 => ?_⟩, hel⟩
  obtain ⟨ad, rfl, hb, _, _⟩ := hR 0 (by simpa using h0)
  refine ⟨ad, rfl, hb, fun j u hu => ?_⟩
  have hj : j < n := by have := (List.getElem?_eq_some_iff.1 hu).1; simpa [strs_length] using this
  obtain ⟨ad', e, _, _, hcell⟩ := hR j hj
  injection e with e
  subst e
  have := hcell 0 (.string (F j)) (by rw [hF j hj]; rfl)
  rw [add_of_add, Nat.mul_one, Nat.add_zero] at this
  rw [this]
  simpa [strs, hj] using hu

/-- A struct of two integers and texts. -/
theorem open_stepS {t t0 t1 e fuel : Nat} {fs : Array Field} {cs : List Value} {x : DataW H × List MemPlace} (ht : P.underlying t = some (.struct fs)) (h1 : oneCells P fs = true) (hct : P.cellsOf t = fs.size)
    (hft : fs.toList.map (·.type) = [t0, t0, t1]) (u0 : P.underlying t0 = some (.int .i64)) (u1 : P.underlying t1 = some (.slice e)) (he : P.underlying e = some .string) (hc : P.cellsOf e = 1)
    (h : DataW.trod enc P w base sp held fuel t cs = some x) : ∃ (K N : Int) (T : Option Addr) (n c : Nat) (ts : List ByteArray), cs = [.int .i64 K, .int .i64 N, .slice T n c] ∧
      Reads w w.heap.size 1 T n (strs ts) ∧ (∀ R, (∀ m ∈ x.1.weights P t, m ≤ R) → n * P.bytesOf e ≤ R) := by
  have hsz : fs.size = 3 := by have := congrArg List.length hft; simpa using this
  obtain ⟨hl, ys, hx, hyl, hf⟩ := open_fields ht h1 hct h
  rw [hsz] at hl hyl
  have ft : ∀ i (hi : i < 3), ∃ f, fs[i]? = some f ∧ f.type = [t0, t0, t1][i]'hi := by
    intro i hi
    refine ⟨fs[i]'(by omega), Array.getElem?_eq_getElem _, ?_⟩
    simp only [← hft]
    simp
  obtain ⟨f0, g0, e0⟩ := ft 0 (by omega)
  obtain ⟨f1, g1, e1⟩ := ft 1 (by omega)
  obtain ⟨f2, g2, e2⟩ := ft 2 (by omega)
  obtain ⟨m0, y0, _, r0⟩ := hf 0 f0 (by omega) g0
  obtain ⟨m1, y1, q1, r1⟩ := hf 1 f1 (by omega) g1
  obtain ⟨m2, y2, q2, r2⟩ := hf 2 f2 (by omega) g2
  rw [show f0.type = t0 from e0] at r0
  rw [show f1.type = t0 from e1] at r1
  rw [show f2.type = t1 from e2] at r2
  obtain ⟨K, hK, _⟩ := open_int_cell u0 r0
  obtain ⟨N, hN, _⟩ := open_int_cell u0 r1
  obtain ⟨A, n, c, hA⟩ : ∃ a n c, cs[2]'(by omega) = .slice a n c := by
    rcases open_slice u1 r2 with ⟨hcs, _⟩ | ⟨ad, len, cap, _, _, _, _, hcs, _⟩
    · injection hcs with hcs _; exact ⟨_, _, _, hcs⟩
    · injection hcs with hcs _; exact ⟨_, _, _, hcs⟩
  rw [hA] at r2
  obtain ⟨ts, hr, hel⟩ := open_strsV u1 he hc r2
  refine ⟨K, N, A, n, c, ts, ?_, hr, fun R hR => ?_⟩
  · apply List.ext_getElem (by simpa using hl)
    intro i h1 h2
    rcases (show i = 0 ∨ i = 1 ∨ i = 2 by simp at h2; omega) with rfl | rfl | rfl
    · exact hK
    · exact hN
    · exact hA
  · have hw : ∀ m ∈ y2.1.weights P t1, m ≤ R := fun m hm => hR m (by
      rw [hx]
      simp only [DataW.weights, ht]
      exact DataW.weights_mem_each (j := 2) (by rw [hft]; rfl) (by rw [List.getElem?_map, q2]; rfl) m hm)
    rw [← hel]
    cases hy : y2.1 with
    | slice l r =>
      rw [hy] at hw
      have := hw ((l.length + r.length) * P.bytesOf e) (by simp [DataW.weights, u1])
      show l.length * P.bytesOf e ≤ R
      exact Nat.le_trans (Nat.mul_le_mul_right _ (Nat.le_add_right _ _)) this
    | _ => simp [elems]
/-- What the sizes say of an element. -/
theorem weight_elem {t e : Nat} {d y : DataW H} (ht : P.underlying t = some (.slice e)) (hy : y ∈ elems d) : ∀ m ∈ y.weights P e, m ∈ d.weights P t := by
  intro m hm
  cases d with
  | slice l r =>
    simp only [DataW.weights, ht]
    exact List.mem_cons_of_mem _ (List.mem_append_left _ (weights_all_mem hy m hm))
  | _ => simp [elems] at hy
end
end Go.Proofs.Ytbbjbbcakfmpgaa
