/- A Start and a Step that came in. Conditions: those that each states. -/
import Derived.Test.YtapgcglpkilofaaOpenRows
namespace Go.Proofs.Ytapgcglpkilofaa
open Go.ChangeShapes Go.WideShapes Go.ChangeAt Go.RowKit Go.Deep

theorem le_sum_mem {l : List Nat} {n : Nat} (h : n ∈ l) : n ≤ l.sum := by
  induction l with
  | nil => cases h
  | cons a r ih =>
    rw [List.sum_cons]
    rcases List.mem_cons.1 h with rfl | h
    · omega
    · have := ih h; omega
theorem bulk_inner {H : Type} (d : DataW H) (y : DataW H) (h : y ∈ elems d) : (elems y).length + 1 ≤ Rows.uptoBulk d := by
  have h1 := bulk_elems2 d
  have h2 : (elems y).length ≤ ((elems d).map fun e => (elems e).length).sum := le_sum_mem (List.mem_map_of_mem (f := fun e => (elems e).length) h)
  omega
theorem bulk_mem {H : Type} (d : DataW H) (y : DataW H) (h : y ∈ elems d) : Rows.uptoBulk y ≤ Rows.uptoBulk d := by
  cases d with
  | slice l r =>
    have := bulk_part l y h
    simp only [Rows.uptoBulk]
    omega
  | _ => simp [elems] at h

section
variable {H : Type} {enc : TypeId × Value → H} {P : Program} {w : World} {base : Nat} {sp : Nat → Bool} {held : Bool}
/-- A struct of an integer, bytes, and slices of bytes. -/
theorem open_start {t t0 t1 t2 e fuel : Nat} {fs : Array Field} {cs : Array Value} {x : DataW H × List MemPlace} (ht : P.underlying t = some (.struct fs)) (h1 : oneCells P fs = true) (hct : P.cellsOf t = fs.size)
    (hft : fs.toList.map (·.type) = [t0, t1, t2]) (u0 : P.underlying t0 = some (.int .i64)) (u1 : P.underlying t1 = some (.slice e)) (u2 : P.underlying t2 = some (.slice t1)) (hc1 : P.cellsOf t1 = 1) (he : P.underlying e = some (.int .u8)) (hc : P.cellsOf e = 1)
    (h : DataW.trod enc P w base sp held fuel t cs.toList = some x) : ∃ (z : Int) (A : Option Addr) (n c : Nat) (bs : List Nat) (A2 : Option Addr) (n2 c2 : Nat) (ls : List (List Nat)), cs = #[.int .i64 z, .slice A n c, .slice A2 n2 c2] ∧
      Reads w w.heap.size 1 A n (byts bs) ∧ Small bs ∧ n ≤ Rows.uptoBulk x.1 ∧ Reads2 w w.heap.size A2 n2 ls ∧ n2 ≤ Rows.uptoBulk x.1 ∧ (∀ l ∈ ls, l.length ≤ Rows.uptoBulk x.1 ∧ Small l) := by
  have hsz : fs.size = 3 := by have := congrArg List.length hft; simpa using this
  obtain ⟨hl, ys, hx, hyl, hf⟩ := open_fields ht h1 hct h
  rw [hsz] at hl hyl
  have ft : ∀ i (hi : i < 3), ∃ f, fs[i]? = some f ∧ f.type = [t0, t1, t2][i]'hi := by
    intro i hi
    refine ⟨fs[i]'(by omega), Array.getElem?_eq_getElem _, ?_⟩
    simp only [← hft]
    simp
  obtain ⟨f0, g0, e0⟩ := ft 0 (by omega)
  obtain ⟨f1, g1, e1⟩ := ft 1 (by omega)
  obtain ⟨f2, g2, e2⟩ := ft 2 (by omega)
  obtain ⟨m0, y0, _, r0⟩ := hf 0 f0 (by omega) g0
  obtain ⟨m1, y1, q1, r1⟩ := hf 1 f1 (by omega) g1
  obtain ⟨m2, y2, q2, r2⟩ := hf 2 f2 (by omega) g2
  rw [show f0.type = t0 from e0] at r0
  rw [show f1.type = t1 from e1] at r1
  rw [show f2.type = t2 from e2] at r2
  obtain ⟨z, hz, _⟩ := open_int_cell u0 r0
  obtain ⟨A, n, c, hA⟩ : ∃ a n c, cs.toList[1]'(by omega) = .slice a n c := by
    obtain ⟨a, n, c, bs, h4, _⟩ := open_bytes_cell u1 he hc r1
    exact ⟨a, n, c, h4⟩
  rw [hA] at r1
  obtain ⟨bs, hr, hsm, _, _, hel, hbl⟩ := open_bytes u1 he hc r1
  obtain ⟨A2, n2, c2, hA2⟩ : ∃ a n c, cs.toList[2]'(by omega) = .slice a n c := by
    rcases open_slice u2 r2 with ⟨hcs, _⟩ | ⟨ad, len, cap, _, _, _, _, hcs, _⟩
    · injection hcs with hcs _; exact ⟨_, _, _, hcs⟩
    · injection hcs with hcs _; exact ⟨_, _, _, hcs⟩
  rw [hA2] at r2
  obtain ⟨ls, hr2, _, _, hel2⟩ := open_bytes2 u2 u1 hc1 he hc r2
  have b1 := bulk_part (ys.map (·.1)) y1.1 (List.mem_map_of_mem (List.mem_of_getElem? q1))
  have b2 := bulk_part (ys.map (·.1)) y2.1 (List.mem_map_of_mem (List.mem_of_getElem? q2))
  have hb : Rows.uptoBulk x.1 = Rows.uptoBulkAll (ys.map (·.1)) + 1 := by rw [hx]; simp only [Rows.uptoBulk]
  have b3 := bulk_elems y1.1
  have b4 := bulk_elems y2.1
  have b5 := congrArg List.length hel2
  rw [List.length_map, List.length_map] at b5
  have b6 := hr2.len
  refine ⟨z, A, n, c, bs, A2, n2, c2, ls, ?_, hr, hsm, by omega, hr2, by omega, fun l hl' => ⟨?_, ?_⟩⟩
  · apply Array.ext'
    apply List.ext_getElem (by simpa using hl)
    intro i h1 h2
    rcases (show i = 0 ∨ i = 1 ∨ i = 2 by simp at h2; omega) with rfl | rfl | rfl
    · exact hz
    · exact hA
    · exact hA2
  · have h7 : l.length ∈ ls.map List.length := List.mem_map_of_mem hl'
    rw [hel2] at h7
    obtain ⟨y, hy, e⟩ := List.mem_map.1 h7
    have := bulk_inner y2.1 y hy
    omega
  · obtain ⟨k, hk, rfl⟩ := List.getElem_of_mem hl'
    obtain ⟨_, _, _, _, _, _, _, hs, _⟩ := hr2.at_ k hk
    exact hs
/-- A struct of two integers and bytes. -/
theorem open_step {t t0 t1 e fuel : Nat} {fs : Array Field} {cs : List Value} {x : DataW H × List MemPlace} (ht : P.underlying t = some (.struct fs)) (h1 : oneCells P fs = true) (hct : P.cellsOf t = fs.size)
    (hft : fs.toList.map (·.type) = [t0, t0, t1]) (u0 : P.underlying t0 = some (.int .i64)) (u1 : P.underlying t1 = some (.slice e)) (he : P.underlying e = some (.int .u8)) (hc : P.cellsOf e = 1)
    (h : DataW.trod enc P w base sp held fuel t cs = some x) : ∃ (K N : Int) (A : Option Addr) (n c : Nat) (bs : List Nat), cs = [.int .i64 K, .int .i64 N, .slice A n c] ∧
      Reads w w.heap.size 1 A n (byts bs) ∧ Small bs ∧ n ≤ Rows.uptoBulk x.1 ∧ -9223372036854775808 ≤ N ∧ N ≤ 9223372036854775807 := by
  have hsz : fs.size = 3 := by have := congrArg List.length hft; simpa using this
  obtain ⟨hl, ys, hx, hyl, hf⟩ := open_fields ht h1 hct h
  rw [hsz] at hl hyl
  have ft : ∀ i (hi : i < 3), ∃ f, fs[i]? = some f ∧ f.type = [t0, t0, t1][i]'hi := by
    intro i hi
    refine ⟨fs[i]'(by omega), Array.getElem?_eq_getElem _, ?_⟩
    simp only [← hft]
    simp
  obtain ⟨f0, g0, e0⟩ := ft 0 (by omega)
  obtain ⟨f1, g1, e1⟩ := ft 1 (by omega)
  obtain ⟨f2, g2, e2⟩ := ft 2 (by omega)
  obtain ⟨m0, y0, _, r0⟩ := hf 0 f0 (by omega) g0
  obtain ⟨m1, y1, q1, r1⟩ := hf 1 f1 (by omega) g1
  obtain ⟨m2, y2, q2, r2⟩ := hf 2 f2 (by omega) g2
  rw [show f0.type = t0 from e0] at r0
  rw [show f1.type = t0 from e1] at r1
  rw [show f2.type = t1 from e2] at r2
  obtain ⟨K, hK, _⟩ := open_int_cell u0 r0
  obtain ⟨N, hN, wN⟩ := open_int_cell u0 r1
  obtain ⟨A, n, c, hA⟩ : ∃ a n c, cs[2]'(by omega) = .slice a n c := by
    obtain ⟨a, n, c, bs, h4, _⟩ := open_bytes_cell u1 he hc r2
    exact ⟨a, n, c, h4⟩
  rw [hA] at r2
  obtain ⟨bs, hr, hsm, _, _, hel, hbl⟩ := open_bytes u1 he hc r2
  have b2 := bulk_part (ys.map (·.1)) y2.1 (List.mem_map_of_mem (List.mem_of_getElem? q2))
  have hb : Rows.uptoBulk x.1 = Rows.uptoBulkAll (ys.map (·.1)) + 1 := by rw [hx]; simp only [Rows.uptoBulk]
  have b3 := bulk_elems y2.1
  simp [Lit.wf, IntKind.min, IntKind.max, IntKind.signed, IntKind.bits] at wN
  refine ⟨K, N, A, n, c, bs, ?_, hr, hsm, by omega, by omega, by omega⟩
  apply List.ext_getElem (by simpa using hl)
  intro i h1 h2
  rcases (show i = 0 ∨ i = 1 ∨ i = 2 by simp at h2; omega) with rfl | rfl | rfl
  · exact hK
  · exact hN
  · exact hA
end
end Go.Proofs.Ytapgcglpkilofaa
