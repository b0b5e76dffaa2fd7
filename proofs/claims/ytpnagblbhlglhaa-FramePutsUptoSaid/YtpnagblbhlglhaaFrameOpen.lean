/- Frames that came in, opened. Conditions: those that each states. -/
import Derived.Test.YtpnagblbhlglhaaOpenRows
import Derived.Test.YtpnagblbhlglhaaFrameIn
namespace Go.Proofs.Ytpnagblbhlglhaa
open Go.ChangeShapes Go.WideShapes Go.ChangeAt Go.RowKit Go.Deep

theorem bulk_all_elems {H : Type} (d : DataW H) : Rows.uptoBulkAll (elems d) ≤ Rows.uptoBulk d := by
  cases d with
  | slice l r => simp only [elems, Rows.uptoBulk]; omega
  | _ => simp [elems, Rows.uptoBulkAll]
theorem sum_bodies {H : Type} (fs : List FrS) : ∀ es : List (DataW H), fs.length = es.length → (∀ i (h1 : i < fs.length) (h2 : i < es.length), fs[i].body.length ≤ Rows.uptoBulk es[i]) → sizeL (fs.map FrS.abs) ≤ 9 * fs.length + Rows.uptoBulkAll es := by
  induction fs with
  | nil => intro es _ _; simp [sizeL]
  | cons x fs ih =>
    intro es hl h
    cases es with
    | nil => cases hl
    | cons e es =>
      have h0 := h 0 (by simp) (by simp)
      have h1 := ih es (by simpa using hl) (fun i h1 h2 => h (i + 1) (by simpa using h1) (by simpa using h2))
      rw [List.map_cons]
      show sizeL ((x.kind.toNat, x.body) :: fs.map FrS.abs) ≤ _
      rw [sizeL_cons, List.length_cons]
      simp only [Rows.uptoBulkAll]
      simp only [List.getElem_cons_zero] at h0
      omega
section
variable {H : Type} {enc : TypeId × Value → H} {P : Program} {w : World} {base : Nat} {sp : Nat → Bool} {held : Bool}
/-- A struct of an integer and bytes. -/
theorem open_frame {t t0 t1 e fuel : Nat} {fs : Array Field} {cs : List Value} {x : DataW H × List MemPlace} (ht : P.underlying t = some (.struct fs)) (h1 : oneCells P fs = true) (hct : P.cellsOf t = fs.size)
    (hft : fs.toList.map (·.type) = [t0, t1]) (u0 : P.underlying t0 = some (.int .i64)) (u1 : P.underlying t1 = some (.slice e)) (he : P.underlying e = some (.int .u8)) (hc : P.cellsOf e = 1)
    (h : DataW.trod enc P w base sp held fuel t cs = some x) : ∃ (K : Int) (A : Option Addr) (c : Nat) (bs : List Nat), cs = [.int .i64 K, .slice A bs.length c] ∧
      Reads w w.heap.size 1 A bs.length (byts bs) ∧ Small bs ∧ bs.length ≤ Rows.uptoBulk x.1 := by
  have hsz : fs.size = 2 := by have := congrArg List.length hft; simpa using this
  obtain ⟨hl, ys, hx, hyl, hf⟩ := open_fields ht h1 hct h
  rw [hsz] at hl hyl
  have ft : ∀ i (hi : i < 2), ∃ f, fs[i]? = some f ∧ f.type = [t0, t1][i]'hi := by
    intro i hi
    refine ⟨fs[i]'(by omega), Array.getElem?_eq_getElem _, ?_⟩
    simp only [← hft]
    simp
  obtain ⟨f0, g0, e0⟩ := ft 0 (by omega)
  obtain ⟨f1, g1, e1⟩ := ft 1 (by omega)
  obtain ⟨m0, y0, _, r0⟩ := hf 0 f0 (by omega) g0
  obtain ⟨m1, y1, q1, r1⟩ := hf 1 f1 (by omega) g1
  rw [show f0.type = t0 from e0] at r0
  rw [show f1.type = t1 from e1] at r1
  obtain ⟨K, hK, _⟩ := open_int_cell u0 r0
  obtain ⟨A, n, c, hA⟩ : ∃ a n c, cs[1]'(by omega) = .slice a n c := by
    obtain ⟨a, n, c, bs, h4, _⟩ := open_bytes_cell u1 he hc r1
    exact ⟨a, n, c, h4⟩
  rw [hA] at r1
  obtain ⟨bs, hr, hsm, _, _, hel, hbl⟩ := open_bytes u1 he hc r1
  have b1 := bulk_part (ys.map (·.1)) y1.1 (List.mem_map_of_mem (List.mem_of_getElem? q1))
  have hb : Rows.uptoBulk x.1 = Rows.uptoBulkAll (ys.map (·.1)) + 1 := by rw [hx]; simp only [Rows.uptoBulk]
  have b3 := bulk_elems y1.1
  have hbn : bs.length = n := by have := hr.1; rw [byts_length] at this; omega
  subst hbn
  refine ⟨K, A, c, bs, ?_, hr, hsm, by omega⟩
  apply List.ext_getElem (by simpa using hl)
  intro i h1 h2
  rcases (show i = 0 ∨ i = 1 by simp at h2; omega) with rfl | rfl
  · exact hK
  · exact hA
/-- A slice of frames. -/
theorem open_frames {n : Nat} {A : Option Addr} {R : Nat → List Value} {d : DataW H} (hr : RowsAt w w.heap.size A n 2 R) (hel : (elems d).length = n) (hbulk : Rows.uptoBulk d ≤ 1048576)
    (hrow : ∀ i, i < n → ∃ (y : DataW H) (K : Int) (Ab : Option Addr) (c : Nat) (bs : List Nat), (elems d)[i]? = some y ∧ R i = [.int .i64 K, .slice Ab bs.length c] ∧ Reads w w.heap.size 1 Ab bs.length (byts bs) ∧ Small bs ∧ bs.length ≤ Rows.uptoBulk y) :
    ∃ fs, InF w w.heap.size A n fs ∧ sizeL (fs.map FrS.abs) ≤ 1000000000 := by
  have hb := bulk_all_elems d
  have hl := bulk_length (elems d)
  haveI : Inhabited FrS := ⟨⟨0, none, 0, []⟩⟩
  obtain ⟨F, hF⟩ := choose_lt (α := FrS) (p := fun i x => ∃ y : DataW H, (elems d)[i]? = some y ∧ R i = [.int .i64 x.kind, .slice x.A x.body.length x.c] ∧ Reads w w.heap.size 1 x.A x.body.length (byts x.body) ∧ Small x.body ∧ x.body.length ≤ Rows.uptoBulk y) (n := n) (fun i hi => by
    obtain ⟨y, K, Ab, c, bs, h1, h2, h3, h4, h5⟩ := hrow i hi
    exact ⟨⟨K, Ab, c, bs⟩, y, h1, h2, h3, h4, h5⟩)
  refine ⟨(List.range n).map F, ⟨by simp, fun i hi => ?_⟩, ?_⟩
  · have hin : i < n := by simpa using hi
    obtain ⟨y, h1, h2, h3, h4, h5⟩ := hF i hin
    obtain ⟨ad, rfl, hab, _, hc⟩ := hr i hin
    rw [h2] at hc
    have e : ((List.range n).map F)[i] = F i := by simp
    simp only [e]
    have := bulk_part (elems d) y (List.mem_of_getElem? h1)
    exact ⟨ad, rfl, hab, hc 0 _ rfl, hc 1 _ rfl, h3, h4, by omega⟩
  · have hs := sum_bodies ((List.range n).map F) (elems d) (by simp [hel]) (fun i h1 h2 => by
      have hin : i < n := by simpa using h1
      obtain ⟨y, h1, _, _, _, h5⟩ := hF i hin
      rw [List.getElem?_eq_getElem h2] at h1
      injection h1 with h1
      simp only [List.getElem_map, List.getElem_range, h1]
      exact h5)
    simp at hs ⊢
    omega
end
end Go.Proofs.Ytpnagblbhlglhaa
