/- wicketlaw05.NamesRanges answers true, and leaves its argument as it reads. Conditions: none beyond the row's own. -/
import Derived.Test.YtnghfnpmbjnjeaaRows
import Derived.WalkKit
import Derived.ProofKit
import Derived.OpenShut
import Derived.ShutString
import Derived.ChangeOld
import Derived.Below
import Derived.JoinedCond
import Derived.Test.YtnghfnpmbjnjeaaOpen
import Derived.Test.YtnghfnpmbjnjeaaNamesRangesWalk
namespace Go.Proofs.Ytnghfnpmbjnjeaa.namesRanges
open Go.ChangeShapes Go.WideShapes Go.ChangeAt Go.RowKit
open Go.ChangeMaps (open_string shut_string)
set_option linter.unusedVariables false

theorem own : ownKnob Try.prog.godebug = none := by kernel_rfl
theorem laidOut : laidOutB Try.prog = true := by kernel_rfl

set_option maxRecDepth 100000 in
theorem contract (H : Type) (enc : TypeId × Value → H) (W : World) (base : Nat) (args : Array Value) (ds gs : List (DataW H)) (before : List MemPlace)
    (hval0 : ∀ (j : Nat) t v, Try.f3.params[j]? = some t → args[j]? = some v → Value.okWide Try.prog W .any base t v)
    (hW : DataW.Whole enc Try.prog Try.f3.params.toList Rows.namesRangesSpec.vars false W args.toList ds gs before) (hz : (DataW.weightsEach Try.prog (Try.f3.params.toList ++ Rows.namesRangesSpec.plain.varTypes Try.prog) (ds ++ gs)).all (· ≤ reachBytes) = true) :
    Calls Try.prog 3 args W fun e W' => ∃ v, e = .returned v ∧ Rows.namesRangesSpec.post enc Try.prog Try.f3 false true false false W args v W' := by
  have hval : ∀ (j : Nat) t v, Try.f3.params[j]? = some t → args[j]? = some v → Value.okWide Try.prog W .any base t v := hval0
  have hW' := hW
  obtain ⟨p, q, hA0, hV, rfl, hfz, hnd⟩ := hW
  have hA : DataW.TrodAll enc Try.prog W 0 (fun _ => true) true Try.f3.params.toList args.toList ds p := hA0
  rw [Try.params3] at hA hval
  obtain ⟨v0, vs0, d0, ds0, p0, q0, hargs, rfl, rfl, h0, r0⟩ := trodAll_cons hA
  obtain ⟨rfl, rfl, rfl⟩ := trodAll_nil r0
  obtain rfl : args = #[v0] := by cases args; simp_all
  obtain ⟨rfl, rfl⟩ := trodVars_none hV
  simp only [List.append_nil] at hW' hz
  obtain ⟨cs0, rfl, hcs0⟩ := okWide_arr Try.underlying23 (hval 0 23 v0 rfl rfl)
  have k0 := h0
  have lt0 : ∀ x ∈ p0, x.block < W.heap.size := by obtain ⟨m, hm⟩ := k0; exact DataW.trod_lt m _ _ _ hm
  obtain ⟨hla0, hea0⟩ := (by obtain ⟨m, hm⟩ := h0; exact open_arr_w Try.underlying23 (by kernel_rfl) (by kernel_rfl) hm : cs0.toList.length = 5 ∧ ∀ i (hi : i < cs0.toList.length), ∃ m y, DataW.trod enc Try.prog W 0 (fun _ => true) true m 22 [cs0.toList[i]] = some y ∧ ∀ q ∈ y.1.weights Try.prog 22, q ∈ d0.weights Try.prog 23)
  obtain ⟨a0_0, n0_0, c0_0, bs0_0, eq0_0, hr0_0, hs0_0, hle0_0, hmax0_0, hbl0_0, sz0_0⟩ := (by obtain ⟨m, y, hm, hw⟩ := hea0 0 (by omega); obtain ⟨a, n, c, bs, x1, x2, x3, x4, x5, x6, x7⟩ := open_bytes_cell_w Try.underlying22 Try.underlying5 (by kernel_rfl) (by kernel_rfl) hm; exact ⟨a, n, c, bs, x1, x2, x3, x4, x5, x6, x7 _ (fun q hq => weight_arg hz (j := 0) rfl rfl q (hw q hq))⟩ : ∃ a n c bs, cs0.toList[0]'(by omega) = .slice a n c ∧ Reads W W.heap.size 1 a n (byts bs) ∧ Small bs ∧ n ≤ c ∧ c ≤ maxLen ∧ bs.length = n ∧ n ≤ 140737488351232)
  have hmx0_0 := hmax0_0
  unfold maxLen at hmx0_0
  obtain ⟨a0_1, n0_1, c0_1, bs0_1, eq0_1, hr0_1, hs0_1, hle0_1, hmax0_1, hbl0_1, sz0_1⟩ := (by obtain ⟨m, y, hm, hw⟩ := hea0 1 (by omega); obtain ⟨a, n, c, bs, x1, x2, x3, x4, x5, x6, x7⟩ := open_bytes_cell_w Try.underlying22 Try.underlying5 (by kernel_rfl) (by kernel_rfl) hm; exact ⟨a, n, c, bs, x1, x2, x3, x4, x5, x6, x7 _ (fun q hq => weight_arg hz (j := 0) rfl rfl q (hw q hq))⟩ : ∃ a n c bs, cs0.toList[1]'(by omega) = .slice a n c ∧ Reads W W.heap.size 1 a n (byts bs) ∧ Small bs ∧ n ≤ c ∧ c ≤ maxLen ∧ bs.length = n ∧ n ≤ 140737488351232)
  have hmx0_1 := hmax0_1
  unfold maxLen at hmx0_1
  obtain ⟨a0_2, n0_2, c0_2, bs0_2, eq0_2, hr0_2, hs0_2, hle0_2, hmax0_2, hbl0_2, sz0_2⟩ := (by obtain ⟨m, y, hm, hw⟩ := hea0 2 (by omega); obtain ⟨a, n, c, bs, x1, x2, x3, x4, x5, x6, x7⟩ := open_bytes_cell_w Try.underlying22 Try.underlying5 (by kernel_rfl) (by kernel_rfl) hm; exact ⟨a, n, c, bs, x1, x2, x3, x4, x5, x6, x7 _ (fun q hq => weight_arg hz (j := 0) rfl rfl q (hw q hq))⟩ : ∃ a n c bs, cs0.toList[2]'(by omega) = .slice a n c ∧ Reads W W.heap.size 1 a n (byts bs) ∧ Small bs ∧ n ≤ c ∧ c ≤ maxLen ∧ bs.length = n ∧ n ≤ 140737488351232)
  have hmx0_2 := hmax0_2
  unfold maxLen at hmx0_2
  obtain ⟨a0_3, n0_3, c0_3, bs0_3, eq0_3, hr0_3, hs0_3, hle0_3, hmax0_3, hbl0_3, sz0_3⟩ := (by obtain ⟨m, y, hm, hw⟩ := hea0 3 (by omega); obtain ⟨a, n, c, bs, x1, x2, x3, x4, x5, x6, x7⟩ := open_bytes_cell_w Try.underlying22 Try.underlying5 (by kernel_rfl) (by kernel_rfl) hm; exact ⟨a, n, c, bs, x1, x2, x3, x4, x5, x6, x7 _ (fun q hq => weight_arg hz (j := 0) rfl rfl q (hw q hq))⟩ : ∃ a n c bs, cs0.toList[3]'(by omega) = .slice a n c ∧ Reads W W.heap.size 1 a n (byts bs) ∧ Small bs ∧ n ≤ c ∧ c ≤ maxLen ∧ bs.length = n ∧ n ≤ 140737488351232)
  have hmx0_3 := hmax0_3
  unfold maxLen at hmx0_3
  obtain ⟨a0_4, n0_4, c0_4, bs0_4, eq0_4, hr0_4, hs0_4, hle0_4, hmax0_4, hbl0_4, sz0_4⟩ := (by obtain ⟨m, y, hm, hw⟩ := hea0 4 (by omega); obtain ⟨a, n, c, bs, x1, x2, x3, x4, x5, x6, x7⟩ := open_bytes_cell_w Try.underlying22 Try.underlying5 (by kernel_rfl) (by kernel_rfl) hm; exact ⟨a, n, c, bs, x1, x2, x3, x4, x5, x6, x7 _ (fun q hq => weight_arg hz (j := 0) rfl rfl q (hw q hq))⟩ : ∃ a n c bs, cs0.toList[4]'(by omega) = .slice a n c ∧ Reads W W.heap.size 1 a n (byts bs) ∧ Small bs ∧ n ≤ c ∧ c ≤ maxLen ∧ bs.length = n ∧ n ≤ 140737488351232)
  have hmx0_4 := hmax0_4
  unfold maxLen at hmx0_4
  obtain rfl : cs0 = #[.slice a0_0 n0_0 c0_0, .slice a0_1 n0_1 c0_1, .slice a0_2 n0_2 c0_2, .slice a0_3 n0_3 c0_3, .slice a0_4 n0_4 c0_4] := by
    apply Array.ext'
    apply List.ext_getElem (by simpa using hla0)
    intro i h1 h2
    rcases (show i = 0 ∨ i = 1 ∨ i = 2 ∨ i = 3 ∨ i = 4 by simp at h2; omega) with rfl | rfl | rfl | rfl | rfl
    · exact eq0_0
    · exact eq0_1
    · exact eq0_2
    · exact eq0_3
    · exact eq0_4
  clear hA0
  refine (namesRanges_walk W a0_0 a0_1 a0_2 a0_3 a0_4 n0_0 c0_0 n0_1 c0_1 n0_2 c0_2 n0_3 c0_3 n0_4 c0_4 bs0_0 bs0_1 bs0_2 bs0_3 bs0_4 hr0_0 hs0_0 hr0_1 hs0_1 hr0_2 hs0_2 hr0_3 hs0_3 hr0_4 hs0_4 hle0_1 sz0_0 sz0_1 sz0_2 sz0_3 sz0_4).mono fun e W' ⟨he, bel⟩ => ?_
  subst he
  exact ⟨_, rfl, _, _, _, [], _, [], hW', trodAll_mk1 (shut_bool Try.underlying4 _), (trodAll_cons_mk (Below.trod laidOut (by kernel_rfl) (of_decide_eq_true (by kernel_rfl)) k0 bel lt0) trodAll_mk0), rfl, bel.frame _, fun h => by cases h⟩

set_option maxRecDepth 100000 in
theorem lifted (os : Os) (started : os.Started) (H : Type) (enc : TypeId × Value → H) :
    ReturnsInHanded {} Try.checked os 3 .any (Rows.namesRangesSpec.pre6 enc Try.prog Try.f3 Rows.namesRangesRow.domain false) (Rows.namesRangesSpec.post enc Try.prog Try.f3 false true false false) := by
  refine returnsInHanded_of_change_sized (C := Try.checked) own started (by kernel_rfl) Try.func3
    (ChangeSpec.witness6 (enc := enc) (C := Try.checked) false ⟨#[], #[.agg #[.slice none 0 0, .slice none 0 0, .slice none 0 0, .slice none 0 0, .slice none 0 0]], []⟩ 8 (by kernel_rfl) (by kernel_rfl) (by kernel_rfl) (by kernel_rfl)) ?_
  intro W base args ds gs before hval hW _ hz _
  exact contract H enc W base args ds gs before hval hW hz

/-- ████ THE STATEMENT ████ -/
theorem proved : Rows.NamesRangesSaid :=
  OpenClaim.holds_of_wide 3 Try.f3 rfl rfl rfl rfl rfl rfl rfl ⟨rfl, rfl, rfl, rfl, rfl⟩ rfl rfl rfl rfl rfl (by kernel_rfl) Try.func3 (by kernel_rfl)
    (of_decide_eq_true (by kernel_rfl)) (by unfold Func.isWrapper; first | (rw [if_pos (by decide +kernel)]; kernel_rfl) | (rw [if_neg (by decide +kernel)]; exact ⟨rfl, rfl⟩))
    (fun os started H enc _ => lifted os started H enc)
end Go.Proofs.Ytnghfnpmbjnjeaa.namesRanges
