/- wicketlaw17.WindowSteps answers true, and leaves its arguments as they read. Conditions: the row's own. -/
import Derived.Test.YtmdohddiddlpiaaRows
import Derived.WalkKit
import Derived.ProofKit
import Derived.OpenShut
import Derived.ShutString
import Derived.ChangeOld
import Derived.Below
import Derived.JoinedCond
import Derived.Test.YtmdohddiddlpiaaOpen
import Derived.Test.YtmdohddiddlpiaaOpenRows
import Derived.Test.YtmdohddiddlpiaaWinStepsWalk
namespace Go.Proofs.Ytmdohddiddlpiaa.windowSteps
open Go.ChangeShapes Go.WideShapes Go.ChangeAt Go.RowKit
open Go.ChangeMaps (open_string shut_string)
set_option linter.unusedVariables false

theorem own : ownKnob Try.prog.godebug = none := by kernel_rfl
theorem laidOut : laidOutB Try.prog = true := by kernel_rfl

set_option maxRecDepth 100000 in
theorem contract (H : Type) (enc : TypeId × Value → H) (W : World) (base : Nat) (args : Array Value) (ds gs : List (DataW H)) (before : List MemPlace)
    (hval0 : ∀ (j : Nat) t v, Try.f4.params[j]? = some t → args[j]? = some v → Value.okWide Try.prog W .any base t v)
    (hW : DataW.Whole enc Try.prog Try.f4.params.toList Rows.windowStepsSpec.vars false W args.toList ds gs before) :
    Calls Try.prog 4 args W fun e W' => ∃ v, e = .returned v ∧ Rows.windowStepsSpec.post enc Try.prog Try.f4 false true false false W args v W' := by
  have hval : ∀ (j : Nat) t v, Try.f4.params[j]? = some t → args[j]? = some v → Value.okWide Try.prog W .any base t v := hval0
  have hW' := hW
  obtain ⟨p, q, hA0, hV, rfl, hfz, hnd⟩ := hW
  have hA : DataW.TrodAll enc Try.prog W 0 (fun _ => true) true Try.f4.params.toList args.toList ds p := hA0
  rw [Try.params4] at hA hval
  obtain ⟨v0, vs0, d0, ds0, p0, q0, hargs, rfl, rfl, h0, r0⟩ := trodAll_cons hA
  obtain ⟨v1, vs1, d1, ds1, p1, q1, rfl, rfl, rfl, h1, r1⟩ := trodAll_cons r0
  obtain ⟨rfl, rfl, rfl⟩ := trodAll_nil r1
  obtain rfl : args = #[v0, v1] := by cases args; simp_all
  obtain ⟨rfl, rfl⟩ := trodVars_none hV
  have k0 := h0
  have lt0 : ∀ x ∈ p0, x.block < W.heap.size := by obtain ⟨m, hm⟩ := k0; exact DataW.trod_lt m _ _ _ hm
  obtain ⟨x0, rfl, rfl, rfl, wf0⟩ := open_int Try.underlying3 (hval 0 3 v0 rfl rfl) h0
  have rg0 := wf0
  simp [Lit.wf, IntKind.min, IntKind.max, IntKind.signed, IntKind.bits] at rg0
  obtain ⟨a1, n1, c1, rfl⟩ := okWide_slice Try.underlying37 (hval 1 37 v1 rfl rfl)
  have k1 := h1
  have lt1 : ∀ x ∈ p1, x.block < W.heap.size := by obtain ⟨m, hm⟩ := k1; exact DataW.trod_lt m _ _ _ hm
  obtain ⟨R1, hr1, hle1, hmax1, hel1, hrow1⟩ := (by obtain ⟨m, hm⟩ := h1; exact open_rows Try.underlying37 (by kernel_rfl) (by decide) hm : ∃ R : Nat → List Value, RowsAt W W.heap.size a1 n1 3 R ∧ n1 ≤ c1 ∧ c1 ≤ maxLen ∧ (elems d1).length = n1 ∧ ∀ i, i < n1 → ∃ m y, DataW.trod enc Try.prog W 0 (fun _ => true) true m 47 (R i) = some y ∧ (elems d1)[i]? = some y.1)
  have hmx1 := hmax1
  unfold maxLen at hmx1
  have be1 := bulk_elems d1
  clear hA0
  have hR1 : ∀ i, i < n1 → ∃ (K N : Int) (T : ByteArray), R1 i = [.int .i64 K, .int .i64 N, .string T] := by
    intro i hi
    obtain ⟨m, y, hm, _⟩ := hrow1 i hi
    obtain ⟨hl, ys, _, _, hf⟩ := open_fields Try.underlying47 (by kernel_rfl) (by kernel_rfl) hm
    have hl2 : (R1 i).length = 3 := hl
    obtain ⟨_, _, _, h0⟩ := hf 0 _ (by omega) rfl
    obtain ⟨_, _, _, h1⟩ := hf 1 _ (by omega) rfl
    obtain ⟨_, _, _, h2⟩ := hf 2 _ (by omega) rfl
    obtain ⟨K, e0, _⟩ := open_int_cell (k := .i64) (by kernel_rfl) h0
    obtain ⟨N, e1, _⟩ := open_int_cell (k := .i64) (by kernel_rfl) h1
    obtain ⟨T, e2, _, _⟩ := DataW.trod_string (by kernel_rfl) h2
    simp only [List.cons.injEq, and_true] at e2
    refine ⟨K, N, T, ?_⟩
    apply List.ext_getElem (by simpa using hl2)
    intro j h1 h2
    rcases (show j = 0 ∨ j = 1 ∨ j = 2 by simp at h2; omega) with rfl | rfl | rfl
    · exact e0
    · exact e1
    · exact e2
  refine (windowSteps_walk W x0 a1 n1 c1 R1 hr1 hR1 (by omega)).mono fun e W' ⟨he, bel⟩ => ?_
  subst he
  exact ⟨_, rfl, _, _, _, [], _, [], hW', trodAll_mk1 (shut_bool Try.underlying4 _), (trodAll_cons_mk (Below.trod laidOut (by kernel_rfl) (of_decide_eq_true (by kernel_rfl)) k0 bel lt0) (trodAll_cons_mk (Below.trod laidOut (by kernel_rfl) (of_decide_eq_true (by kernel_rfl)) k1 bel lt1) trodAll_mk0)), rfl, bel.frame _, fun h => by cases h⟩

set_option maxRecDepth 100000 in
theorem lifted (os : Os) (started : os.Started) (H : Type) (enc : TypeId × Value → H) :
    ReturnsInHanded {} Try.checked os 4 .any (Rows.windowStepsSpec.pre6 enc Try.prog Try.f4 Rows.windowStepsRow.domain false) (Rows.windowStepsSpec.post enc Try.prog Try.f4 false true false false) := by
  refine returnsInHanded_of_change (C := Try.checked) own started (by kernel_rfl) Try.func4
    (ChangeSpec.witness6 (enc := enc) (C := Try.checked) false ⟨#[], #[.int .i64 0, .slice none 0 0], []⟩ 8 (by kernel_rfl) (by kernel_rfl) (by kernel_rfl) (by kernel_rfl)) ?_
  intro W base args ds gs before hval hW _ _
  exact contract H enc W base args ds gs before hval hW

/-- ████ THE STATEMENT ████ -/
theorem proved : Rows.WindowStepsSaid :=
  OpenClaim.holds_of_wide 4 Try.f4 rfl rfl rfl rfl rfl rfl rfl ⟨rfl, rfl, rfl, rfl, rfl⟩ rfl rfl rfl rfl rfl (by kernel_rfl) Try.func4 (by kernel_rfl)
    (of_decide_eq_true (by kernel_rfl)) (by unfold Func.isWrapper; first | (rw [if_pos (by decide +kernel)]; kernel_rfl) | (rw [if_neg (by decide +kernel)]; exact ⟨rfl, rfl⟩))
    (fun os started H enc _ => lifted os started H enc)
end Go.Proofs.Ytmdohddiddlpiaa.windowSteps
