/- wicketlaw16.NetPlays answers true whatever comes in, and leaves its arguments as they read. Conditions: the row's own. -/
import Derived.Test.YtbbjbbcakfmpgaaRows
import Derived.WalkKit
import Derived.ProofKit
import Derived.OpenShut
import Derived.ShutString
import Derived.ChangeOld
import Derived.Below
import Derived.JoinedCond
import Derived.Test.YtbbjbbcakfmpgaaOpen
import Derived.Test.YtbbjbbcakfmpgaaNetOpen
import Derived.Test.YtbbjbbcakfmpgaaNetPlaysWalk
namespace Go.Proofs.Ytbbjbbcakfmpgaa.netPlays
open Go.ChangeShapes Go.WideShapes Go.ChangeAt Go.RowKit
open Go.ChangeMaps (open_string shut_string)
set_option linter.unusedVariables false

theorem own : ownKnob Try.prog.godebug = none := by kernel_rfl
theorem laidOut : laidOutB Try.prog = true := by kernel_rfl

set_option maxRecDepth 100000 in
theorem contract (H : Type) (enc : TypeId × Value → H) (W : World) (base : Nat) (args : Array Value) (ds gs : List (DataW H)) (before : List MemPlace)
    (hval0 : ∀ (j : Nat) t v, Try.f4.params[j]? = some t → args[j]? = some v → Value.okWide Try.prog W .any base t v)
    (hW : DataW.Whole enc Try.prog Try.f4.params.toList Rows.netPlaysSpec.vars false W args.toList ds gs before) (hz : (DataW.weightsEach Try.prog (Try.f4.params.toList ++ Rows.netPlaysSpec.plain.varTypes Try.prog) (ds ++ gs)).all (· ≤ reachBytes) = true) :
    Calls Try.prog 4 args W fun e W' => ∃ v, e = .returned v ∧ Rows.netPlaysSpec.post enc Try.prog Try.f4 false true false false W args v W' := by
  have hval : ∀ (j : Nat) t v, Try.f4.params[j]? = some t → args[j]? = some v → Value.okWide Try.prog W .any base t v := hval0
  have hW' := hW
  obtain ⟨p, q, hA0, hV, rfl, hfz, hnd⟩ := hW
  have hA : DataW.TrodAll enc Try.prog W 0 (fun _ => true) true Try.f4.params.toList args.toList ds p := hA0
  rw [Try.params4] at hA hval
  obtain ⟨v0, vs0, d0, ds0, p0, q0, hargs, rfl, rfl, h0, r0⟩ := trodAll_cons hA
  obtain ⟨rfl, rfl, rfl⟩ := trodAll_nil r0
  obtain rfl : args = #[v0] := by cases args; simp_all
  obtain ⟨rfl, rfl⟩ := trodVars_none hV
  simp only [List.append_nil] at hW' hz
  obtain ⟨a0, n0, c0, rfl⟩ := okWide_slice Try.underlying35 (hval 0 35 v0 rfl rfl)
  have k0 := h0
  have lt0 : ∀ x ∈ p0, x.block < W.heap.size := by obtain ⟨m, hm⟩ := k0; exact DataW.trod_lt m _ _ _ hm
  obtain ⟨R0, hr0, hle0, hmax0, hel0, hrow0⟩ := (by obtain ⟨m, hm⟩ := h0; exact open_rows Try.underlying35 (by kernel_rfl) (by decide) hm : ∃ R : Nat → List Value, RowsAt W W.heap.size a0 n0 3 R ∧ n0 ≤ c0 ∧ c0 ≤ maxLen ∧ (elems d0).length = n0 ∧ ∀ i, i < n0 → ∃ m y, DataW.trod enc Try.prog W 0 (fun _ => true) true m 40 (R i) = some y ∧ (elems d0)[i]? = some y.1)
  have hmx0 := hmax0
  unfold maxLen at hmx0
  have be0 := bulk_elems d0
  clear hA0
  have hR0 : ∀ i, i < n0 → ∃ (K N : Int) (T : Option Addr) (tn tc : Nat) (ts : List ByteArray), R0 i = [.int .i64 K, .int .i64 N, .slice T tn tc] ∧ Reads W W.heap.size 1 T tn (strs ts) ∧ tn ≤ 8796093021952 := by
    intro i hi
    obtain ⟨m, y, hm, hy⟩ := hrow0 i hi
    obtain ⟨K, N, T, tn, tc, ts, e1, e2, e3⟩ := open_stepS Try.underlying40 (by kernel_rfl) (by kernel_rfl) (by kernel_rfl) Try.underlying3 Try.underlying38 Try.underlying9 (by kernel_rfl) hm
    have e4 := e3 _ (fun q hq => weight_arg hz (j := 0) rfl rfl q (weight_elem Try.underlying35 (List.mem_of_getElem? hy) q hq))
    rw [show Try.prog.bytesOf 9 = 16 from by kernel_rfl] at e4
    have hrb : reachBytes = 140737488351232 := rfl
    exact ⟨K, N, T, tn, tc, ts, e1, e2, by omega⟩
  refine (netPlays_walk W a0 n0 c0 R0 hr0 hR0).mono fun e W' ⟨he, bel⟩ => ?_
  subst he
  exact ⟨_, rfl, _, _, _, [], _, [], hW', trodAll_mk1 (shut_bool Try.underlying4 _), (trodAll_cons_mk (Below.trod laidOut (by kernel_rfl) (of_decide_eq_true (by kernel_rfl)) k0 bel lt0) trodAll_mk0), rfl, bel.frame _, fun h => by cases h⟩

set_option maxRecDepth 100000 in
theorem lifted (os : Os) (started : os.Started) (H : Type) (enc : TypeId × Value → H) :
    ReturnsInHanded {} Try.checked os 4 .any (Rows.netPlaysSpec.pre6 enc Try.prog Try.f4 Rows.netPlaysRow.domain false) (Rows.netPlaysSpec.post enc Try.prog Try.f4 false true false false) := by
  refine returnsInHanded_of_change_sized (C := Try.checked) own started (by kernel_rfl) Try.func4
    (ChangeSpec.witness6 (enc := enc) (C := Try.checked) false ⟨#[], #[.slice none 0 0], []⟩ 8 (by kernel_rfl) (by kernel_rfl) (by kernel_rfl) (by kernel_rfl)) ?_
  intro W base args ds gs before hval hW _ hz _
  exact contract H enc W base args ds gs before hval hW hz

/-- ████ THE STATEMENT ████ -/
theorem proved : Rows.NetPlaysSaid :=
  OpenClaim.holds_of_wide 4 Try.f4 rfl rfl rfl rfl rfl rfl rfl ⟨rfl, rfl, rfl, rfl, rfl⟩ rfl rfl rfl rfl rfl (by kernel_rfl) Try.func4 (by kernel_rfl)
    (of_decide_eq_true (by kernel_rfl)) (by unfold Func.isWrapper; first | (rw [if_pos (by decide +kernel)]; kernel_rfl) | (rw [if_neg (by decide +kernel)]; exact ⟨rfl, rfl⟩))
    (fun os started H enc _ => lifted os started H enc)
end Go.Proofs.Ytbbjbbcakfmpgaa.netPlays
