/- wicketlaw01.WireReads answers true where what comes in is of bulk at most 1048576, and leaves its arguments as they read. Conditions: the row's own. -/
import Derived.Test.YtpnagblbhlglhaaRows
import Derived.WalkKit
import Derived.ProofKit
import Derived.OpenShut
import Derived.ShutString
import Derived.ChangeOld
import Derived.Below
import Derived.JoinedCond
import Derived.Test.YtpnagblbhlglhaaOpen
import Derived.Test.YtpnagblbhlglhaaOpenRows
import Derived.Test.YtpnagblbhlglhaaWireReadsWalk
namespace Go.Proofs.Ytpnagblbhlglhaa.wireReads
open Go.ChangeShapes Go.WideShapes Go.ChangeAt Go.RowKit
open Go.ChangeMaps (open_string shut_string)
set_option linter.unusedVariables false

theorem own : ownKnob Try.prog.godebug = none := by kernel_rfl
theorem laidOut : laidOutB Try.prog = true := by kernel_rfl

set_option maxRecDepth 100000 in
theorem contract (H : Type) (enc : TypeId × Value → H) (W : World) (base : Nat) (args : Array Value) (ds gs : List (DataW H)) (before : List MemPlace)
    (hval0 : ∀ (j : Nat) t v, Try.f8.params[j]? = some t → args[j]? = some v → Value.okWide Try.prog W .any base t v)
    (hW : DataW.Whole enc Try.prog Try.f8.params.toList Rows.wireReadsSpec.vars false W args.toList ds gs before) (hk : Rows.uptoSmall H (ds ++ gs) = true) :
    Calls Try.prog 8 args W fun e W' => ∃ v, e = .returned v ∧ Rows.wireReadsSpec.post enc Try.prog Try.f8 false true false false W args v W' := by
  have hval : ∀ (j : Nat) t v, Try.f8.params[j]? = some t → args[j]? = some v → Value.okWide Try.prog W .any base t v := hval0
  have hW' := hW
  obtain ⟨p, q, hA0, hV, rfl, hfz, hnd⟩ := hW
  have hA : DataW.TrodAll enc Try.prog W 0 (fun _ => true) true Try.f8.params.toList args.toList ds p := hA0
  rw [Try.params8] at hA hval
  obtain ⟨v0, vs0, d0, ds0, p0, q0, hargs, rfl, rfl, h0, r0⟩ := trodAll_cons hA
  obtain ⟨v1, vs1, d1, ds1, p1, q1, rfl, rfl, rfl, h1, r1⟩ := trodAll_cons r0
  obtain ⟨rfl, rfl, rfl⟩ := trodAll_nil r1
  obtain rfl : args = #[v0, v1] := by cases args; simp_all
  obtain ⟨rfl, rfl⟩ := trodVars_none hV
  simp only [List.append_nil] at hW' hk
  have hbulk : Rows.uptoBulkAll [d0, d1] ≤ 1048576 := of_decide_eq_true hk
  simp only [Rows.uptoBulkAll] at hbulk
  have bulk0 := bulk_one d0
  have bulk1 := bulk_one d1
  obtain ⟨a0, n0, c0, rfl⟩ := okWide_slice Try.underlying24 (hval 0 24 v0 rfl rfl)
  have k0 := h0
  have lt0 : ∀ x ∈ p0, x.block < W.heap.size := by obtain ⟨m, hm⟩ := k0; exact DataW.trod_lt m _ _ _ hm
  obtain ⟨bs0, hr0, hs0, hle0, hmax0, hel0, hbl0⟩ := (by obtain ⟨m, hm⟩ := h0; exact open_bytes Try.underlying24 Try.underlying5 (by kernel_rfl) hm : ∃ bs : List Nat, Reads W W.heap.size 1 a0 n0 (byts bs) ∧ Small bs ∧ n0 ≤ c0 ∧ c0 ≤ maxLen ∧ (elems d0).length = n0 ∧ bs.length = n0)
  have hmx0 := hmax0
  unfold maxLen at hmx0
  have be0 := bulk_elems d0
  obtain ⟨a1, n1, c1, rfl⟩ := okWide_slice Try.underlying68 (hval 1 68 v1 rfl rfl)
  have k1 := h1
  have lt1 : ∀ x ∈ p1, x.block < W.heap.size := by obtain ⟨m, hm⟩ := k1; exact DataW.trod_lt m _ _ _ hm
  obtain ⟨R1, hr1, hle1, hmax1, hel1, hrow1⟩ := (by obtain ⟨m, hm⟩ := h1; exact open_rows Try.underlying68 (by kernel_rfl) (by decide) hm : ∃ R : Nat → List Value, RowsAt W W.heap.size a1 n1 2 R ∧ n1 ≤ c1 ∧ c1 ≤ maxLen ∧ (elems d1).length = n1 ∧ ∀ i, i < n1 → ∃ m y, DataW.trod enc Try.prog W 0 (fun _ => true) true m 74 (R i) = some y ∧ (elems d1)[i]? = some y.1)
  have hmx1 := hmax1
  unfold maxLen at hmx1
  have be1 := bulk_elems d1
  clear hA0
  have hR1 : ∀ i, i < n1 → ∃ K M : Int, R1 i = [.int .i64 K, .int .i64 M] ∧ M ≤ 9223372036854775807 := by
    intro i hi
    obtain ⟨m, y, hm, _⟩ := hrow1 i hi
    obtain ⟨hl, hz⟩ := open_ints_row Try.underlying74 (by kernel_rfl) (by kernel_rfl) (by kernel_rfl) hm
    have hl2 : (R1 i).length = 2 := hl
    obtain ⟨K, e0, _⟩ := hz 0 (by omega)
    obtain ⟨M, e1, w1⟩ := hz 1 (by omega)
    simp [Lit.wf, IntKind.min, IntKind.max, IntKind.signed, IntKind.bits] at w1
    refine ⟨K, M, ?_, by omega⟩
    apply List.ext_getElem (by simpa using hl2)
    intro j h1 h2
    rcases (show j = 0 ∨ j = 1 by simp at h2; omega) with rfl | rfl
    · exact e0
    · exact e1
  refine (wireReads_walk W a0 n0 c0 bs0 hr0 hs0 hle0 (by omega) a1 n1 c1 R1 hr1 hR1 (by omega)).mono fun e W' ⟨he, bel⟩ => ?_
  subst he
  exact ⟨_, rfl, _, _, _, [], _, [], hW', trodAll_mk1 (shut_bool Try.underlying4 _), (trodAll_cons_mk (Below.trod laidOut (by kernel_rfl) (of_decide_eq_true (by kernel_rfl)) k0 bel lt0) (trodAll_cons_mk (Below.trod laidOut (by kernel_rfl) (of_decide_eq_true (by kernel_rfl)) k1 bel lt1) trodAll_mk0)), rfl, bel.frame _, fun h => by cases h⟩

set_option maxRecDepth 100000 in
theorem lifted (os : Os) (started : os.Started) (H : Type) (enc : TypeId × Value → H) (F : Stop.Interp) :
    ReturnsInHanded {} Try.checked os 8 .any ((Rows.OpenSpec.upto Rows.wireReadsSpec).pre6 enc Try.prog Try.f8 Rows.wireReadsUptoRow.domain false) (((Rows.OpenSpec.upto Rows.wireReadsSpec).at F).post enc Try.prog Try.f8 false true false false) := by
  refine returnsInHanded_of_cond (C := Try.checked) (s := Rows.OpenSpec.upto Rows.wireReadsSpec) (k := Rows.uptoSmall) rfl own started (by kernel_rfl) Try.func8
    (OpenSpec.witness (enc := enc) (C := Try.checked) (s := Rows.OpenSpec.upto Rows.wireReadsSpec) (k := Rows.uptoSmall) rfl false ⟨#[], #[.slice none 0 0, .slice none 0 0], []⟩ 8 (by kernel_rfl) (by kernel_rfl) (by kernel_rfl)
      (x := ([.nil, .nil], [], [])) (by kernel_rfl) rfl (by kernel_rfl)) ?_
  intro W base args ds gs before hval hW _ hk _
  exact contract H enc W base args ds gs before hval hW hk

/-- ████ THE STATEMENT ████ -/
theorem proved : Rows.WireReadsUptoSaid :=
  OpenClaim.holds_of_cond 8 Try.f8 rfl rfl rfl rfl rfl rfl rfl ⟨rfl, rfl, rfl, rfl, rfl⟩ rfl rfl rfl rfl rfl (by kernel_rfl) Try.func8 (by kernel_rfl)
    (of_decide_eq_true (by kernel_rfl)) (by unfold Func.isWrapper; first | (rw [if_pos (by decide +kernel)]; kernel_rfl) | (rw [if_neg (by decide +kernel)]; exact ⟨rfl, rfl⟩))
    (fun os started H enc _ F => lifted os started H enc F)
end Go.Proofs.Ytpnagblbhlglhaa.wireReads
