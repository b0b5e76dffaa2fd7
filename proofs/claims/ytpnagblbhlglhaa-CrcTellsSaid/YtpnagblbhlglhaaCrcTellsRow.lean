/- wicketlaw02.CrcTells answers true, and leaves its arguments as they read. Conditions: none beyond the row's own. -/
import Derived.Test.YtpnagblbhlglhaaRows
import Derived.WalkKit
import Derived.ProofKit
import Derived.OpenShut
import Derived.ShutString
import Derived.ChangeOld
import Derived.Below
import Derived.JoinedCond
import Derived.Test.YtpnagblbhlglhaaOpen
import Derived.Test.YtpnagblbhlglhaaCrcTellsWalk
namespace Go.Proofs.Ytpnagblbhlglhaa.crcTells
open Go.ChangeShapes Go.WideShapes Go.ChangeAt Go.RowKit
open Go.ChangeMaps (open_string shut_string)
set_option linter.unusedVariables false

theorem own : ownKnob Try.prog.godebug = none := by kernel_rfl
theorem laidOut : laidOutB Try.prog = true := by kernel_rfl

set_option maxRecDepth 100000 in
theorem contract (H : Type) (enc : TypeId × Value → H) (W : World) (base : Nat) (args : Array Value) (ds gs : List (DataW H)) (before : List MemPlace)
    (hval0 : ∀ (j : Nat) t v, Try.f4.params[j]? = some t → args[j]? = some v → Value.okWide Try.prog W .any base t v)
    (hW : DataW.Whole enc Try.prog Try.f4.params.toList Rows.crcTellsSpec.vars false W args.toList ds gs before) :
    Calls Try.prog 4 args W fun e W' => ∃ v, e = .returned v ∧ Rows.crcTellsSpec.post enc Try.prog Try.f4 false true false false W args v W' := by
  have hval : ∀ (j : Nat) t v, Try.f4.params[j]? = some t → args[j]? = some v → Value.okWide Try.prog W .any base t v := hval0
  have hW' := hW
  obtain ⟨p, q, hA0, hV, rfl, hfz, hnd⟩ := hW
  have hA : DataW.TrodAll enc Try.prog W 0 (fun _ => true) true Try.f4.params.toList args.toList ds p := hA0
  rw [Try.params4] at hA hval
  obtain ⟨v0, vs0, d0, ds0, p0, q0, hargs, rfl, rfl, h0, r0⟩ := trodAll_cons hA
  obtain ⟨v1, vs1, d1, ds1, p1, q1, rfl, rfl, rfl, h1, r1⟩ := trodAll_cons r0
  obtain ⟨v2, vs2, d2, ds2, p2, q2, rfl, rfl, rfl, h2, r2⟩ := trodAll_cons r1
  obtain ⟨rfl, rfl, rfl⟩ := trodAll_nil r2
  obtain rfl : args = #[v0, v1, v2] := by cases args; simp_all
  obtain ⟨rfl, rfl⟩ := trodVars_none hV
  obtain ⟨cs0, rfl, hcs0⟩ := okWide_arr Try.underlying32 (hval 0 32 v0 rfl rfl)
  have k0 := h0
  have lt0 : ∀ x ∈ p0, x.block < W.heap.size := by obtain ⟨m, hm⟩ := k0; exact DataW.trod_lt m _ _ _ hm
  obtain ⟨hla0, hea0⟩ := (by obtain ⟨m, hm⟩ := h0; exact open_arr Try.underlying32 (by kernel_rfl) (by kernel_rfl) hm : cs0.toList.length = 2 ∧ ∀ i (hi : i < cs0.toList.length), ∃ m y, DataW.trod enc Try.prog W 0 (fun _ => true) true m 24 [cs0.toList[i]] = some y)
  obtain ⟨a0_0, n0_0, c0_0, bs0_0, eq0_0, hr0_0, hs0_0, hle0_0, hmax0_0, hbl0_0⟩ := (by obtain ⟨m, y, hm⟩ := hea0 0 (by omega); exact open_bytes_cell Try.underlying24 Try.underlying5 (by kernel_rfl) hm : ∃ a n c bs, cs0.toList[0]'(by omega) = .slice a n c ∧ Reads W W.heap.size 1 a n (byts bs) ∧ Small bs ∧ n ≤ c ∧ c ≤ maxLen ∧ bs.length = n)
  have hmx0_0 := hmax0_0
  unfold maxLen at hmx0_0
  obtain ⟨a0_1, n0_1, c0_1, bs0_1, eq0_1, hr0_1, hs0_1, hle0_1, hmax0_1, hbl0_1⟩ := (by obtain ⟨m, y, hm⟩ := hea0 1 (by omega); exact open_bytes_cell Try.underlying24 Try.underlying5 (by kernel_rfl) hm : ∃ a n c bs, cs0.toList[1]'(by omega) = .slice a n c ∧ Reads W W.heap.size 1 a n (byts bs) ∧ Small bs ∧ n ≤ c ∧ c ≤ maxLen ∧ bs.length = n)
  have hmx0_1 := hmax0_1
  unfold maxLen at hmx0_1
  obtain rfl : cs0 = #[.slice a0_0 n0_0 c0_0, .slice a0_1 n0_1 c0_1] := by
    apply Array.ext'
    apply List.ext_getElem (by simpa using hla0)
    intro i h1 h2
    rcases (show i = 0 ∨ i = 1 by simp at h2; omega) with rfl | rfl
    · exact eq0_0
    · exact eq0_1
  obtain ⟨cs1, rfl, hcs1⟩ := okWide_arr Try.underlying33 (hval 1 33 v1 rfl rfl)
  have k1 := h1
  have lt1 : ∀ x ∈ p1, x.block < W.heap.size := by obtain ⟨m, hm⟩ := k1; exact DataW.trod_lt m _ _ _ hm
  obtain ⟨hla1, hea1⟩ := (by obtain ⟨m, hm⟩ := h1; exact open_arr Try.underlying33 (by kernel_rfl) (by kernel_rfl) hm : cs1.toList.length = 3 ∧ ∀ i (hi : i < cs1.toList.length), ∃ m y, DataW.trod enc Try.prog W 0 (fun _ => true) true m 3 [cs1.toList[i]] = some y)
  obtain ⟨x1_0, eq1_0, wf1_0⟩ := (by obtain ⟨m, y, hm⟩ := hea1 0 (by omega); exact open_int_cell Try.underlying3 hm : ∃ z, cs1.toList[0]'(by omega) = .int .i64 z ∧ (Lit.int .i64 z).wf = true)
  have rg1_0 := wf1_0
  simp [Lit.wf, IntKind.min, IntKind.max, IntKind.signed, IntKind.bits] at rg1_0
  obtain ⟨x1_1, eq1_1, wf1_1⟩ := (by obtain ⟨m, y, hm⟩ := hea1 1 (by omega); exact open_int_cell Try.underlying3 hm : ∃ z, cs1.toList[1]'(by omega) = .int .i64 z ∧ (Lit.int .i64 z).wf = true)
  have rg1_1 := wf1_1
  simp [Lit.wf, IntKind.min, IntKind.max, IntKind.signed, IntKind.bits] at rg1_1
  obtain ⟨x1_2, eq1_2, wf1_2⟩ := (by obtain ⟨m, y, hm⟩ := hea1 2 (by omega); exact open_int_cell Try.underlying3 hm : ∃ z, cs1.toList[2]'(by omega) = .int .i64 z ∧ (Lit.int .i64 z).wf = true)
  have rg1_2 := wf1_2
  simp [Lit.wf, IntKind.min, IntKind.max, IntKind.signed, IntKind.bits] at rg1_2
  obtain rfl : cs1 = #[.int .i64 x1_0, .int .i64 x1_1, .int .i64 x1_2] := by
    apply Array.ext'
    apply List.ext_getElem (by simpa using hla1)
    intro i h1 h2
    rcases (show i = 0 ∨ i = 1 ∨ i = 2 by simp at h2; omega) with rfl | rfl | rfl
    · exact eq1_0
    · exact eq1_1
    · exact eq1_2
  have k2 := h2
  have lt2 : ∀ x ∈ p2, x.block < W.heap.size := by obtain ⟨m, hm⟩ := k2; exact DataW.trod_lt m _ _ _ hm
  obtain ⟨x2, rfl, rfl, rfl, wf2⟩ := open_int Try.underlying23 (hval 2 23 v2 rfl rfl) h2
  have rg2 := wf2
  simp [Lit.wf, IntKind.min, IntKind.max, IntKind.signed, IntKind.bits] at rg2
  clear hA0
  obtain ⟨s, rfl⟩ : ∃ s : Nat, x2 = s := ⟨x2.toNat, by omega⟩
  refine (crcTells_walk W a0_0 a0_1 n0_0 c0_0 n0_1 c0_1 x1_0 x1_1 x1_2 s bs0_0 bs0_1 hr0_0 hs0_0 hr0_1 hs0_1 (by omega) (by omega) (by omega) (by omega) (by omega) (by omega)).mono fun e W' ⟨he, bel⟩ => ?_
  subst he
  exact ⟨_, rfl, _, _, _, [], _, [], hW', trodAll_mk1 (shut_bool Try.underlying4 _), (trodAll_cons_mk (Below.trod laidOut (by kernel_rfl) (of_decide_eq_true (by kernel_rfl)) k0 bel lt0) (trodAll_cons_mk (Below.trod laidOut (by kernel_rfl) (of_decide_eq_true (by kernel_rfl)) k1 bel lt1) (trodAll_cons_mk (Below.trod laidOut (by kernel_rfl) (of_decide_eq_true (by kernel_rfl)) k2 bel lt2) trodAll_mk0))), rfl, bel.frame _, fun h => by cases h⟩

set_option maxRecDepth 100000 in
theorem lifted (os : Os) (started : os.Started) (H : Type) (enc : TypeId × Value → H) :
    ReturnsInHanded {} Try.checked os 4 .any (Rows.crcTellsSpec.pre6 enc Try.prog Try.f4 Rows.crcTellsRow.domain false) (Rows.crcTellsSpec.post enc Try.prog Try.f4 false true false false) := by
  refine returnsInHanded_of_change (C := Try.checked) own started (by kernel_rfl) Try.func4
    (ChangeSpec.witness6 (enc := enc) (C := Try.checked) false ⟨#[], #[.agg #[.slice none 0 0, .slice none 0 0], .agg #[.int .i64 0, .int .i64 0, .int .i64 0], .int .u32 0], []⟩ 8 (by kernel_rfl) (by kernel_rfl) (by kernel_rfl) (by kernel_rfl)) ?_
  intro W base args ds gs before hval hW _ _
  exact contract H enc W base args ds gs before hval hW

/-- ████ THE STATEMENT ████ -/
theorem proved : Rows.CrcTellsSaid :=
  OpenClaim.holds_of_wide 4 Try.f4 rfl rfl rfl rfl rfl rfl rfl ⟨rfl, rfl, rfl, rfl, rfl⟩ rfl rfl rfl rfl rfl (by kernel_rfl) Try.func4 (by kernel_rfl)
    (of_decide_eq_true (by kernel_rfl)) (by unfold Func.isWrapper; first | (rw [if_pos (by decide +kernel)]; kernel_rfl) | (rw [if_neg (by decide +kernel)]; exact ⟨rfl, rfl⟩))
    (fun os started H enc _ => lifted os started H enc)
end Go.Proofs.Ytpnagblbhlglhaa.crcTells
