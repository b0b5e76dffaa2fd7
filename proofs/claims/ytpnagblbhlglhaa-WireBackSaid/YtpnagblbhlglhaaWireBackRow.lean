/- wicketlaw01.WireBack answers true and leaves its arguments as they read. Conditions: the row's own. -/
import Derived.Test.YtpnagblbhlglhaaRows
import Derived.WalkKit
import Derived.ProofKit
import Derived.OpenShut
import Derived.ShutString
import Derived.ChangeOld
import Derived.Below
import Derived.JoinedCond
import Derived.Test.YtpnagblbhlglhaaOpen
import Derived.Test.YtpnagblbhlglhaaWireBackWalk
namespace Go.Proofs.Ytpnagblbhlglhaa.wireBack
open Go.ChangeShapes Go.WideShapes Go.ChangeAt Go.RowKit
open Go.ChangeMaps (open_string shut_string)
set_option linter.unusedVariables false

theorem own : ownKnob Try.prog.godebug = none := by kernel_rfl
theorem laidOut : laidOutB Try.prog = true := by kernel_rfl

set_option maxRecDepth 100000 in
theorem contract (H : Type) (enc : TypeId × Value → H) (W : World) (base : Nat) (args : Array Value) (ds gs : List (DataW H)) (before : List MemPlace)
    (hval0 : ∀ (j : Nat) t v, Try.f6.params[j]? = some t → args[j]? = some v → Value.okWide Try.prog W .any base t v)
    (hW : DataW.Whole enc Try.prog Try.f6.params.toList Rows.wireBackSpec.vars false W args.toList ds gs before) (hz : (DataW.weightsEach Try.prog (Try.f6.params.toList ++ Rows.wireBackSpec.plain.varTypes Try.prog) (ds ++ gs)).all (· ≤ reachBytes) = true) :
    Calls Try.prog 6 args W fun e W' => ∃ v, e = .returned v ∧ Rows.wireBackSpec.post enc Try.prog Try.f6 false true false false W args v W' := by
  have hval : ∀ (j : Nat) t v, Try.f6.params[j]? = some t → args[j]? = some v → Value.okWide Try.prog W .any base t v := hval0
  have hW' := hW
  obtain ⟨p, q, hA0, hV, rfl, hfz, hnd⟩ := hW
  have hA : DataW.TrodAll enc Try.prog W 0 (fun _ => true) true Try.f6.params.toList args.toList ds p := hA0
  rw [Try.params6] at hA hval
  obtain ⟨v0, vs0, d0, ds0, p0, q0, hargs, rfl, rfl, h0, r0⟩ := trodAll_cons hA
  obtain ⟨v1, vs1, d1, ds1, p1, q1, rfl, rfl, rfl, h1, r1⟩ := trodAll_cons r0
  obtain ⟨rfl, rfl, rfl⟩ := trodAll_nil r1
  obtain rfl : args = #[v0, v1] := by cases args; simp_all
  obtain ⟨rfl, rfl⟩ := trodVars_none hV
  simp only [List.append_nil] at hW' hz
  obtain ⟨cs0, rfl, hcs0⟩ := okWide_struct Try.underlying37 (hval 0 37 v0 rfl rfl)
  have k0 := h0
  have lt0 : ∀ x ∈ p0, x.block < W.heap.size := by obtain ⟨m, hm⟩ := k0; exact DataW.trod_lt m _ _ _ hm
  obtain ⟨xn0, xs0, xf0, a0, n0, c0, bs0, rfl, hN0, hS00, hS10, hr0, hs0, hle0, hmax0, hbl0, be0, hwt0⟩ := (by obtain ⟨m, hm⟩ := h0; exact open_things Try.underlying37 (by kernel_rfl) (by kernel_rfl) (by kernel_rfl) Try.underlying35 Try.underlying2 Try.underlying4 Try.underlying24 Try.underlying5 (by kernel_rfl) hm : ∃ (N : Nat) (S : Int) (F : Bool) (A : Option Addr) (n c : Nat) (bs : List Nat), cs0 = #[.int .u64 N, .int .i64 S, .bool F, .slice A n c] ∧ N < 18446744073709551616 ∧ -9223372036854775808 ≤ S ∧ S ≤ 9223372036854775807 ∧ Reads W W.heap.size 1 A n (byts bs) ∧ Small bs ∧ n ≤ c ∧ c ≤ maxLen ∧ bs.length = n ∧ n ≤ Rows.uptoBulk d0 ∧ (Try.prog.bytesOf 5 = 1 → ∀ R, (∀ m ∈ d0.weights Try.prog 37, m ≤ R) → n ≤ R))
  have sz0 : n0 ≤ 140737488351232 := hwt0 (by kernel_rfl) _ (weight_arg hz (j := 0) rfl rfl)
  have hmx0 := hmax0
  unfold maxLen at hmx0
  obtain ⟨a1, n1, c1, rfl⟩ := okWide_slice Try.underlying24 (hval 1 24 v1 rfl rfl)
  have k1 := h1
  have lt1 : ∀ x ∈ p1, x.block < W.heap.size := by obtain ⟨m, hm⟩ := k1; exact DataW.trod_lt m _ _ _ hm
  obtain ⟨bs1, hr1, hs1, hle1, hmax1, hel1, hbl1⟩ := (by obtain ⟨m, hm⟩ := h1; exact open_bytes Try.underlying24 Try.underlying5 (by kernel_rfl) hm : ∃ bs : List Nat, Reads W W.heap.size 1 a1 n1 (byts bs) ∧ Small bs ∧ n1 ≤ c1 ∧ c1 ≤ maxLen ∧ (elems d1).length = n1 ∧ bs.length = n1)
  have hmx1 := hmax1
  unfold maxLen at hmx1
  have be1 := bulk_elems d1
  have sz1 : (elems d1).length ≤ 140737488351232 := weight_elems Try.underlying24 (by kernel_rfl) (weight_arg hz (j := 1) rfl rfl)
  clear hA0
  refine (wireBack_walk W xn0 xs0 xf0 a0 a1 n0 c0 n1 c1 bs0 bs1 hN0 hS00 hS10 hr0 hs0 (by omega) hr1 hs1 (by omega) hle1).mono fun e W' ⟨he, bel⟩ => ?_
  subst he
  exact ⟨_, rfl, _, _, _, [], _, [], hW', trodAll_mk1 (shut_bool Try.underlying4 _), (trodAll_cons_mk (Below.trod laidOut (by kernel_rfl) (of_decide_eq_true (by kernel_rfl)) k0 bel lt0) (trodAll_cons_mk (Below.trod laidOut (by kernel_rfl) (of_decide_eq_true (by kernel_rfl)) k1 bel lt1) trodAll_mk0)), rfl, bel.frame _, fun h => by cases h⟩

set_option maxRecDepth 100000 in
theorem lifted (os : Os) (started : os.Started) (H : Type) (enc : TypeId × Value → H) :
    ReturnsInHanded {} Try.checked os 6 .any (Rows.wireBackSpec.pre6 enc Try.prog Try.f6 Rows.wireBackRow.domain false) (Rows.wireBackSpec.post enc Try.prog Try.f6 false true false false) := by
  refine returnsInHanded_of_change_sized (C := Try.checked) own started (by kernel_rfl) Try.func6
    (ChangeSpec.witness6 (enc := enc) (C := Try.checked) false ⟨#[], #[.agg #[.int .u64 0, .int .i64 0, .bool false, .slice none 0 0], .slice none 0 0], []⟩ 8 (by kernel_rfl) (by kernel_rfl) (by kernel_rfl) (by kernel_rfl)) ?_
  intro W base args ds gs before hval hW _ hz _
  exact contract H enc W base args ds gs before hval hW hz

/-- ████ THE STATEMENT ████ -/
theorem proved : Rows.WireBackSaid :=
  OpenClaim.holds_of_wide 6 Try.f6 rfl rfl rfl rfl rfl rfl rfl ⟨rfl, rfl, rfl, rfl, rfl⟩ rfl rfl rfl rfl rfl (by kernel_rfl) Try.func6 (by kernel_rfl)
    (of_decide_eq_true (by kernel_rfl)) (by unfold Func.isWrapper; first | (rw [if_pos (by decide +kernel)]; kernel_rfl) | (rw [if_neg (by decide +kernel)]; exact ⟨rfl, rfl⟩))
    (fun os started H enc _ => lifted os started H enc)
end Go.Proofs.Ytpnagblbhlglhaa.wireBack
