/- wicketlaw05.NamesKinds answers true where what comes in is of bulk at most 1048576, and leaves its arguments as they read. Conditions: the row's own. -/
import Derived.Test.YtnghfnpmbjnjeaaRows
import Derived.WalkKit
import Derived.ProofKit
import Derived.OpenShut
import Derived.ShutString
import Derived.ChangeOld
import Derived.Below
import Derived.JoinedCond
import Derived.Test.YtnghfnpmbjnjeaaOpen
import Derived.Test.YtnghfnpmbjnjeaaNamesKindsWalk
namespace Go.Proofs.Ytnghfnpmbjnjeaa.namesKinds
open Go.ChangeShapes Go.WideShapes Go.ChangeAt Go.RowKit
open Go.ChangeMaps (open_string shut_string)
set_option linter.unusedVariables false

theorem own : ownKnob Try.prog.godebug = none := by kernel_rfl
theorem laidOut : laidOutB Try.prog = true := by kernel_rfl
theorem strN_of (X : ByteArray) : ∃ l : List Nat, Small l ∧ X = strN l ∧ l.length = X.size := by
  refine ⟨X.data.toList.map UInt8.toNat, fun c hc => ?_, ?_, ?_⟩
  · obtain ⟨u, _, rfl⟩ := List.mem_map.1 hc
    exact u.toNat_lt
  · apply ByteArray.ext
    show X.data = ((X.data.toList.map UInt8.toNat).map UInt8.ofNat).toArray
    have e : (UInt8.ofNat ∘ UInt8.toNat) = id := by funext u; simp
    rw [List.map_map, e, List.map_id]
  · rw [List.length_map, Array.length_toList]
    rfl
theorem bulk_str (H : Type) (X : ByteArray) : Rows.uptoBulk (H := H) (.lit (.string X.data.toList)) = X.size + 1 := by
  unfold Rows.uptoBulk
  rw [Array.length_toList]
  rfl

set_option maxRecDepth 100000 in
theorem contract (H : Type) (enc : TypeId × Value → H) (W : World) (base : Nat) (args : Array Value) (ds gs : List (DataW H)) (before : List MemPlace)
    (hval0 : ∀ (j : Nat) t v, Try.f5.params[j]? = some t → args[j]? = some v → Value.okWide Try.prog W .any base t v)
    (hW : DataW.Whole enc Try.prog Try.f5.params.toList Rows.namesKindsSpec.vars false W args.toList ds gs before) (hk : Rows.uptoSmall H (ds ++ gs) = true) :
    Calls Try.prog 5 args W fun e W' => ∃ v, e = .returned v ∧ Rows.namesKindsSpec.post enc Try.prog Try.f5 false true false false W args v W' := by
  have hval : ∀ (j : Nat) t v, Try.f5.params[j]? = some t → args[j]? = some v → Value.okWide Try.prog W .any base t v := hval0
  have hW' := hW
  obtain ⟨p, q, hA0, hV, rfl, hfz, hnd⟩ := hW
  have hA : DataW.TrodAll enc Try.prog W 0 (fun _ => true) true Try.f5.params.toList args.toList ds p := hA0
  rw [Try.params5] at hA hval
  obtain ⟨v0, vs0, d0, ds0, p0, q0, hargs, rfl, rfl, h0, r0⟩ := trodAll_cons hA
  obtain ⟨v1, vs1, d1, ds1, p1, q1, rfl, rfl, rfl, h1, r1⟩ := trodAll_cons r0
  obtain ⟨rfl, rfl, rfl⟩ := trodAll_nil r1
  obtain rfl : args = #[v0, v1] := by cases args; simp_all
  obtain ⟨rfl, rfl⟩ := trodVars_none hV
  simp only [List.append_nil] at hW' hk
  have hbulk : Rows.uptoBulkAll [d0, d1] ≤ 1048576 := of_decide_eq_true hk
  simp only [Rows.uptoBulkAll] at hbulk
  have bulk0 := bulk_one d0
  have bulk1 := bulk_one d1
  obtain ⟨a0, n0, c0, rfl⟩ := okWide_slice Try.underlying22 (hval 0 22 v0 rfl rfl)
  have k0 := h0
  have lt0 : ∀ x ∈ p0, x.block < W.heap.size := by obtain ⟨m, hm⟩ := k0; exact DataW.trod_lt m _ _ _ hm
  obtain ⟨bs0, hr0, hs0, hle0, hmax0, hel0, hbl0⟩ := (by obtain ⟨m, hm⟩ := h0; exact open_bytes Try.underlying22 Try.underlying5 (by kernel_rfl) hm : ∃ bs : List Nat, Reads W W.heap.size 1 a0 n0 (byts bs) ∧ Small bs ∧ n0 ≤ c0 ∧ c0 ≤ maxLen ∧ (elems d0).length = n0 ∧ bs.length = n0)
  have hmx0 := hmax0
  unfold maxLen at hmx0
  have be0 := bulk_elems d0
  have k1 := h1
  have lt1 : ∀ x ∈ p1, x.block < W.heap.size := by obtain ⟨m, hm⟩ := k1; exact DataW.trod_lt m _ _ _ hm
  obtain ⟨x1, rfl, rfl, rfl, mx1⟩ := open_string Try.underlying9 (hval 1 9 v1 rfl rfl) h1
  clear hA0
  have eb := bulk_str H x1
  obtain ⟨l, sl, hl, ll⟩ := strN_of x1
  have ml : l.length ≤ 1048576 := by omega
  subst hl
  refine (namesKinds_walk W a0 n0 c0 bs0 l hr0 hs0 (by omega) sl ml).mono fun e W' ⟨he, bel⟩ => ?_
  subst he
  exact ⟨_, rfl, _, _, _, [], _, [], hW', trodAll_mk1 (shut_bool Try.underlying4 _), (trodAll_cons_mk (Below.trod laidOut (by kernel_rfl) (of_decide_eq_true (by kernel_rfl)) k0 bel lt0) (trodAll_cons_mk (Below.trod laidOut (by kernel_rfl) (of_decide_eq_true (by kernel_rfl)) k1 bel lt1) trodAll_mk0)), rfl, bel.frame _, fun h => by cases h⟩

set_option maxRecDepth 100000 in
theorem lifted (os : Os) (started : os.Started) (H : Type) (enc : TypeId × Value → H) (F : Stop.Interp) :
    ReturnsInHanded {} Try.checked os 5 .any ((Rows.OpenSpec.upto Rows.namesKindsSpec).pre6 enc Try.prog Try.f5 Rows.namesKindsUptoRow.domain false) (((Rows.OpenSpec.upto Rows.namesKindsSpec).at F).post enc Try.prog Try.f5 false true false false) := by
  refine returnsInHanded_of_cond (C := Try.checked) (s := Rows.OpenSpec.upto Rows.namesKindsSpec) (k := Rows.uptoSmall) rfl own started (by kernel_rfl) Try.func5
    (OpenSpec.witness (enc := enc) (C := Try.checked) (s := Rows.OpenSpec.upto Rows.namesKindsSpec) (k := Rows.uptoSmall) rfl false ⟨#[], #[.slice none 0 0, .string { data := #[] }], []⟩ 8 (by kernel_rfl) (by kernel_rfl) (by kernel_rfl)
      (x := ([.nil, .lit (.string [])], [], [])) (by kernel_rfl) rfl (by kernel_rfl)) ?_
  intro W base args ds gs before hval hW _ hk _
  exact contract H enc W base args ds gs before hval hW hk

/-- ████ THE STATEMENT ████ -/
theorem proved : Rows.NamesKindsUptoSaid :=
  OpenClaim.holds_of_cond 5 Try.f5 rfl rfl rfl rfl rfl rfl rfl ⟨rfl, rfl, rfl, rfl, rfl⟩ rfl rfl rfl rfl rfl (by kernel_rfl) Try.func5 (by kernel_rfl)
    (of_decide_eq_true (by kernel_rfl)) (by unfold Func.isWrapper; first | (rw [if_pos (by decide +kernel)]; kernel_rfl) | (rw [if_neg (by decide +kernel)]; exact ⟨rfl, rfl⟩))
    (fun os started H enc _ F => lifted os started H enc F)
end Go.Proofs.Ytnghfnpmbjnjeaa.namesKinds
