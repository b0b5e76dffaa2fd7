/- wicketlaw03.DiskLasts answers true where what comes in is of bulk at most 1048576, and leaves its arguments as they read. Conditions: the row's own. -/
import Derived.Test.YtapgcglpkilofaaRows
import Derived.WalkKit
import Derived.ProofKit
import Derived.OpenShut
import Derived.ShutString
import Derived.ChangeOld
import Derived.Below
import Derived.JoinedCond
import Derived.Test.YtapgcglpkilofaaOpen
import Derived.Test.YtapgcglpkilofaaDiskOpen
import Derived.Test.YtapgcglpkilofaaDiskLastsWalk
namespace Go.Proofs.Ytapgcglpkilofaa.diskLasts
open Go.ChangeShapes Go.WideShapes Go.ChangeAt Go.RowKit
open Go.ChangeMaps (open_string shut_string)
set_option linter.unusedVariables false

theorem own : ownKnob Try.prog.godebug = none := by kernel_rfl
theorem laidOut : laidOutB Try.prog = true := by kernel_rfl

set_option maxRecDepth 100000 in
theorem contract (H : Type) (enc : TypeId × Value → H) (W : World) (base : Nat) (args : Array Value) (ds gs : List (DataW H)) (before : List MemPlace)
    (hval0 : ∀ (j : Nat) t v, Try.f4.params[j]? = some t → args[j]? = some v → Value.okWide Try.prog W .any base t v)
    (hW : DataW.Whole enc Try.prog Try.f4.params.toList Rows.diskLastsSpec.vars false W args.toList ds gs before) (hk : Rows.uptoSmall H (ds ++ gs) = true) :
    Calls Try.prog 4 args W fun e W' => ∃ v, e = .returned v ∧ Rows.diskLastsSpec.post enc Try.prog Try.f4 false true false false W args v W' := by
  have hval : ∀ (j : Nat) t v, Try.f4.params[j]? = some t → args[j]? = some v → Value.okWide Try.prog W .any base t v := hval0
  have hW' := hW
  obtain ⟨p, q, hA0, hV, rfl, hfz, hnd⟩ := hW
  have hA : DataW.TrodAll enc Try.prog W 0 (fun _ => true) true Try.f4.params.toList args.toList ds p := hA0
  rw [Try.params4] at hA hval
  obtain ⟨v0, vs0, d0, ds0, p0, q0, hargs, rfl, rfl, h0, r0⟩ := trodAll_cons hA
  obtain ⟨v1, vs1, d1, ds1, p1, q1, rfl, rfl, rfl, h1, r1⟩ := trodAll_cons r0
  obtain ⟨v2, vs2, d2, ds2, p2, q2, rfl, rfl, rfl, h2, r2⟩ := trodAll_cons r1
  obtain ⟨v3, vs3, d3, ds3, p3, q3, rfl, rfl, rfl, h3, r3⟩ := trodAll_cons r2
  obtain ⟨rfl, rfl, rfl⟩ := trodAll_nil r3
  obtain rfl : args = #[v0, v1, v2, v3] := by cases args; simp_all
  obtain ⟨rfl, rfl⟩ := trodVars_none hV
  simp only [List.append_nil] at hW' hk
  have hbulk : Rows.uptoBulkAll [d0, d1, d2, d3] ≤ 1048576 := of_decide_eq_true hk
  simp only [Rows.uptoBulkAll] at hbulk
  have bulk0 := bulk_one d0
  have bulk1 := bulk_one d1
  have bulk2 := bulk_one d2
  have bulk3 := bulk_one d3
  obtain ⟨cs0, rfl, hcs0⟩ := okWide_struct Try.underlying25 (hval 0 25 v0 rfl rfl)
  have k0 := h0
  have lt0 : ∀ x ∈ p0, x.block < W.heap.size := by obtain ⟨m, hm⟩ := k0; exact DataW.trod_lt m _ _ _ hm
  obtain ⟨a1, n1, c1, rfl⟩ := okWide_slice Try.underlying26 (hval 1 26 v1 rfl rfl)
  have k1 := h1
  have lt1 : ∀ x ∈ p1, x.block < W.heap.size := by obtain ⟨m, hm⟩ := k1; exact DataW.trod_lt m _ _ _ hm
  obtain ⟨R1, hr1, hle1, hmax1, hel1, hrow1⟩ := (by obtain ⟨m, hm⟩ := h1; exact open_rows Try.underlying26 (by kernel_rfl) (by decide) hm : ∃ R : Nat → List Value, RowsAt W W.heap.size a1 n1 3 R ∧ n1 ≤ c1 ∧ c1 ≤ maxLen ∧ (elems d1).length = n1 ∧ ∀ i, i < n1 → ∃ m y, DataW.trod enc Try.prog W 0 (fun _ => true) true m 39 (R i) = some y ∧ (elems d1)[i]? = some y.1)
  have hmx1 := hmax1
  unfold maxLen at hmx1
  have be1 := bulk_elems d1
  have k2 := h2
  have lt2 : ∀ x ∈ p2, x.block < W.heap.size := by obtain ⟨m, hm⟩ := k2; exact DataW.trod_lt m _ _ _ hm
  obtain ⟨x2, rfl, rfl, rfl, wf2⟩ := open_int Try.underlying3 (hval 2 3 v2 rfl rfl) h2
  have rg2 := wf2
  simp [Lit.wf, IntKind.min, IntKind.max, IntKind.signed, IntKind.bits] at rg2
  obtain ⟨a3, n3, c3, rfl⟩ := okWide_slice Try.underlying22 (hval 3 22 v3 rfl rfl)
  have k3 := h3
  have lt3 : ∀ x ∈ p3, x.block < W.heap.size := by obtain ⟨m, hm⟩ := k3; exact DataW.trod_lt m _ _ _ hm
  obtain ⟨bs3, hr3, hs3, hle3, hmax3, hel3, hbl3⟩ := (by obtain ⟨m, hm⟩ := h3; exact open_bytes Try.underlying22 Try.underlying5 (by kernel_rfl) hm : ∃ bs : List Nat, Reads W W.heap.size 1 a3 n3 (byts bs) ∧ Small bs ∧ n3 ≤ c3 ∧ c3 ≤ maxLen ∧ (elems d3).length = n3 ∧ bs.length = n3)
  have hmx3 := hmax3
  unfold maxLen at hmx3
  have be3 := bulk_elems d3
  clear hA0
  obtain ⟨x0, a0, n0, c0, log, b0, m0, e0, ls, rfl, hlr, hls, hln, hs2, hns, hll⟩ := (by obtain ⟨m, hm⟩ := h0; exact open_start Try.underlying25 (by kernel_rfl) (by kernel_rfl) (by kernel_rfl) Try.underlying3 Try.underlying22 Try.underlying23 (by kernel_rfl) Try.underlying5 (by kernel_rfl) hm : ∃ (z : Int) (A : Option Addr) (n c : Nat) (bs : List Nat) (A2 : Option Addr) (n2 c2 : Nat) (ls : List (List Nat)), cs0 = #[.int .i64 z, .slice A n c, .slice A2 n2 c2] ∧ Reads W W.heap.size 1 A n (byts bs) ∧ Small bs ∧ n ≤ Rows.uptoBulk d0 ∧ Reads2 W W.heap.size A2 n2 ls ∧ n2 ≤ Rows.uptoBulk d0 ∧ (∀ l ∈ ls, l.length ≤ Rows.uptoBulk d0 ∧ Small l))
  have hR1 : ∀ i, i < n1 → ∃ (K N : Int) (A : Option Addr) (n c : Nat) (b : List Nat), R1 i = [.int .i64 K, .int .i64 N, .slice A n c] ∧ Reads W W.heap.size 1 A n (byts b) ∧ Small b ∧ n ≤ 1048576 ∧ -9223372036854775808 ≤ N ∧ N ≤ 9223372036854775807 := by
    intro i hi
    obtain ⟨m, y, hm, hy⟩ := hrow1 i hi
    obtain ⟨K, N, A, n, c, b, e1, e2, e3, e4, e5⟩ := open_step Try.underlying39 (by kernel_rfl) (by kernel_rfl) (by kernel_rfl) Try.underlying3 Try.underlying22 Try.underlying5 (by kernel_rfl) hm
    have := bulk_mem d1 y.1 (List.mem_of_getElem? hy)
    exact ⟨K, N, A, n, c, b, e1, e2, e3, by omega, e5⟩
  refine (diskLasts_walk W x0 a0 n0 c0 log b0 m0 e0 ls a1 n1 c1 R1 x2 a3 n3 c3 bs3 hlr hls (by omega) hs2 (fun l hl => ⟨by have := (hll l hl).1; omega, (hll l hl).2⟩) hr1 hR1 (by omega) (by omega) hr3 hs3 (by omega)).mono fun e W' ⟨he, bel⟩ => ?_
  subst he
  exact ⟨_, rfl, _, _, _, [], _, [], hW', trodAll_mk1 (shut_bool Try.underlying4 _), (trodAll_cons_mk (Below.trod laidOut (by kernel_rfl) (of_decide_eq_true (by kernel_rfl)) k0 bel lt0) (trodAll_cons_mk (Below.trod laidOut (by kernel_rfl) (of_decide_eq_true (by kernel_rfl)) k1 bel lt1) (trodAll_cons_mk (Below.trod laidOut (by kernel_rfl) (of_decide_eq_true (by kernel_rfl)) k2 bel lt2) (trodAll_cons_mk (Below.trod laidOut (by kernel_rfl) (of_decide_eq_true (by kernel_rfl)) k3 bel lt3) trodAll_mk0)))), rfl, bel.frame _, fun h => by cases h⟩

set_option maxRecDepth 100000 in
theorem lifted (os : Os) (started : os.Started) (H : Type) (enc : TypeId × Value → H) (F : Stop.Interp) :
    ReturnsInHanded {} Try.checked os 4 .any ((Rows.OpenSpec.upto Rows.diskLastsSpec).pre6 enc Try.prog Try.f4 Rows.diskLastsUptoRow.domain false) (((Rows.OpenSpec.upto Rows.diskLastsSpec).at F).post enc Try.prog Try.f4 false true false false) := by
  refine returnsInHanded_of_cond (C := Try.checked) (s := Rows.OpenSpec.upto Rows.diskLastsSpec) (k := Rows.uptoSmall) rfl own started (by kernel_rfl) Try.func4
    (OpenSpec.witness (enc := enc) (C := Try.checked) (s := Rows.OpenSpec.upto Rows.diskLastsSpec) (k := Rows.uptoSmall) rfl false ⟨#[], #[.agg #[.int .i64 0, .slice none 0 0, .slice none 0 0], .slice none 0 0, .int .i64 0, .slice none 0 0], []⟩ 8 (by kernel_rfl) (by kernel_rfl) (by kernel_rfl)
      (x := ([.agg [.lit (.int .i64 0), .nil, .nil], .nil, .lit (.int .i64 0), .nil], [], [])) (by kernel_rfl) rfl (by kernel_rfl)) ?_
  intro W base args ds gs before hval hW _ hk _
  exact contract H enc W base args ds gs before hval hW hk

/-- ████ THE STATEMENT ████ -/
theorem proved : Rows.DiskLastsUptoSaid :=
  OpenClaim.holds_of_cond 4 Try.f4 rfl rfl rfl rfl rfl rfl rfl ⟨rfl, rfl, rfl, rfl, rfl⟩ rfl rfl rfl rfl rfl (by kernel_rfl) Try.func4 (by kernel_rfl)
    (of_decide_eq_true (by kernel_rfl)) (by unfold Func.isWrapper; first | (rw [if_pos (by decide +kernel)]; kernel_rfl) | (rw [if_neg (by decide +kernel)]; exact ⟨rfl, rfl⟩))
    (fun os started H enc _ F => lifted os started H enc F)
end Go.Proofs.Ytapgcglpkilofaa.diskLasts
