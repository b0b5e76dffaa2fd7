/-
  No cell of these rows narrows 'for every input' (looked for: loops, veiled, ifaces, maps, wideKeys, modest, calm, conditions, laid).
  DERIVED. THE GIVEN ROWS OF THIS SEAT. 7 by the template 'for every input the law returns true; each argument reads behind the call as it read before'; 0 by the template 'total and deterministic' (their statements: YtnghfnpmbjnjeaaTotals.lean).
  GIVEN WITH THE SEED: the statements are not yours to turn. If you find one false, say at which input.
  Laid BY PROGRAM, IN A SANDBOX (cutbox-rows.mjs): the forced cells as the released guide's own fill.sh prints them over the translation 18c6e8d330aee42d… (all of the seat's roots in one cut). By AI agents, Wed Nov 11 2026. No macro, syntax, notation, axiom, sorry.
-/
import Derived.Test.YtnghfnpmbjnjeaaChecked
import GoSem.Claim
import GoSem.ClaimJoined
import GoSem.ClaimMapViews
import Derived.JoinedTies
import Derived.KernelRfl
namespace Go.Proofs.Ytnghfnpmbjnjeaa
/- THE CELL 'sum', in the pinned program and in every row, IS THE sha256 OF THE DUMP (.gsa) THAT YtnghfnpmbjnjeaaProg.lean LOADS. Nothing in Lean hashes anything: it is a label: what it is worth is what the hold of that sum in a sandbox is worth. -/
noncomputable def Try.pinned : Pinned := { name := "ytnghfnpmbjnjeaa", sum := "18c6e8d330aee42d4dd35dc7c9be5cdaa611f6d764cc7da68669c95a9043fee8", checked := Try.checked }
namespace Rows
def none {H : Type} : Left H := { results := [], args := [] }

/-- 'wicketlaw05.NamesRanges': WHATEVER THE INPUT: true; the input reads as it did. -/
def namesRangesSpec : ChangeSpec := { name := "namesRanges", fn := fun _ => fun
  | [d] => { results := [.lit (.bool true)], args := [d] }
  | _ => none }
def namesRangesRow : OpenClaim := { program := "ytnghfnpmbjnjeaa", sum := "18c6e8d330aee42d4dd35dc7c9be5cdaa611f6d764cc7da68669c95a9043fee8", func := "wicket/wicketlaw05.NamesRanges", spec := "namesRanges", inPlace := ["internal/bytealg.Compare"], apart := false }
def NamesRangesSaid : Prop := namesRangesRow.holds Try.pinned (OpenSpec.ofChange namesRangesSpec)

/-- ITS FALSE NEIGHBOUR: 'it returns false'. Refute it at one input. -/
def namesRangesWrong : ChangeSpec := { name := "namesRanges", fn := fun _ => fun
  | [d] => { results := [.lit (.bool false)], args := [d] }
  | _ => none }
def NamesRangesWrongFalsely : Prop := namesRangesRow.holds Try.pinned (OpenSpec.ofChange namesRangesWrong)

/-- 'wicketlaw05.NamesOrder': WHATEVER THE INPUT: true; the input reads as it did. -/
def namesOrderSpec : ChangeSpec := { name := "namesOrder", fn := fun _ => fun
  | [d] => { results := [.lit (.bool true)], args := [d] }
  | _ => none }
def namesOrderRow : OpenClaim := { program := "ytnghfnpmbjnjeaa", sum := "18c6e8d330aee42d4dd35dc7c9be5cdaa611f6d764cc7da68669c95a9043fee8", func := "wicket/wicketlaw05.NamesOrder", spec := "namesOrder", inPlace := ["internal/bytealg.Compare"], apart := false }
def NamesOrderSaid : Prop := namesOrderRow.holds Try.pinned (OpenSpec.ofChange namesOrderSpec)

/-- ITS FALSE NEIGHBOUR: 'it returns false'. Refute it at one input. -/
def namesOrderWrong : ChangeSpec := { name := "namesOrder", fn := fun _ => fun
  | [d] => { results := [.lit (.bool false)], args := [d] }
  | _ => none }
def NamesOrderWrongFalsely : Prop := namesOrderRow.holds Try.pinned (OpenSpec.ofChange namesOrderWrong)

/-- 'wicketlaw05.NamesKinds': WHATEVER THE INPUT: true; the input reads as it did. -/
def namesKindsSpec : ChangeSpec := { name := "namesKinds", fn := fun _ => fun
  | [d1, d2] => { results := [.lit (.bool true)], args := [d1, d2] }
  | _ => none }
def namesKindsRow : OpenClaim := { program := "ytnghfnpmbjnjeaa", sum := "18c6e8d330aee42d4dd35dc7c9be5cdaa611f6d764cc7da68669c95a9043fee8", func := "wicket/wicketlaw05.NamesKinds", spec := "namesKinds", inPlace := ["internal/bytealg.Compare"], apart := false }
def NamesKindsSaid : Prop := namesKindsRow.holds Try.pinned (OpenSpec.ofChange namesKindsSpec)

/-- ITS FALSE NEIGHBOUR: 'it returns false'. Refute it at one input. -/
def namesKindsWrong : ChangeSpec := { name := "namesKinds", fn := fun _ => fun
  | [d1, d2] => { results := [.lit (.bool false)], args := [d1, d2] }
  | _ => none }
def NamesKindsWrongFalsely : Prop := namesKindsRow.holds Try.pinned (OpenSpec.ofChange namesKindsWrong)

/-- 'wicketlaw07.TableHalves': WHATEVER THE INPUT: true; the input reads as it did. -/
def tableHalvesSpec : ChangeSpec := { name := "tableHalves", fn := fun _ => fun
  | [d1, d2, d3] => { results := [.lit (.bool true)], args := [d1, d2, d3] }
  | _ => none }
def tableHalvesRow : OpenClaim := { program := "ytnghfnpmbjnjeaa", sum := "18c6e8d330aee42d4dd35dc7c9be5cdaa611f6d764cc7da68669c95a9043fee8", func := "wicket/wicketlaw07.TableHalves", spec := "tableHalves", inPlace := ["internal/bytealg.Compare"], unfollowed := true, recurses := true, apart := false }
def TableHalvesSaid : Prop := tableHalvesRow.holds Try.pinned (OpenSpec.ofChange tableHalvesSpec)

/-- ITS FALSE NEIGHBOUR: 'it returns false'. Refute it at one input. -/
def tableHalvesWrong : ChangeSpec := { name := "tableHalves", fn := fun _ => fun
  | [d1, d2, d3] => { results := [.lit (.bool false)], args := [d1, d2, d3] }
  | _ => none }
def TableHalvesWrongFalsely : Prop := tableHalvesRow.holds Try.pinned (OpenSpec.ofChange tableHalvesWrong)

/-- 'wicketlaw07.TableMeanwhile': WHATEVER THE INPUT: true; the input reads as it did. -/
def tableMeanwhileSpec : ChangeSpec := { name := "tableMeanwhile", fn := fun _ => fun
  | [d1, d2, d3] => { results := [.lit (.bool true)], args := [d1, d2, d3] }
  | _ => none }
def tableMeanwhileRow : OpenClaim := { program := "ytnghfnpmbjnjeaa", sum := "18c6e8d330aee42d4dd35dc7c9be5cdaa611f6d764cc7da68669c95a9043fee8", func := "wicket/wicketlaw07.TableMeanwhile", spec := "tableMeanwhile", inPlace := ["internal/bytealg.Compare"], unfollowed := true, recurses := true, apart := false }
def TableMeanwhileSaid : Prop := tableMeanwhileRow.holds Try.pinned (OpenSpec.ofChange tableMeanwhileSpec)

/-- ITS FALSE NEIGHBOUR: 'it returns false'. Refute it at one input. -/
def tableMeanwhileWrong : ChangeSpec := { name := "tableMeanwhile", fn := fun _ => fun
  | [d1, d2, d3] => { results := [.lit (.bool false)], args := [d1, d2, d3] }
  | _ => none }
def TableMeanwhileWrongFalsely : Prop := tableMeanwhileRow.holds Try.pinned (OpenSpec.ofChange tableMeanwhileWrong)

/-- 'wicketlaw07.TableSteps': WHATEVER THE INPUT: true; the input reads as it did. -/
def tableStepsSpec : ChangeSpec := { name := "tableSteps", fn := fun _ => fun
  | [d1, d2] => { results := [.lit (.bool true)], args := [d1, d2] }
  | _ => none }
def tableStepsRow : OpenClaim := { program := "ytnghfnpmbjnjeaa", sum := "18c6e8d330aee42d4dd35dc7c9be5cdaa611f6d764cc7da68669c95a9043fee8", func := "wicket/wicketlaw07.TableSteps", spec := "tableSteps", inPlace := ["internal/bytealg.Compare"], unfollowed := true, recurses := true, apart := false }
def TableStepsSaid : Prop := tableStepsRow.holds Try.pinned (OpenSpec.ofChange tableStepsSpec)

/-- ITS FALSE NEIGHBOUR: 'it returns false'. Refute it at one input. -/
def tableStepsWrong : ChangeSpec := { name := "tableSteps", fn := fun _ => fun
  | [d1, d2] => { results := [.lit (.bool false)], args := [d1, d2] }
  | _ => none }
def TableStepsWrongFalsely : Prop := tableStepsRow.holds Try.pinned (OpenSpec.ofChange tableStepsWrong)

/-- 'wicketlaw07.TableNil': WHATEVER THE INPUT: true; the input reads as it did. -/
def tableNilSpec : ChangeSpec := { name := "tableNil", fn := fun _ => fun
  | [] => { results := [.lit (.bool true)], args := [] }
  | _ => none }
def tableNilRow : OpenClaim := { program := "ytnghfnpmbjnjeaa", sum := "18c6e8d330aee42d4dd35dc7c9be5cdaa611f6d764cc7da68669c95a9043fee8", func := "wicket/wicketlaw07.TableNil", spec := "tableNil", inPlace := ["internal/bytealg.Compare"], unfollowed := true, recurses := true, apart := false }
def TableNilSaid : Prop := tableNilRow.holds Try.pinned (OpenSpec.ofChange tableNilSpec)

/-- ITS FALSE NEIGHBOUR: 'it returns false'. Refute it at one input. -/
def tableNilWrong : ChangeSpec := { name := "tableNil", fn := fun _ => fun
  | [] => { results := [.lit (.bool false)], args := [] }
  | _ => none }
def TableNilWrongFalsely : Prop := tableNilRow.holds Try.pinned (OpenSpec.ofChange tableNilWrong)

/- THE SECOND FORM. 'bulk': how many values and letters a reading holds, each counted each time it is reached (what is shared counts as often as it is met; a slice's spare places count too). A statement '..UptoSaid' is the law's where the arguments, and the package variables that the reading takes, are together of bulk at most 1048576: NARROWER than '..Said'. Prove '..Said' where nothing that the law and all that it calls make is longer than what came in: it says more and counts as full. Else prove '..UptoSaid'. A law counts once. -/
mutual
def uptoBulk {H : Type} : DataW H → Nat
  | .lit (.string bytes) => bytes.length + 1
  | .lit _ => 1
  | .nil => 1
  | .ptr d => uptoBulk d + 1
  | .slice elems spare => uptoBulkAll elems + uptoBulkAll spare + 1
  | .agg parts => uptoBulkAll parts + 1
  | .iface _ d => uptoBulk d + 1
  | .map entries => uptoBulkEntries entries + 1
  | .held _ => 1
def uptoBulkAll {H : Type} : List (DataW H) → Nat
  | [] => 0
  | d :: r => uptoBulk d + uptoBulkAll r
def uptoBulkEntries {H : Type} : List (Lit × DataW H) → Nat
  | [] => 0
  | x :: r => uptoBulkEntry x + uptoBulkEntries r
def uptoBulkEntry {H : Type} : Lit × DataW H → Nat
  | (.string bytes, d) => bytes.length + uptoBulk d + 1
  | (_, d) => uptoBulk d + 1
 end
def uptoSmall : (H : Type) → List (DataW H) → Bool := fun _ ds => decide (uptoBulkAll ds ≤ 1048576)
def OpenSpec.upto (s : _root_.Go.ChangeSpec) : _root_.Go.OpenSpec := { _root_.Go.OpenSpec.ofChange s with cond := some uptoSmall }

/-- 'wicketlaw05.NamesRanges', WHERE WHAT IT READS IS OF BULK AT MOST 1048576: true; the input reads as it did. -/
def namesRangesUptoRow : OpenClaim := { program := "ytnghfnpmbjnjeaa", sum := "18c6e8d330aee42d4dd35dc7c9be5cdaa611f6d764cc7da68669c95a9043fee8", func := "wicket/wicketlaw05.NamesRanges", spec := "namesRanges", inPlace := ["internal/bytealg.Compare"], apart := false, narrowed := true }
def NamesRangesUptoSaid : Prop := namesRangesUptoRow.holds Try.pinned (OpenSpec.upto namesRangesSpec)

/-- 'wicketlaw05.NamesOrder', WHERE WHAT IT READS IS OF BULK AT MOST 1048576: true; the input reads as it did. -/
def namesOrderUptoRow : OpenClaim := { program := "ytnghfnpmbjnjeaa", sum := "18c6e8d330aee42d4dd35dc7c9be5cdaa611f6d764cc7da68669c95a9043fee8", func := "wicket/wicketlaw05.NamesOrder", spec := "namesOrder", inPlace := ["internal/bytealg.Compare"], apart := false, narrowed := true }
def NamesOrderUptoSaid : Prop := namesOrderUptoRow.holds Try.pinned (OpenSpec.upto namesOrderSpec)

/-- 'wicketlaw05.NamesKinds', WHERE WHAT IT READS IS OF BULK AT MOST 1048576: true; the input reads as it did. -/
def namesKindsUptoRow : OpenClaim := { program := "ytnghfnpmbjnjeaa", sum := "18c6e8d330aee42d4dd35dc7c9be5cdaa611f6d764cc7da68669c95a9043fee8", func := "wicket/wicketlaw05.NamesKinds", spec := "namesKinds", inPlace := ["internal/bytealg.Compare"], apart := false, narrowed := true }
def NamesKindsUptoSaid : Prop := namesKindsUptoRow.holds Try.pinned (OpenSpec.upto namesKindsSpec)

/-- 'wicketlaw07.TableHalves', WHERE WHAT IT READS IS OF BULK AT MOST 1048576: true; the input reads as it did. -/
def tableHalvesUptoRow : OpenClaim := { program := "ytnghfnpmbjnjeaa", sum := "18c6e8d330aee42d4dd35dc7c9be5cdaa611f6d764cc7da68669c95a9043fee8", func := "wicket/wicketlaw07.TableHalves", spec := "tableHalves", inPlace := ["internal/bytealg.Compare"], unfollowed := true, recurses := true, apart := false, narrowed := true }
def TableHalvesUptoSaid : Prop := tableHalvesUptoRow.holds Try.pinned (OpenSpec.upto tableHalvesSpec)

/-- 'wicketlaw07.TableMeanwhile', WHERE WHAT IT READS IS OF BULK AT MOST 1048576: true; the input reads as it did. -/
def tableMeanwhileUptoRow : OpenClaim := { program := "ytnghfnpmbjnjeaa", sum := "18c6e8d330aee42d4dd35dc7c9be5cdaa611f6d764cc7da68669c95a9043fee8", func := "wicket/wicketlaw07.TableMeanwhile", spec := "tableMeanwhile", inPlace := ["internal/bytealg.Compare"], unfollowed := true, recurses := true, apart := false, narrowed := true }
def TableMeanwhileUptoSaid : Prop := tableMeanwhileUptoRow.holds Try.pinned (OpenSpec.upto tableMeanwhileSpec)

/-- 'wicketlaw07.TableSteps', WHERE WHAT IT READS IS OF BULK AT MOST 1048576: true; the input reads as it did. -/
def tableStepsUptoRow : OpenClaim := { program := "ytnghfnpmbjnjeaa", sum := "18c6e8d330aee42d4dd35dc7c9be5cdaa611f6d764cc7da68669c95a9043fee8", func := "wicket/wicketlaw07.TableSteps", spec := "tableSteps", inPlace := ["internal/bytealg.Compare"], unfollowed := true, recurses := true, apart := false, narrowed := true }
def TableStepsUptoSaid : Prop := tableStepsUptoRow.holds Try.pinned (OpenSpec.upto tableStepsSpec)

/-- 'wicketlaw07.TableNil', WHERE WHAT IT READS IS OF BULK AT MOST 1048576: true; the input reads as it did. -/
def tableNilUptoRow : OpenClaim := { program := "ytnghfnpmbjnjeaa", sum := "18c6e8d330aee42d4dd35dc7c9be5cdaa611f6d764cc7da68669c95a9043fee8", func := "wicket/wicketlaw07.TableNil", spec := "tableNil", inPlace := ["internal/bytealg.Compare"], unfollowed := true, recurses := true, apart := false, narrowed := true }
def TableNilUptoSaid : Prop := tableNilUptoRow.holds Try.pinned (OpenSpec.upto tableNilSpec)

end Rows
end Go.Proofs.Ytnghfnpmbjnjeaa
