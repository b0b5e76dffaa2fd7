/- A region that draws its order, whose head ends in ONE call that turns the world, and whose tail only reads or lays new blocks. Conditions: those that each states. -/
import Derived.Test.YtmdohddiddlpiaaWords
import Derived.Lib.QuietBelow
import Derived.RegionTactic
namespace Go.Proofs.Ytmdohddiddlpiaa
open Go Go.Sort Go.RowKit

section
variable {P : Program} {ops : Array Oper} {md : Region.Mode} {C : World → Prop}
/-- Where one operation alone may come up. -/
theorem wpAny_one {Q : Exit → Act → World → Prop} {i : Nat} {o : Oper} {fuel : Nat} {listed : Array Bool} {a : Act} {w : World} (hr : Region.ready md ops listed = [i]) (ho : ops[i]? = some o)
    (h : ∀ K' : Act → World → Prop, (∀ a w, wpAny P md ops Q fuel (listed.setIfInBounds i true) a w → K' a w) → if Region.wanted o (yielded ops a.tmps) = true then Oper.wp P o a w K' Q else K' (a.put o.dst undef) w) : wpAny P md ops Q (fuel + 1) listed a w :=
  wpAny_ready hr (by simp) (AllReady.cons ho h AllReady.nil)
/-- What is left of a region only reads: one walk of the text's order. -/
theorem wpAny_tail {Q : Exit → Act → World → Prop} {l : List Oper} {k fuel : Nat} {listed : Array Bool} {a : Act} {w : World} (hf : fuel = l.length) (hl : ∀ j, l[j]? = ops[k + j]?) (hs : Region.noSelect ops = true) (hB : Region.lexFrom md ops l.length k listed = true)
    (hC : C w) (h : wpQuiet P ops C (fun a' => ∀ w', C w' → Q .normal a' w') l a) : wpAny P md ops Q fuel listed a w := by
  subst hf
  exact wpAny_of_quiet (Q := fun a' => ∀ w', C w' → Q .normal a' w') (fun _ w' hw' h => h w' hw') _ _ _ _ hC (wpAnyQ_lex (C := C) hs l k listed a hl hB h)
theorem wpAny_tail7 {Q : Exit → Act → World → Prop} {o0 o1 o2 o3 o4 o5 o6 : Oper} {l : List Oper} {fuel : Nat} {listed : Array Bool} {a : Act} {w : World} (hf : fuel = l.length) (hs : Region.noSelect (o0 :: o1 :: o2 :: o3 :: o4 :: o5 :: o6 :: l).toArray = true)
    (hB : Region.lexFrom md (o0 :: o1 :: o2 :: o3 :: o4 :: o5 :: o6 :: l).toArray l.length 7 listed = true)
    (h : wpQuiet P (o0 :: o1 :: o2 :: o3 :: o4 :: o5 :: o6 :: l).toArray (fun w' => ∃ p : Regrown, w' = grow (redrawn w p.d) p.os) (fun a' => ∀ w', (∃ p : Regrown, w' = grow (redrawn w p.d) p.os) → Q .normal a' w') l a) :
    wpAny P md (o0 :: o1 :: o2 :: o3 :: o4 :: o5 :: o6 :: l).toArray Q fuel listed a w :=
  wpAny_tail (C := fun w' => ∃ p : Regrown, w' = grow (redrawn w p.d) p.os) (k := 7) hf (fun j => by simp [Nat.add_comm 7 j]) hs hB ⟨⟨w.drawn, #[]⟩, by rw [grow_empty]; rfl⟩ h
/-- An operation that is passed over by its guard. -/
theorem wpQuiet_skip {Q : Act → Prop} {a : Act} {o : Oper} {rest : List Oper} (hw : Region.wanted o (yielded ops a.tmps) = false) (h : wpQuiet P ops C Q rest (a.put o.dst undef)) : wpQuiet P ops C Q (o :: rest) a := by
  unfold wpQuiet
  rw [hw]
  exact h
end
section
variable {P : Program} {f : FuncId} {args : Array Value} {w : World} {d : Nat} {os : Array Obj} {v : Value}
theorem regrown_same (h : Calls P f args (grow (redrawn w d) os) fun e w' => e = .returned v ∧ grow (redrawn w d) os = w') : Calls P f args (grow (redrawn w d) os) fun e w'' => e = .returned v ∧ ∃ p : Regrown, w'' = grow (redrawn w p.d) p.os :=
  h.mono fun _ _ ⟨he, hb⟩ => ⟨he, ⟨d, os⟩, hb.symm⟩
theorem regrown_drewN (h : Calls P f args (grow (redrawn w d) os) fun e w' => e = .returned v ∧ ∃ k, w' = (grow (redrawn w d) os).drewN k) : Calls P f args (grow (redrawn w d) os) fun e w'' => e = .returned v ∧ ∃ p : Regrown, w'' = grow (redrawn w p.d) p.os :=
  h.mono fun _ _ ⟨he, k, hb⟩ => ⟨he, regrown_of_below (by rw [hb]; exact below_drewN (below_regrown w d os) k)⟩
end
end Go.Proofs.Ytmdohddiddlpiaa
