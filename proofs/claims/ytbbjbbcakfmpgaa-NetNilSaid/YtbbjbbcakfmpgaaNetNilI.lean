/- Nets of ints that are not there: what each function answers; what a going over tells. Conditions: those that each states. -/
import Derived.Test.YtbbjbbcakfmpgaaKnownB
import Derived.Test.YtbbjbbcakfmpgaaSeq
namespace Go.Proofs.Ytbbjbbcakfmpgaa
open Go.RowKit Go.Shelf
attribute [local go_sem] Oper.semAt_some

/-- A net that is not there: nil, or a zero one. -/
def NoNet (w : World) (A : Option Addr) : Prop := A = none ∨ ∃ b, A = some ⟨b, 0, none⟩ ∧ Blk w b 49 #[.slice none 0 0, .int .i64 0, .bool false]
theorem NoNet.below {w w' : World} {A : Option Addr} (h : NoNet w A) (hb : Below w.heap.size w w') : NoNet w' A := by
  rcases h with h | ⟨r, e, hk⟩
  · exact .inl h
  · exact .inr ⟨r, e, hk.below hb hk.lt⟩
section
variable {w : World} {A : Option Addr}
theorem no_there (h : NoNet w A) : Calls Try.prog 31 #[.pointer A] w fun e w' => e = .returned (.bool false) ∧ w = w' := by
  rcases h with rfl | ⟨r, rfl, hb⟩
  · exact there_none w
  · exact there_some w r false ((hb.cell 2).trans rfl)
theorem no_at (z : Int) (h : NoNet w A) : Calls Try.prog 26 #[.pointer A, .int .i64 z] w fun e w' => e = .returned (.tuple #[.int .i64 0, .int .i64 1]) ∧ w = w' := by
  have ht := no_there h
  go_enter Try.func26, Try.ntmps26
  go_wp2_with (go_at_call 31; refine ht.mono ?_; clear ht; rintro e w' ⟨rfl, rfl⟩)
  go_ret2
  exact ⟨rfl, rfl⟩
theorem no_take (z : Int) (h : NoNet w A) : Calls Try.prog 11 #[.pointer A, .int .i64 z] w fun e w' => e = .returned (.tuple #[.int .i64 0, .int .i64 1]) ∧ w = w' := by
  have ht := no_at z h
  go_enter Try.func11, Try.ntmps11
  go_wp2_with (go_at_call 26; refine ht.mono ?_; clear ht; rintro e w' ⟨rfl, rfl⟩)
  go_ret2
  exact ⟨rfl, rfl⟩
theorem no_lose (z : Int) (h : NoNet w A) : Calls Try.prog 27 #[.pointer A, .int .i64 z] w fun e w' => e = .returned (.int .i64 1) ∧ w = w' := by
  have ht := no_take z h
  go_enter Try.func27, Try.ntmps27
  go_wp2_with (go_at_call 11; refine ht.mono ?_; clear ht; rintro e w' ⟨rfl, rfl⟩)
  go_ret
  exact ⟨rfl, rfl⟩
theorem no_twin (z : Int) (h : NoNet w A) : Calls Try.prog 10 #[.pointer A, .int .i64 z] w fun e w' => e = .returned (.int .i64 1) ∧ w = w' := by
  have ht := no_at z h
  go_enter Try.func10, Try.ntmps10
  go_wp2_with (go_at_call 26; refine ht.mono ?_; clear ht; rintro e w' ⟨rfl, rfl⟩)
  go_ret
  exact ⟨rfl, rfl⟩
theorem no_send (X : Option Addr) (n c : Nat) (h : NoNet w A) : Calls Try.prog 7 #[.pointer A, .slice X n c] w fun e w' => e = .returned (.int .i64 1) ∧ w = w' := by
  have ht := no_there h
  go_enter Try.func7, Try.ntmps7
  go_wp2_with (go_at_call 31; refine ht.mono ?_; clear ht; rintro e w' ⟨rfl, rfl⟩)
  go_ret
  exact ⟨rfl, rfl⟩
theorem no_len (h : NoNet w A) : Calls Try.prog 9 #[.pointer A] w fun e w' => e = .returned (.int .i64 0) ∧ w = w' := by
  have ht := no_there h
  go_enter Try.func9, Try.ntmps9
  go_wp2_with (go_at_call 31; refine ht.mono ?_; clear ht; rintro e w' ⟨rfl, rfl⟩)
  go_ret
  exact ⟨rfl, rfl⟩
theorem no_sent (h : NoNet w A) : Calls Try.prog 12 #[.pointer A] w fun e w' => e = .returned (.int .i64 0) ∧ w = w' := by
  have ht := no_there h
  go_enter Try.func12, Try.ntmps12
  go_wp2_with (go_at_call 31; refine ht.mono ?_; clear ht; rintro e w' ⟨rfl, rfl⟩)
  go_ret
  exact ⟨rfl, rfl⟩
theorem no_copy (h : NoNet w A) : Calls Try.prog 28 #[.pointer A] w fun e w' => e = .returned (.pointer none) ∧ w = w' := by
  have ht := no_there h
  go_enter Try.func28, Try.ntmps28
  go_wp2_with (go_at_call 31; refine ht.mono ?_; clear ht; rintro e w' ⟨rfl, rfl⟩)
  go_ret
  exact ⟨rfl, rfl⟩
theorem no_keep (h : NoNet w A) : Calls Try.prog 29 #[.pointer A, .nilFunc] w fun e w' => e = .returned (.int .i64 0) ∧ w = w' := by
  have ht := no_there h
  go_enter Try.func29, Try.ntmps29
  go_wp2_with (go_at_call 31; refine ht.mono ?_; clear ht; rintro e w' ⟨rfl, rfl⟩)
  go_ret
  exact ⟨rfl, rfl⟩
theorem no_all (h : NoNet w A) : Calls Try.prog 30 #[.pointer A] w fun e w' => e = .returned (.func (.func 38) #[] #[.pointer (some ⟨w.heap.size, 0, none⟩)]) ∧ w' = w.alloc (.cells #[.slice none 0 0] 22) := by
  have ht := no_there (h.below ((Below.refl _ w).alloc (Nat.le_refl _) (.cells #[.slice none 0 0] 22)))
  clear h
  go_enter Try.func30, Try.ntmps30
  go_wp2_with (go_at_call 31; refine ht.mono ?_; clear ht; rintro e w' ⟨rfl, rfl⟩)
  go_ret
  exact ⟨rfl, rfl⟩
theorem all_slice (w : World) : Calls Try.prog 39 #[.slice none 0 0] w fun e w' => e = .returned (.func (.func 44) #[] #[.pointer (some ⟨w.heap.size, 0, none⟩)]) ∧ w' = w.alloc (.cells #[.slice none 0 0] 22) := by
  go_enter Try.func39, Try.ntmps39
  go_wp2
  go_ret
  exact ⟨rfl, rfl⟩
end

def noEnc : Empty → Array Value := fun x => x.elim
def noTy : TypeId → Prop := fun _ => False
/-- Of an empty slice a going over tells nothing. -/
theorem seq44 (w : World) (Bn : Nat) (hB : w.cell? ⟨Bn, 0, none⟩ = some (.slice none 0 0)) (hBl : Bn < w.heap.size) (d : Nat) :
    SeqStopsK (α := Empty) Fence.wide d Try.prog 44 #[.pointer (some ⟨Bn, 0, none⟩)] noEnc (KpFrom noTy 0) (fun _ => True) (fun _ => True) 0 w := by
  intro L J Jx W hW hJ hJx hY h0
  have hBW : W.cell? ⟨Bn, 0, none⟩ = some (.slice none 0 0) := (hW.cell (p := ⟨Bn, 0, none⟩) hBl).trans hB
  clear hY
  refine callsIn_of_wp Try.func44 rfl trivial ?_ rfl
  simp only [Try.ntmps44, List.size_toArray, List.length_cons, List.length_nil, Nat.reduceAdd, Nat.reduceSub, Array.replicate_succ, Array.replicate_zero, List.push_toArray, List.append_toArray, List.nil_append, List.cons_append]
  gi_wp2
  gi_loopw [7] (fun nv wr => nv = .int .i64 0 ∧ wr = W) (fun _ _ => 0)
  case atStart => exact ⟨rfl, rfl⟩
  case round =>
    obtain ⟨rfl, rfl⟩ := hrel
    gi_wp2
    go_end0
    exact ⟨⟨_, rfl⟩, .inl ⟨[], trivial, h0⟩⟩
end Go.Proofs.Ytbbjbbcakfmpgaa
