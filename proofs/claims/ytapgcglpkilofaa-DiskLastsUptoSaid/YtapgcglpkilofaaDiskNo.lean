/- A disk that is not there, the program's and the document's: what each function answers. Conditions: those that each states. -/
import Derived.Test.YtapgcglpkilofaaDiskOf
namespace Go.Proofs.Ytapgcglpkilofaa
open Go.RowKit

section
variable (w : World) (A : Option Addr) (h : Gone w A)
include h
theorem writeNo (X : Option Addr) (n c : Nat) : Calls Try.prog 19 #[.pointer A, .slice X n c] w fun e w' => e = .returned (.int .i64 1) ∧ w = w' := by
  have ht := thereNo w A h
  clear h
  go_enter Try.func19, Try.ntmps19
  go_wp2_with (go_at_call 41; refine ht.mono ?_; clear ht; rintro e w' ⟨rfl, rfl⟩)
  go_ret
  exact ⟨rfl, rfl⟩
theorem syncNo : Calls Try.prog 18 #[.pointer A] w fun e w' => e = .returned (.int .i64 1) ∧ w = w' := by
  have ht := thereNo w A h
  clear h
  go_enter Try.func18, Try.ntmps18
  go_wp2_with (go_at_call 41; refine ht.mono ?_; clear ht; rintro e w' ⟨rfl, rfl⟩)
  go_ret
  exact ⟨rfl, rfl⟩
theorem trimNo (z : Int) : Calls Try.prog 20 #[.pointer A, .int .i64 z] w fun e w' => e = .returned (.int .i64 1) ∧ w = w' := by
  have ht := thereNo w A h
  clear h
  go_enter Try.func20, Try.ntmps20
  go_wp2_with (go_at_call 41; refine ht.mono ?_; clear ht; rintro e w' ⟨rfl, rfl⟩)
  go_ret
  exact ⟨rfl, rfl⟩
theorem dropNo (z : Int) : Calls Try.prog 21 #[.pointer A, .int .i64 z] w fun e w' => e = .returned (.int .i64 1) ∧ w = w' := by
  have ht := thereNo w A h
  clear h
  go_enter Try.func21, Try.ntmps21
  go_wp2_with (go_at_call 41; refine ht.mono ?_; clear ht; rintro e w' ⟨rfl, rfl⟩)
  go_ret
  exact ⟨rfl, rfl⟩
theorem putNo (X : Option Addr) (n c : Nat) : Calls Try.prog 17 #[.pointer A, .slice X n c] w fun e w' => e = .returned (.int .i64 1) ∧ w = w' := by
  have ht := thereNo w A h
  clear h
  go_enter Try.func17, Try.ntmps17
  go_wp2_with (go_at_call 41; refine ht.mono ?_; clear ht; rintro e w' ⟨rfl, rfl⟩)
  go_ret
  exact ⟨rfl, rfl⟩
theorem switchNo : Calls Try.prog 22 #[.pointer A] w fun e w' => e = .returned (.int .i64 1) ∧ w = w' := by
  have ht := thereNo w A h
  clear h
  go_enter Try.func22, Try.ntmps22
  go_wp2_with (go_at_call 41; refine ht.mono ?_; clear ht; rintro e w' ⟨rfl, rfl⟩)
  go_ret
  exact ⟨rfl, rfl⟩
theorem stopNo (z : Int) : Calls Try.prog 14 #[.pointer A, .int .i64 z] w fun e w' => e = .returned (.pointer none) ∧ w = w' := by
  have ht := thereNo w A h
  clear h
  go_enter Try.func14, Try.ntmps14
  go_wp2_with (go_at_call 41; refine ht.mono ?_; clear ht; rintro e w' ⟨rfl, rfl⟩)
  go_ret
  exact ⟨rfl, rfl⟩
theorem copyNo : Calls Try.prog 23 #[.pointer A] w fun e w' => e = .returned (.pointer none) ∧ w = w' := by
  have ht := thereNo w A h
  clear h
  go_enter Try.func23, Try.ntmps23
  go_wp2_with (go_at_call 41; refine ht.mono ?_; clear ht; rintro e w' ⟨rfl, rfl⟩)
  go_ret
  exact ⟨rfl, rfl⟩
end
theorem writeRNo (w : World) (X : Option Addr) (n c : Nat) : Calls Try.prog 32 #[.pointer none, .slice X n c] w fun e w' => e = .returned (.int .i64 1) ∧ w = w' := by
  go_enter Try.func32, Try.ntmps32
  go_wp2
  go_ret
  exact ⟨rfl, rfl⟩
theorem syncRNo (w : World) : Calls Try.prog 34 #[.pointer none] w fun e w' => e = .returned (.int .i64 1) ∧ w = w' := by
  go_enter Try.func34, Try.ntmps34
  go_wp2
  go_ret
  exact ⟨rfl, rfl⟩
theorem trimRNo (w : World) (z : Int) : Calls Try.prog 35 #[.pointer none, .int .i64 z] w fun e w' => e = .returned (.int .i64 1) ∧ w = w' := by
  go_enter Try.func35, Try.ntmps35
  go_wp2
  go_ret
  exact ⟨rfl, rfl⟩
theorem dropRNo (w : World) (z : Int) : Calls Try.prog 36 #[.pointer none, .int .i64 z] w fun e w' => e = .returned (.int .i64 1) ∧ w = w' := by
  go_enter Try.func36, Try.ntmps36
  go_wp2
  go_ret
  exact ⟨rfl, rfl⟩
theorem putRNo (w : World) (X : Option Addr) (n c : Nat) : Calls Try.prog 33 #[.pointer none, .slice X n c] w fun e w' => e = .returned (.int .i64 1) ∧ w = w' := by
  go_enter Try.func33, Try.ntmps33
  go_wp2
  go_ret
  exact ⟨rfl, rfl⟩
theorem switchRNo (w : World) : Calls Try.prog 37 #[.pointer none] w fun e w' => e = .returned (.int .i64 1) ∧ w = w' := by
  go_enter Try.func37, Try.ntmps37
  go_wp2
  go_ret
  exact ⟨rfl, rfl⟩
theorem stopRNo (w : World) (z : Int) : Calls Try.prog 38 #[.pointer none, .int .i64 z] w fun e w' => e = .returned (.pointer none) ∧ w = w' := by
  go_enter Try.func38, Try.ntmps38
  go_wp2
  go_ret
  exact ⟨rfl, rfl⟩
theorem copyRNo (w : World) : Calls Try.prog 39 #[.pointer none] w fun e w' => e = .returned (.pointer none) ∧ w = w' := by
  go_enter Try.func39, Try.ntmps39
  go_wp2
  go_ret
  exact ⟨rfl, rfl⟩

theorem new_any (w : World) (cap : Nat) (h1 : 1 ≤ cap) (h2 : cap ≤ 1048576) : Calls Try.prog 40 #[.int .i64 cap] w fun e w' => LaidP w (ofS cap [] []) e w' := by
  have hc := ofP w w.heap.size cap none 0 0 [] none 0 0 [] (Nat.le_refl _) Reads.none_ (fun c hc => by simp at hc) (by omega) ⟨rfl, fun k hk => absurd hk (by simp)⟩ (fun l hl => by simp at hl) h1 h2 (by omega)
  go_enter Try.func40, Try.ntmps40
  go_wp2_with (go_at_call 7; refine hc.mono ?_; clear hc; rintro e w' ⟨q, S', rfl, a1, a2, a3⟩)
  go_ret2
  exact ⟨q, S', rfl, a1, a2, a3⟩
end Go.Proofs.Ytapgcglpkilofaa
