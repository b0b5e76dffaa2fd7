/- wicketlaw03.DiskNil answers true. Conditions: none. -/
import Derived.Test.YtapgcglpkilofaaDiskTells
namespace Go.Proofs.Ytapgcglpkilofaa
open Go.RowKit

set_option maxHeartbeats 8000000 in
set_option maxRecDepth 100000 in
theorem diskNil_walk (w : World) : Calls Try.prog 5 #[] w fun e w' => e = .returned (.bool true) ∧ Below w.heap.size w w' := by
  obtain ⟨W0, hW0⟩ : ∃ W, (w.alloc (.cells #[.int .i64 0, .slice none 0 0, .int .i64 0, .slice none 0 0, .bool false, .slice none 0 0, .bool false, .int .i64 0, .int .i64 0] 54)).alloc (.cells #[.pointer none, .pointer (some ⟨w.heap.size, 0, none⟩)] 28) = W := ⟨_, rfl⟩
  have hB : Below w.heap.size w W0 := by
    rw [← hW0]
    exact ((Below.refl _ w).alloc (Nat.le_refl _) _).alloc (by simp) _
  have g0 : W0.cell? ⟨w.heap.size, 0, none⟩ = some (.int .i64 0) := by
    rw [← hW0]
    exact (((Blk.new w 54 _).alloc _).cell 0).trans rfl
  have hk : Blk W0 (w.heap.size + 1) 28 #[.pointer none, .pointer (some ⟨w.heap.size, 0, none⟩)] := by
    rw [← hW0]
    have := Blk.new (w.alloc (.cells #[.int .i64 0, .slice none 0 0, .int .i64 0, .slice none 0 0, .bool false, .slice none 0 0, .bool false, .int .i64 0, .int .i64 0] 54)) 28 #[.pointer none, .pointer (some ⟨w.heap.size, 0, none⟩)]
    simpa using this
  have l0 := (hk.cell 0).trans rfl
  have l1 := (hk.cell 1).trans rfl
  go_enter Try.func5, Try.ntmps5
  go_wp2
  go_loopw [3] (fun iv wr => ∃ k m : Nat, k ≤ 2 ∧ iv = .int .i64 k ∧ wr = W0.drewN m) (fun iv _ => 2 - (intOf iv).toNat)
  case atStart => exact ⟨0, 0, by omega, rfl, rfl⟩
  case round =>
    obtain ⟨k, m, hk2, rfl, hw⟩ := hrel
    subst hw
    obtain rfl | rfl | rfl : k = 0 ∨ k = 1 ∨ k = 2 := by omega
    · have hG : Gone (W0.drewN m) none := .inl rfl
      have a1 := writeNo _ _ hG none 0 0
      have a2 := syncNo _ _ hG
      have a3 := trimNo _ _ hG 0
      have a4 := dropNo _ _ hG (-1)
      have a5 := putNo _ _ hG none 0 0
      have a6 := switchNo _ _ hG
      have a7 := stopNo _ _ hG 3
      have a8 := copyNo _ _ hG
      have a9 := tellsNo _ _ hG
      go_wp2_with (first
        | (go_at_call 19; refine a1.mono ?_; clear a1; rintro e w3 ⟨rfl, rfl⟩)
        | (go_at_call 18; refine a2.mono ?_; clear a2; rintro e w3 ⟨rfl, rfl⟩)
        | (go_at_call 20; refine a3.mono ?_; clear a3; rintro e w3 ⟨rfl, rfl⟩)
        | (go_at_call 21; refine a4.mono ?_; clear a4; rintro e w3 ⟨rfl, rfl⟩)
        | (go_at_call 17; refine a5.mono ?_; clear a5; rintro e w3 ⟨rfl, rfl⟩)
        | (go_at_call 22; refine a6.mono ?_; clear a6; rintro e w3 ⟨rfl, rfl⟩)
        | (go_at_call 14; refine a7.mono ?_; clear a7; rintro e w3 ⟨rfl, rfl⟩)
        | (go_at_call 23; refine a8.mono ?_; clear a8; rintro e w3 ⟨rfl, rfl⟩)
        | (go_at_call 10; refine a9.mono ?_; clear a9; rintro e w3 ⟨rfl, n3, rfl⟩))
      go_roundw
      case rel => exact ⟨1, m + n3, by omega, rfl, rfl⟩
      case measure => simp [intOf]
    · have hG : Gone (W0.drewN m) (some ⟨w.heap.size, 0, none⟩) := .inr ⟨_, rfl, g0⟩
      have a1 := writeNo _ _ hG none 0 0
      have a2 := syncNo _ _ hG
      have a3 := trimNo _ _ hG 0
      have a4 := dropNo _ _ hG (-1)
      have a5 := putNo _ _ hG none 0 0
      have a6 := switchNo _ _ hG
      have a7 := stopNo _ _ hG 3
      have a8 := copyNo _ _ hG
      have a9 := tellsNo _ _ hG
      go_wp2_with (first
        | (go_at_call 19; refine a1.mono ?_; clear a1; rintro e w3 ⟨rfl, rfl⟩)
        | (go_at_call 18; refine a2.mono ?_; clear a2; rintro e w3 ⟨rfl, rfl⟩)
        | (go_at_call 20; refine a3.mono ?_; clear a3; rintro e w3 ⟨rfl, rfl⟩)
        | (go_at_call 21; refine a4.mono ?_; clear a4; rintro e w3 ⟨rfl, rfl⟩)
        | (go_at_call 17; refine a5.mono ?_; clear a5; rintro e w3 ⟨rfl, rfl⟩)
        | (go_at_call 22; refine a6.mono ?_; clear a6; rintro e w3 ⟨rfl, rfl⟩)
        | (go_at_call 14; refine a7.mono ?_; clear a7; rintro e w3 ⟨rfl, rfl⟩)
        | (go_at_call 23; refine a8.mono ?_; clear a8; rintro e w3 ⟨rfl, rfl⟩)
        | (go_at_call 10; refine a9.mono ?_; clear a9; rintro e w3 ⟨rfl, n3, rfl⟩))
      go_roundw
      case rel => exact ⟨2, m + n3, by omega, rfl, rfl⟩
      case measure => simp [intOf]
    · have hB2 := below_drewN hB m
      go_wp2_with (go_at_call 12; refine (known_any _).mono ?_; rintro e w3 ⟨rfl, b3⟩)
      go_ret
      exact ⟨rfl, hB2.trans (b3.mono hB2.size)⟩
end Go.Proofs.Ytapgcglpkilofaa
