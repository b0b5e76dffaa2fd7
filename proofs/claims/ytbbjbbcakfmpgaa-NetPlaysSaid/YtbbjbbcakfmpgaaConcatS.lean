/- slices.Grow of nil and slices.Concat of two, at []int; Take, Twin of Net[string]. Conditions: those that each states. -/
import Derived.Test.YtbbjbbcakfmpgaaNetS
import Derived.Lib.AppendZeros
import Derived.LoopTactic
import Derived.Deep.RegionHeld3
import Derived.Deep.DrawnRows
namespace Go.Proofs.Ytbbjbbcakfmpgaa
open Go.RowKit

set_option maxHeartbeats 800000 in
theorem growS (w : World) (n : Nat) (hn : n ≤ 65536) :
    Calls Try.prog 41 #[.slice none 0 0, .int .i64 n] w fun e w' => ∃ v, e = .returned v ∧ w'.ownsRow w.heap.size 9 1 v 0 [] ∧ Below w.heap.size w w' := by
  obtain ⟨i0, hi, hz0, hz1, hz2⟩ := info_parts Try.info9s
  by_cases h0 : n = 0
  · subst h0
    go_enter Try.func41, Try.ntmps41
    go_wp2
    go_ret
    exact ⟨_, rfl, World.ownsRow_nil _ _ _ _, Below.refl _ _⟩
  · have hp : (0 : Int) < (n : Int) := by omega
    have hneg : ¬ ((n : Int) < 0) := by omega
    have hr := Lib.run_append_nil_zeros (P := Try.prog) w 38 3 38 9 i0 (.string ⟨#[]⟩) .i64 .i64 Try.underlying38 Try.underlying3 hi hz0 n (by omega) (by omega) (by omega) (by rw [hz2]; omega)
    go_enter Try.func41, Try.ntmps41
    go_wp2_with (at_builtin; refine Lib.wpList_append_run _ rfl _ _ _ _ rfl _ _ rfl rfl _ _ hr ?_)
    go_ret
    refine ⟨_, rfl, World.ownsRow_made w.drew _ _ (Nat.le_refl _) (grownCap_le_maxLen w n 0 9 (by unfold maxLen; omega)) ?_, (Below.refl w.heap.size w).drew.alloc (Nat.le_refl _) _⟩
    have := grownCap_ge w n 0 9
    simp [size_zeroCells, Value.cells]
    omega

theorem growS_int (w : World) (n : Int) (h0 : 0 ≤ n) (hn : n ≤ 65536) :
    Calls Try.prog 41 #[.slice none 0 0, .int .i64 n] w fun e w' => ∃ v, e = .returned v ∧ w'.ownsRow w.heap.size 9 1 v 0 [] ∧ Below w.heap.size w w' := by
  obtain ⟨m, rfl⟩ := Int.eq_ofNat_of_zero_le h0
  exact growS w m (by omega)

set_option maxHeartbeats 1000000 in
set_option maxRecDepth 100000 in
theorem concatS (w : World) (g B : Nat) (A1 A2 : Option Addr) (c1 c2 : Nat) (xs ys : List ByteArray) (hs : Blk w g 38 #[.slice A1 xs.length c1, .slice A2 ys.length c2])
    (h1 : Reads w B 1 A1 xs.length (strs xs)) (h2 : Reads w B 1 A2 ys.length (strs ys)) (hl : xs.length + ys.length ≤ 65536) (hB : B ≤ w.heap.size) :
    Calls Try.prog 34 #[.slice (some ⟨g, 0, none⟩) 2 2] w fun e w' => ∃ v, e = .returned v ∧ w'.ownsRow w.heap.size 9 1 v (xs.length + ys.length) (strs (xs ++ ys)) ∧ Below w.heap.size w w' := by
  have d0 : w.cell? ⟨g, 0, none⟩ = some (.slice A1 xs.length c1) := (hs.cell 0).trans rfl
  have d1 : w.cell? ⟨g, 1, none⟩ = some (.slice A2 ys.length c2) := (hs.cell 1).trans rfl
  obtain ⟨i0, hi, hz0, hz1, hz2⟩ := info_parts Try.info9s
  go_enter Try.func34, Try.ntmps34
  go_wp2
  refine wp_loop_rounds 3 ?_
  rw [rounds_succ]
  go_wp2
  rw [rounds_succ]
  go_wp2
  rw [rounds_succ]
  go_wp2_with (go_at_call 41; refine (growS_int _ _ (by omega) (by omega)).mono ?_; rintro e w1 ⟨v, rfl, hown, hb1⟩)
  have k0 : w1.cell? ⟨g, 0, none⟩ = some (.slice A1 xs.length c1) := (hb1.cell (p := ⟨g, 0, none⟩) hs.lt).trans d0
  have k1 : w1.cell? ⟨g, 1, none⟩ = some (.slice A2 ys.length c2) := (hb1.cell (p := ⟨g, 1, none⟩) hs.lt).trans d1
  have r1 := h1.below (hb1.mono hB)
  refine wp_loop_rounds 3 ?_
  rw [rounds_succ]
  go_wp2_with (at_builtin; refine wpList_append_any _ rfl _ _ 38 rfl w.heap.size 9 i0 (.string ⟨#[]⟩) 1 16 Try.underlying38 hi hz0 hz1 hz2 rfl (by decide) _ _ _ rfl hown B A1 xs.length c1 (strs xs) rfl r1 ?c1 ?c2 ?c3 ?c4 ?_)
  case c1 => exact strs_one xs
  case c2 => unfold maxLen; omega
  case c3 => omega
  case c4 => exact hb1.size
  intro v2 w2 hown2 hg2 _
  have hb2 : Below w.heap.size w w2 := hb1.grown hg2 hb1.size (own_base hown)
  have m1 : w2.cell? ⟨g, 1, none⟩ = some (.slice A2 ys.length c2) := (hb2.cell (p := ⟨g, 1, none⟩) hs.lt).trans d1
  have r2 := h2.below (hb2.mono hB)
  clear k0 k1 r1
  go_wp2
  rw [rounds_succ]
  go_wp2_with (at_builtin; refine wpList_append_any _ rfl _ _ 38 rfl w.heap.size 9 i0 (.string ⟨#[]⟩) 1 16 Try.underlying38 hi hz0 hz1 hz2 rfl (by decide) _ _ _ rfl hown2 B A2 ys.length c2 (strs ys) rfl r2 ?c1 ?c2 ?c3 ?c4 ?_)
  case c1 => exact strs_one ys
  case c2 => unfold maxLen; omega
  case c3 => omega
  case c4 => exact hb2.size
  intro v3 w3 hown3 hg3 _
  go_wp2
  rw [rounds_succ]
  go_wp2
  go_ret
  refine ⟨v3, rfl, ?_, hb2.grown hg3 hb2.size (own_base hown2)⟩
  simpa [strs_append] using hown3

end Go.Proofs.Ytbbjbbcakfmpgaa
