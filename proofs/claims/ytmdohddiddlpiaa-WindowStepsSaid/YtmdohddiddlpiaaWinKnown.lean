/- wicketlaw17.known: it answers true. Conditions: none. -/
import Derived.Test.YtmdohddiddlpiaaWinBackS
import Derived.Test.YtmdohddiddlpiaaWinCopyS
namespace Go.Proofs.Ytmdohddiddlpiaa
open Go.RowKit

theorem num_any (w : World) (e : Int) : Calls Try.prog 10 #[.int .i64 e] w fun x w' => x = .returned (.int .i64 e) ∧ w = w' := by
  go_enter Try.func10, Try.ntmps10
  go_wp2
  go_ret
  exact ⟨rfl, rfl⟩

set_option maxHeartbeats 4000000 in
set_option maxRecDepth 100000 in
theorem knownWin (w : World) : Calls Try.prog 6 #[] w fun e w' => e = .returned (.bool true) ∧ Below w.heap.size w w' := by
  have n0 : Calls Try.prog 15 #[.int .i64 2] w _ := newYesS w 2 (by omega) (by omega)
  go_enter Try.func6, Try.ntmps6
  go_wp2_with (first
    | (go_at_call 15; refine n0.mono ?_; clear n0; rintro e w1 ⟨p, rfl, g, h1, hp, hg, b1⟩; have n1 := giveS w1 p g 2 2 _ _ 0 0 h1 ⟨#[97]⟩ (by omega) (by omega); clear h1)
    | (go_at_call 10; refine (num_any _ _).mono ?_; rintro e w' ⟨rfl, rfl⟩)
    | (go_at_call 27; refine n1.mono ?_; clear n1; rintro e w2 ⟨rfl, h2, f2⟩; have b2 := b1.trans (f2.below (fun k hk => by rcases hk with rfl | rfl <;> assumption) b1.size); clear b1 f2; have n2 := giveS w2 p g 2 2 _ _ 0 _ h2 ⟨#[98]⟩ (by omega) (by omega); clear h2)
    | (go_at_call 27; refine n2.mono ?_; clear n2; rintro e w3 ⟨rfl, h3, f3⟩; have b3 := b2.trans (f3.below (fun k hk => by rcases hk with rfl | rfl <;> assumption) b2.size); clear b2 f3; have n3 := giveFullS w3 p g 2 2 _ _ 0 _ h3 ⟨#[99]⟩ rfl)
    | (go_at_call 27; refine n3.mono ?_; clear n3; rintro e w4 ⟨rfl, i3, rfl⟩; have h4 := h3.drewN i3; have b4 := below_drewN b3 i3; clear h3 b3; have n4 : Calls Try.prog 28 #[.pointer (some ⟨p, 0, none⟩), .int .i64 2] _ (fun e w' => e = .returned (.tuple #[.string ⟨#[98]⟩, .int .i64 0]) ∧ _) := backYesS _ p g 2 2 _ _ 0 2 h4 2 0 (by decide) (by decide) rfl rfl; clear h4)
    | (go_at_call 28; refine n4.mono ?_; clear n4; rintro e w5 ⟨rfl, m5, q1, q2, q3, q4, h5, f5⟩; obtain rfl : m5 = 0 := (by rcases Nat.eq_zero_or_pos m5 with hm | hm; exact hm; exact absurd (q3 1 (by omega) hm) (by decide)); clear q1 q2 q3 q4; have b5 := b4.trans (f5.below (fun k hk => by rcases hk with rfl | rfl <;> assumption) b4.size); clear b4 f5; have n5 := markS w5 p g 2 2 _ _ 0 2 h5)
    | (go_at_call 19; refine n5.mono ?_; clear n5; rintro e w6 ⟨rfl, rfl⟩; have n6 := backNoS w5 p g 2 2 _ _ 0 2 h5 2 (fun hh => by have := hh.2.2; exact absurd this (by decide)))
    | (go_at_call 28; refine n6.mono ?_; clear n6; rintro e w6 ⟨rfl, i6, rfl⟩; have h6 := h5.drewN i6; have b6 := below_drewN b5 i6; clear h5 b5; have n7 := giveFullS _ p g 2 2 _ _ 0 2 h6 ⟨#[99]⟩ rfl)
    | (go_at_call 27; refine n7.mono ?_; clear n7; rintro e w7 ⟨rfl, i7, rfl⟩; have h7 := h6.drewN i7; rw [drewN_add] at h7; have b7 := below_drewN b6 i7; rw [drewN_add] at b7; clear h6 b6; have n8 : Calls Try.prog 28 #[.pointer (some ⟨p, 0, none⟩), .int .i64 1] _ (fun e w' => e = .returned (.tuple #[.string ⟨#[97]⟩, .int .i64 0]) ∧ _) := backYesS _ p g 2 2 _ _ 0 2 h7 1 1 (by decide) (by decide) rfl rfl; clear h7)
    | (go_at_call 28; refine n8.mono ?_; clear n8; rintro e w8 ⟨rfl, m8, q1, q2, q3, q4, h8, f8⟩; obtain rfl : m8 = 2 := (by rcases q4 with h | h; exact h; rcases (show m8 = 0 ∨ m8 = 1 ∨ m8 = 2 by omega) with rfl | rfl | rfl; exact absurd h (by decide); exact absurd h (by decide); rfl); clear q1 q2 q3 q4; have b8 := b7.trans (f8.below (fun k hk => by rcases hk with rfl | rfl <;> assumption) b7.size); clear b7 f8; have n9 := markS w8 p g 2 2 _ _ 2 2 h8; have n10 := roomS w8 p g 2 2 _ _ 2 2 h8)
    | (go_at_call 19; refine n9.mono ?_; clear n9; rintro e w9 ⟨rfl, rfl⟩)
    | (go_at_call 24; refine n10.mono ?_; clear n10; rintro e w10 ⟨rfl, i10, rfl⟩))
  go_ret
  exact ⟨rfl, below_drewN b8 _⟩
end Go.Proofs.Ytmdohddiddlpiaa
