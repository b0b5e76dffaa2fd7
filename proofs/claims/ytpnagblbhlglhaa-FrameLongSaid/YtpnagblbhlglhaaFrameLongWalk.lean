/- The walk of wicketlaw04.FrameLong: it answers true. Conditions: none. -/
import Derived.Test.YtpnagblbhlglhaaFrameKnown
import Derived.Test.YtpnagblbhlglhaaFrameIn
import Derived.Test.YtpnagblbhlglhaaFrameOne
namespace Go.Proofs.Ytpnagblbhlglhaa
open Go.RowKit

theorem small_ofF {l : List Nat} (h : l.all (fun c => decide (c < 256)) = true) : Small l := fun c hc => by simpa using List.all_eq_true.1 h c hc
theorem scan_nine (W : World) (l : List Nat) (E : Nat) (hl : l.length = 9) (hs : Small l) (hE : beginE l = E) (h0 : E ≠ 0) : Calls Try.prog 53 #[.slice (some ⟨W.heap.size, 0, none⟩) 9 9] (W.alloc (.cells (byts l).toArray 5)) fun e w' => ∃ v, e = .returned (.tuple #[v, .int .i64 0, .int .i64 (E : Nat)]) ∧ Below W.heap.size W w' := by
  have hne : l ≠ [] := fun e => by subst e; cases hl
  have h0' : beginE l ≠ 0 := by rw [hE]; exact h0
  refine (scan_any _ _ _ 9 9 l (reads_blk (Blk.new W 5 _) hl) hs (Nat.le_refl _) (by omega) (Nat.le_refl _)).mono ?_
  rintro e w' ⟨xs, v, hxs, rfl, ho, hbd, hb⟩
  refine ⟨v, ?_, ((Below.refl _ W).alloc (Nat.le_refl _) _).trans (hb.mono (by simp))⟩
  rw [scanL_end hne h0', scanE_end hne h0', hE]
  rfl
set_option maxHeartbeats 4000000 in
set_option maxRecDepth 100000 in
theorem frameLong_walk (w : World) : Calls Try.prog 13 #[] w fun e w' => e = .returned (.bool true) ∧ Below w.heap.size w w' := by
  have c63 : ∀ W : World, Calls Try.prog 63 #[.slice (some ⟨W.heap.size, 0, none⟩) 2 2] (W.alloc (.cells #[.int .i64 1, .slice none 0 0, .int .i64 (-1), .slice none 0 0] 94)) fun e w' => e = .returned (.tuple #[.slice none 0 0, .int .i64 2]) ∧ Below W.heap.size W w' := by
    intro W
    have k := Blk.new W 94 #[.int .i64 1, .slice none 0 0, .int .i64 (-1), .slice none 0 0]
    have hi : InF (W.alloc (.cells #[.int .i64 1, .slice none 0 0, .int .i64 (-1), .slice none 0 0] 94)) (W.heap.size + 1) (some ⟨W.heap.size, 0, none⟩) 2 [⟨1, none, 0, []⟩, ⟨-1, none, 0, []⟩] := by
      refine ⟨rfl, fun i hi => ?_⟩
      rcases (show i = 0 ∨ i = 1 by simp at hi; omega) with rfl | rfl
      · exact ⟨_, rfl, by simp, (k.cell 0).trans rfl, (k.cell 1).trans rfl, Reads.none_, fun c hc => by (cases hc), Nat.zero_le _⟩
      · exact ⟨_, rfl, by simp, (k.cell 2).trans rfl, (k.cell 3).trans rfl, Reads.none_, fun c hc => by (cases hc), Nat.zero_le _⟩
    refine (putAll_any _ _ _ 2 2 _ hi (by simp) (by omega) (by decide)).mono ?_
    rintro e w' ⟨hb, ⟨h, _⟩ | ⟨_, rfl⟩⟩
    · have := h ⟨-1, none, 0, []⟩ (by simp)
      exact absurd this.1 (by decide)
    · exact ⟨rfl, ((Below.refl _ W).alloc (Nat.le_refl _) _).trans (hb.mono (by simp))⟩
  have c1 := fun W : World => scan_nine W [1, 128, 0, 0, 0, 0, 0, 0, 0] 141 rfl (small_ofF (by decide)) (by decide +kernel) (by decide)
  have c2 := fun W : World => scan_nine W [1, 127, 255, 255, 255, 0, 0, 0, 0] 140 rfl (small_ofF (by decide)) (by decide +kernel) (by decide)
  have c3 := fun W : World => scan_nine W [1, 255, 255, 255, 255, 0, 0, 0, 0] 141 rfl (small_ofF (by decide)) (by decide +kernel) (by decide)
  have c4 : ∀ W : World, Calls Try.prog 58 #[.slice (some ⟨W.heap.size, 0, none⟩) 9 9] (W.alloc (.cells #[.int .u8 1, .int .u8 127, .int .u8 255, .int .u8 255, .int .u8 255, .int .u8 0, .int .u8 0, .int .u8 0, .int .u8 0] 5)) fun e w' => e = .returned (.tuple #[.agg #[.int .i64 0, .slice none 0 0], .int .i64 4]) ∧ Below W.heap.size W w' := by
    intro W
    have hE : beginE [1, 127, 255, 255, 255, 0, 0, 0, 0] = 140 := by decide +kernel
    refine (one_any _ _ _ 9 9 [1, 127, 255, 255, 255, 0, 0, 0, 0] (reads_blk (Blk.new W 5 _) rfl) (small_ofF (by decide)) (Nat.le_refl _) (by omega) (Nat.le_refl _)).mono ?_
    rintro e w' ⟨hb, ⟨_, rfl⟩ | ⟨⟨h, _⟩, _⟩⟩
    · exact ⟨rfl, ((Below.refl _ W).alloc (Nat.le_refl _) _).trans (hb.mono (by simp))⟩
    · rw [hE] at h; cases h
  have k52 := knownF
  go_enter Try.func13, Try.ntmps13
  go_wp2_with (first
    | (go_at_call 63; refine (c63 _).mono ?_; clear c63; rintro e w1 ⟨rfl, b1⟩)
    | (go_at_call 53; refine (c1 _).mono ?_; clear c1; rintro e w2 ⟨v2, rfl, b2⟩)
    | (go_at_call 53; refine (c2 _).mono ?_; clear c2; rintro e w3 ⟨v3, rfl, b3⟩)
    | (go_at_call 53; refine (c3 _).mono ?_; clear c3; rintro e w4 ⟨v4, rfl, b4⟩)
    | (go_at_call 58; refine (c4 _).mono ?_; clear c4; rintro e w5 ⟨rfl, b5⟩)
    | (go_at_call 55; refine (numE_any _ _).mono ?_; rintro e w6 ⟨rfl, rfl⟩)
    | (go_at_call 52; refine (k52 _).mono ?_; clear k52; rintro e w7 ⟨rfl, b7⟩))
  go_ret
  have m1 := b1
  have m2 := m1.trans (b2.mono m1.size)
  have m3 := m2.trans (b3.mono m2.size)
  have m4 := m3.trans (b4.mono m3.size)
  have m5 := m4.trans (b5.mono m4.size)
  have m6 := m5.alloc m5.size (.cells #[.int .i64 0, .slice none 0 0] 94)
  exact ⟨rfl, m6.trans (b7.mono m6.size)⟩
end Go.Proofs.Ytpnagblbhlglhaa
