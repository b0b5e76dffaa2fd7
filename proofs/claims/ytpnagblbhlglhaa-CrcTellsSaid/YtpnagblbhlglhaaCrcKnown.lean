/- wicketlaw02.known answers true, and leaves what was there. Conditions: none. -/
import Derived.Test.YtpnagblbhlglhaaCrcRefFar
import Derived.Lib.SlBytesConst
namespace Go.Proofs.Ytpnagblbhlglhaa
open Go.RowKit

theorem crc_none : crcSum [] = 0 := by decide +kernel
theorem crc_nine : crcSum [49, 50, 51, 52, 53, 54, 55, 56, 57] = 3808858755 := by decide +kernel
theorem crc_five : crcMore (crcSum [49, 50, 51, 52, 53]) [54, 55, 56, 57] = 3808858755 := by decide +kernel
theorem crc_a : crcSum [97] = 3251651376 := by decide +kernel
theorem crc_zeros4 : 4294967295 - far0 4 4294967295 = 1214729159 := by decide +kernel

theorem const_at (w : World) (C : Array Value) (n c H : Nat) (hH : w.heap.size = H) : (convert 24 24 (.slice (some ⟨H, 0, none⟩) n c)).run Try.prog (w.alloc (.cells C 5)) = .ok (.slice (some ⟨H, 0, none⟩) n c) (w.alloc (.cells C 5 (C.size, C.size + 1))) := by
  subst hH
  exact Lib.run_convert_bytes_const (P := Try.prog) w 24 5 C n c Try.underlying24 Try.underlying5
theorem cell_new_fr (w : World) (C : Array Value) (t : TypeId) (fr : Nat × Nat) (j : Nat) : (w.alloc (.cells C t fr)).cell? ⟨w.heap.size, j, none⟩ = C[j]? := cell_of_row _ _ j C t fr (heap_alloc_new w _)
theorem reads_new (w : World) (cs : List Nat) (n : Nat) (fr : Nat × Nat) (h : cs.length = n) : Reads (w.alloc (.cells (byts cs).toArray 5 fr)) (w.heap.size + 1) 1 (some ⟨w.heap.size, 0, none⟩) n (byts cs) := by
  refine ⟨by rw [byts_length]; omega, fun _ => ⟨_, rfl, by simp, fun j u hu => ?_⟩⟩
  rw [addr_add, cell_new_fr, ← hu]
  simp

set_option maxHeartbeats 2000000 in
set_option maxRecDepth 100000 in
theorem knownCrc (w : World) : Calls Try.prog 14 #[] w fun e w' => e = .returned (.bool true) ∧ Below w.heap.size w w' := by
  -- Sum()
  have h0 : ∀ W : World, Calls Try.prog 15 #[.slice none 0 0] W fun e w' => e = .returned (.int .u32 0) ∧ Below W.heap.size W w' := by
    intro W
    refine (sum_any W 0 none 0 0 [] ⟨rfl, fun k hk => by simp at hk⟩ (by omega) (by omega)).mono ?_
    rintro e w' ⟨rfl, hb⟩
    exact ⟨rfl, hb⟩
  -- Sum of two pieces
  have h1 : ∀ W : World, Calls Try.prog 15 #[.slice (some ⟨W.heap.size + 1 + 1, 0, none⟩) 2 2]
      (((W.alloc (.cells #[.int .u8 49, .int .u8 50, .int .u8 51, .int .u8 52] 5 (4, 5))).alloc (.cells #[.int .u8 53, .int .u8 54, .int .u8 55, .int .u8 56, .int .u8 57] 5 (5, 6))).alloc (.cells #[.slice (some ⟨W.heap.size, 0, none⟩) 4 4, .slice (some ⟨W.heap.size + 1, 0, none⟩) 5 5] 24))
      fun e w' => e = .returned (.int .u32 3808858755) ∧ Below W.heap.size W w' := by
    intro W
    have e1 : (#[.int .u8 49, .int .u8 50, .int .u8 51, .int .u8 52] : Array Value) = (byts [49, 50, 51, 52]).toArray := rfl
    have e2 : (#[.int .u8 53, .int .u8 54, .int .u8 55, .int .u8 56, .int .u8 57] : Array Value) = (byts [53, 54, 55, 56, 57]).toArray := rfl
    rw [e1, e2]
    have r1 := ((reads_new W [49, 50, 51, 52] 4 (4, 5) rfl).alloc (by simp) (.cells (byts [53, 54, 55, 56, 57]).toArray 5 (5, 6))).alloc (by simp) (.cells #[.slice (some ⟨W.heap.size, 0, none⟩) 4 4, .slice (some ⟨W.heap.size + 1, 0, none⟩) 5 5] 24)
    have r2 := (reads_new (W.alloc (.cells (byts [49, 50, 51, 52]).toArray 5 (4, 5))) [53, 54, 55, 56, 57] 5 (5, 6) rfl).alloc (by simp) (.cells #[.slice (some ⟨W.heap.size, 0, none⟩) 4 4, .slice (some ⟨W.heap.size + 1, 0, none⟩) 5 5] 24)
    have bz := Blk.new ((W.alloc (.cells (byts [49, 50, 51, 52]).toArray 5 (4, 5))).alloc (.cells (byts [53, 54, 55, 56, 57]).toArray 5 (5, 6))) 24 #[.slice (some ⟨W.heap.size, 0, none⟩) 4 4, .slice (some ⟨W.heap.size + 1, 0, none⟩) 5 5]
    simp only [World.size_alloc] at r2 bz
    have hb : Below W.heap.size W (((W.alloc (.cells (byts [49, 50, 51, 52]).toArray 5 (4, 5))).alloc (.cells (byts [53, 54, 55, 56, 57]).toArray 5 (5, 6))).alloc (.cells #[.slice (some ⟨W.heap.size, 0, none⟩) 4 4, .slice (some ⟨W.heap.size + 1, 0, none⟩) 5 5] 24)) :=
      (((Below.refl _ W).alloc (Nat.le_refl _) _).alloc (by simp) _).alloc (by simp; omega) _
    refine (sum_any _ (W.heap.size + 1 + 1 + 1) _ 2 2 [[49, 50, 51, 52], [53, 54, 55, 56, 57]] ⟨rfl, fun k hk => ?_⟩ (by simp) (by omega)).mono ?_
    · match k, hk with
      | 0, _ => exact ⟨_, _, 4, rfl, by simp, (bz.cell 0).trans rfl, r1.more (by omega), by intro c hc; simp at hc; omega, by simp⟩
      | 1, _ => exact ⟨_, _, 5, rfl, by simp, by rw [addr_add]; exact (bz.cell 1).trans rfl, r2.more (by omega), by intro c hc; simp at hc; omega, by simp⟩
    · rintro e w' ⟨rfl, hb2⟩
      refine ⟨ret_int ?_, hb.trans (hb2.mono (by simp; omega))⟩
      show ((crcSum [49, 50, 51, 52, 53, 54, 55, 56, 57] : Nat) : Int) = _
      rw [crc_nine]
      rfl
  -- Sum of one piece
  have h2 : ∀ W : World, Calls Try.prog 15 #[.slice (some ⟨W.heap.size + 1, 0, none⟩) 1 1]
      ((W.alloc (.cells #[.int .u8 49, .int .u8 50, .int .u8 51, .int .u8 52, .int .u8 53] 5 (5, 6))).alloc (.cells #[.slice (some ⟨W.heap.size, 0, none⟩) 5 5] 24))
      fun e w' => e = .returned (.int .u32 (crcSum [49, 50, 51, 52, 53] : Nat)) ∧ Below W.heap.size W w' := by
    intro W
    have e1 : (#[.int .u8 49, .int .u8 50, .int .u8 51, .int .u8 52, .int .u8 53] : Array Value) = (byts [49, 50, 51, 52, 53]).toArray := rfl
    rw [e1]
    have r1 := (reads_new W [49, 50, 51, 52, 53] 5 (5, 6) rfl).alloc (by simp) (.cells #[.slice (some ⟨W.heap.size, 0, none⟩) 5 5] 24)
    have bz := Blk.new (W.alloc (.cells (byts [49, 50, 51, 52, 53]).toArray 5 (5, 6))) 24 #[.slice (some ⟨W.heap.size, 0, none⟩) 5 5]
    simp only [World.size_alloc] at bz
    have hb : Below W.heap.size W ((W.alloc (.cells (byts [49, 50, 51, 52, 53]).toArray 5 (5, 6))).alloc (.cells #[.slice (some ⟨W.heap.size, 0, none⟩) 5 5] 24)) :=
      ((Below.refl _ W).alloc (Nat.le_refl _) _).alloc (by simp) _
    refine (sum_any _ (W.heap.size + 1 + 1) _ 1 1 [[49, 50, 51, 52, 53]] ⟨rfl, fun k hk => ?_⟩ (by simp) (by omega)).mono ?_
    · match k, hk with
      | 0, _ => exact ⟨_, _, 5, rfl, by simp, (bz.cell 0).trans rfl, r1.more (by omega), by intro c hc; simp at hc; omega, by simp⟩
    · rintro e w' ⟨rfl, hb2⟩
      exact ⟨rfl, hb.trans (hb2.mono (by simp; omega))⟩
  have hmore : ∀ (W : World) (s : Nat), s < 4294967296 → Calls Try.prog 17 #[.int .u32 s, .slice (some ⟨W.heap.size, 0, none⟩) 4 4] (W.alloc (.cells #[.int .u8 54, .int .u8 55, .int .u8 56, .int .u8 57] 5 (4, 5)))
      fun e w' => e = .returned (.int .u32 (crcMore s [54, 55, 56, 57] : Nat)) ∧ Below W.heap.size W w' := by
    intro W s hs
    have e1 : (#[.int .u8 54, .int .u8 55, .int .u8 56, .int .u8 57] : Array Value) = (byts [54, 55, 56, 57]).toArray := rfl
    rw [e1]
    refine (more_any _ _ _ 4 4 s _ (reads_new W [54, 55, 56, 57] 4 (4, 5) rfl) (by simp) (by intro c hc; simp at hc; omega) hs (by omega)).mono ?_
    rintro e w' ⟨rfl, hb2⟩
    exact ⟨rfl, ((Below.refl _ W).alloc (Nat.le_refl _) _).trans (hb2.mono (by simp))⟩
  have hholds : ∀ (W : World), Calls Try.prog 19 #[.slice (some ⟨W.heap.size, 0, none⟩) 1 1, .int .u32 3251651376] (W.alloc (.cells #[.int .u8 97] 5 (1, 2)))
      fun e w' => e = .returned (.bool true) ∧ Below W.heap.size W w' := by
    intro W
    have e1 : (#[.int .u8 97] : Array Value) = (byts [97]).toArray := rfl
    rw [e1]
    refine (holds_any _ _ _ 1 1 3251651376 _ (reads_new W [97] 1 (1, 2) rfl) (by simp) (by intro c hc; simp at hc; omega) (by omega)).mono ?_
    rintro e w' ⟨rfl, hb2⟩
    refine ⟨ret_bool ?_, ((Below.refl _ W).alloc (Nat.le_refl _) _).trans (hb2.mono (by simp))⟩
    rw [crc_a]; decide
  have hz4 : ∀ W : World, Calls Try.prog 21 #[.int .u32 0, .int .i64 4] W fun e w' => e = .returned (.int .u32 1214729159) ∧ Below W.heap.size W w' := by
    intro W
    refine (zeros_any W 0 4 (by decide) (by decide)).mono ?_
    rintro e w' ⟨rfl, hb2⟩
    exact ⟨ret_int (by rw [show (4 : Int).toNat = 4 from rfl, Nat.sub_zero, crc_zeros4]; rfl), hb2⟩
  have hz7 : ∀ W : World, Calls Try.prog 21 #[.int .u32 7, .int .i64 (-3)] W fun e w' => e = .returned (.int .u32 7) ∧ Below W.heap.size W w' := by
    intro W
    refine (zeros_any W 7 (-3) (by decide) (by decide)).mono ?_
    rintro e w' ⟨rfl, hb2⟩
    exact ⟨ret_int (by decide), hb2⟩
  have hj : ∀ W : World, Calls Try.prog 65 #[.int .u32 9, .int .u32 0, .int .i64 0] W fun e w' => e = .returned (.int .u32 9) ∧ Below W.heap.size W w' := by
    intro W
    refine (join_any W 9 0 0 (by decide) (by decide) (by decide)).mono ?_
    rintro e w' ⟨rfl, hb2⟩
    exact ⟨ret_int (by decide), hb2⟩
  have n1 := crc_five
  have n2 := crcSum_lt [49, 50, 51, 52, 53]
  generalize crcSum [49, 50, 51, 52, 53] = x5 at n1 n2 h2
  have N1 : ((crcMore x5 [54, 55, 56, 57] : Nat) : Int) = 3808858755 := by rw [n1]; rfl
  clear n1
  have kc := const_at
  go_enter Try.func14, Try.ntmps14
  go_wp2_with (go_at_call 15; refine (h0 _).mono ?_; clear h0; rintro e w1 ⟨rfl, b1⟩)
  refine (h1 _).mono ?_
  clear h1
  rintro e w2 ⟨rfl, b2⟩
  go_wp2_with (go_at_call 15; refine (h2 _).mono ?_; clear h2; rintro e w3 ⟨rfl, b3⟩)
  refine (hmore _ _ n2).mono ?_
  clear hmore
  rintro e w4 ⟨rfl, b4⟩
  go_wp2_with (go_at_call 21; refine (hz4 _).mono ?_; clear hz4; rintro e w5 ⟨rfl, b5⟩)
  refine (hz7 _).mono ?_
  clear hz7
  rintro e w6 ⟨rfl, b6⟩
  go_wp2_with (first | (go_at_call 65; refine (hj _).mono ?_; clear hj; rintro e w7 ⟨rfl, b7⟩) | (go_at_call 19; refine (hholds _).mono ?_; clear hholds; rintro e w8 ⟨rfl, b8⟩))
  go_ret
  have c2 : Below w.heap.size w w2 := b1.trans (b2.mono b1.size)
  have c3 : Below w.heap.size w w3 := c2.trans (b3.mono c2.size)
  have c4 : Below w.heap.size w w4 := c3.trans (b4.mono c3.size)
  have c5 : Below w.heap.size w w5 := c4.trans (b5.mono c4.size)
  have c6 : Below w.heap.size w w6 := c5.trans (b6.mono c5.size)
  have c7 : Below w.heap.size w w7 := c6.trans (b7.mono c6.size)
  exact ⟨rfl, c7.trans (b8.mono c7.size)⟩

end Go.Proofs.Ytpnagblbhlglhaa
