/- crc.half: the table of half bytes. Conditions: none. -/
import Derived.Test.YtpnagblbhlglhaaProg
import Derived.Test.YtpnagblbhlglhaaWords
import Derived.Test.YtpnagblbhlglhaaCrcMath
import Derived.WalkLawsBesides
import Derived.WalkSpells
import Derived.Deep.QuietTactic
import Derived.BigQuiet
import Derived.Outline
import Derived.LoopTactic
import Derived.Laws.BitsAllLaws
import Derived.IntWalk
namespace Go.Proofs.Ytpnagblbhlglhaa
open Go.RowKit

/-- n words of 32 bits, as cells. -/
def tabV (n : Nat) (f : Nat → Nat) : Array Value := ((List.range n).map fun j => Value.int .u32 (f j)).toArray
theorem tabV_size (n : Nat) (f : Nat → Nat) : (tabV n f).size = n := by simp [tabV]
theorem tabV_at (n : Nat) (f : Nat → Nat) (j : Nat) (h : j < n) : (tabV n f)[j]? = some (.int .u32 (f j)) := by simp [tabV, h]
theorem tabV_congr (n : Nat) (f g : Nat → Nat) (h : ∀ j, j < n → f j = g j) : tabV n f = tabV n g := by
  unfold tabV
  congr 1
  exact List.map_congr_left fun j hj => by rw [h j (by simpa using hj)]
theorem tabV_set (n : Nat) (f : Nat → Nat) (i v : Nat) (h : i < n) : (tabV n f).setIfInBounds i (.int .u32 v) = tabV n (fun j => if j = i then v else f j) := by
  apply Array.ext_getElem?
  intro j
  rw [Array.getElem?_setIfInBounds]
  by_cases hj : j < n
  · rw [tabV_at n (fun j => if j = i then v else f j) j hj]
    by_cases e : i = j
    · subst e
      rw [if_pos rfl, if_pos (by rw [tabV_size]; exact h)]
      simp
    · rw [if_neg e, tabV_at n f j hj]
      simp [Ne.symm e]
  · have h1 : (tabV n f)[j]? = none := Array.getElem?_eq_none (by rw [tabV_size]; omega)
    have h2 : (tabV n (fun j => if j = i then v else f j))[j]? = none := Array.getElem?_eq_none (by rw [tabV_size]; omega)
    rw [h1, h2, if_neg (by omega)]
theorem tabV_zero16 : tabV 16 (fun _ => 0) = #[.int .u32 0, .int .u32 0, .int .u32 0, .int .u32 0, .int .u32 0, .int .u32 0, .int .u32 0, .int .u32 0, .int .u32 0, .int .u32 0, .int .u32 0, .int .u32 0, .int .u32 0, .int .u32 0, .int .u32 0, .int .u32 0] := by rfl

theorem and_one (s : Nat) (h : s < 4294967296) : bits .and .u32 (s : Int) 1 = ((s % 2 : Nat) : Int) := by
  have := u32_and_nat s 1 h (by decide)
  rw [Nat.and_one_is_mod] at this
  exact this
theorem xor_cast (a b : Nat) (ha : a < 4294967296) (hb : b < 4294967296) : bits .xor .u32 (a : Int) (b : Int) = ((a ^^^ b : Nat) : Int) := u32_xor_nat a b ha hb
theorem st_walk (s : Nat) (h : s < 4294967296) : bits .xor .u32 ((s : Int) / 2) (2197175160 * bits .and .u32 (s : Int) 1 % 4294967296) = ((st s : Nat) : Int) := by
  rw [and_one s h, show ((s : Int) / 2) = ((s / 2 : Nat) : Int) by omega]
  rcases Nat.mod_two_eq_zero_or_one s with h2 | h2
  · rw [h2, show (2197175160 * ((0 : Nat) : Int) % 4294967296) = ((0 : Nat) : Int) by decide, xor_cast _ _ (by omega) (by decide)]
    unfold st
    rw [if_neg (by omega), Nat.xor_zero]
  · rw [h2, show (2197175160 * ((1 : Nat) : Int) % 4294967296) = ((2197175160 : Nat) : Int) by decide, xor_cast _ _ (by omega) (by decide)]
    unfold st polyC
    rw [if_pos h2]

set_option maxHeartbeats 1000000 in
set_option maxRecDepth 100000 in
theorem half_any (w : World) : Calls Try.prog 86 #[] w fun e w' => e = .returned (.agg (tabV 16 (stN 4))) ∧ Below w.heap.size w w' := by
  go_enter Try.func86, Try.ntmps86
  go_wp2
  generalize hw : World.alloc (World.alloc _ _) _ = w1
  have z0 : Blk w1 w.heap.size 142 (tabV 16 fun _ => 0) := by subst hw; exact (Blk.new w 142 _).alloc _
  have z1 : Blk w1 (w.heap.size + 1) 142 (tabV 16 fun _ => 0) := by subst hw; exact (by have := Blk.new (w.alloc (.cells (tabV 16 fun _ => 0) 142)) 142 (tabV 16 fun _ => 0); rwa [World.size_alloc] at this)
  have hb1 : Below w.heap.size w w1 := by subst hw; exact ((Below.refl _ w).alloc (Nat.le_refl _) _).alloc (by simp) _
  clear hw
  go_loopw [5] (fun iv wr => ∃ i : Nat, i ≤ 16 ∧ iv = .int .i64 i ∧ Blk wr (w.heap.size + 1) 142 (tabV 16 fun j => if j < i then stN 4 j else 0) ∧ Blk wr w.heap.size 142 (tabV 16 fun _ => 0) ∧ Below w.heap.size w wr) (fun iv _ => 16 - (intOf iv).toNat)
  case atStart => exact ⟨0, by omega, rfl, by simpa using z1, z0, hb1⟩
  case round =>
    obtain ⟨i, hi, rfl, z1, z0, hb⟩ := hrel
    clear hb1
    by_cases hlt : i < 16
    · have hi0 : (0 : Int) ≤ (i : Int) := by omega
      have hi1 : (i : Int) < 16 := by omega
      go_wp2
      go_loop [3, 10] (fun sv kv => ∃ k : Nat, k ≤ 4 ∧ kv = .int .i64 k ∧ sv = .int .u32 (stN k i)) (fun _ kv => 4 - (intOf kv).toNat)
      case atStart => exact ⟨0, by omega, rfl, rfl⟩
      case round =>
        obtain ⟨k, hk, rfl, rfl⟩ := hrel
        by_cases hlk : k < 4
        · have b1 : stN k i < 4294967296 := stN_lt k (by omega)
          go_wp2
          go_round
          case rel =>
            exact ⟨k + 1, by omega, by go_num, by rw [st_walk _ b1, stN_succ]⟩
          case measure => simp [intOf]; omega
        · obtain rfl : k = 4 := by omega
          have zc : wr.cell? ⟨w.heap.size + 1, i, none⟩ = some (.int .u32 0) := by
            rw [z1.cell, tabV_at 16 _ i hlt, if_neg (by omega)]; rfl
          have zf := z1.frozen i
          go_wp2
          go_roundw
          case rel =>
            refine ⟨i + 1, by omega, by go_num, ?_, z0.far (p := ⟨w.heap.size + 1, i, none⟩) (by simp) _, hb.setCell (p := ⟨w.heap.size + 1, i, none⟩) (by simp) _⟩
            have := z1.set_ i (.int .u32 (stN 4 i))
            rw [tabV_set 16 _ i _ hlt] at this
            rw [tabV_congr 16 (fun j => if j < i + 1 then stN 4 j else 0) (fun j => if j = i then stN 4 i else if j < i then stN 4 j else 0) (fun j _ => by
              by_cases e : j = i
              · subst e; rw [if_pos (by omega), if_pos rfl]
              · rw [if_neg e]
                by_cases e2 : j < i
                · rw [if_pos (by omega), if_pos e2]
                · rw [if_neg (by omega), if_neg e2])]
            exact this
          case measure => simp [intOf]; omega
    · obtain rfl : i = 16 := by omega
      have e : tabV 16 (fun j => if j < 16 then stN 4 j else 0) = tabV 16 (stN 4) := tabV_congr 16 _ _ fun j hj => if_pos hj
      rw [e] at z1
      go_wp2_with (first | (refine wpList_load_row rfl 142 _ rfl (w.heap.size + 1) rfl 142 (tabV 16 (stN 4)) (0, 0) _ z1 Try.underlying142 rfl (by kernel_rfl) ?_) | (refine wpList_store_blk rfl 142 _ _ rfl w.heap.size 142 (tabV 16 fun _ => 0) (tabV 16 (stN 4)) z0 rfl rfl (by kernel_rfl) (by kernel_rfl) (by kernel_rfl) ?_; intro w3 z3 f3))
      refine bodyPost_ret (results_cell_row rfl _ _ w.heap.size 142 (tabV 16 (stN 4)) (0, 0) _ rfl z3 Try.underlying142 rfl (by kernel_rfl)) rfl ?_
      exact ⟨rfl, hb.trans (f3.below (B := w.heap.size) (fun k e => by omega) hb.size)⟩

end Go.Proofs.Ytpnagblbhlglhaa
