/- wire.Reader.Flag; wire.Open; num. Conditions: those that each states. -/
import Derived.Test.YtpnagblbhlglhaaWireRd3
namespace Go.Proofs.Ytpnagblbhlglhaa
open Go.RowKit

theorem num_any (w : World) (e : Int) : Calls Try.prog 39 #[.int .i64 e] w fun x w' => x = .returned (.int .i64 e) ∧ w = w' := by
  go_enter Try.func39, Try.ntmps39
  go_wp2
  go_ret
  exact ⟨rfl, rfl⟩

set_option maxHeartbeats 1000000 in
set_option maxRecDepth 100000 in
theorem open_any (w : World) (B : Nat) (A : Option Addr) (n c : Nat) (bs : List Nat) (h : Reads w B 1 A n (byts bs)) (hs : Small bs) (hB : B ≤ w.heap.size) (hn : n ≤ 140737488355328) :
    Calls Try.prog 34 #[.slice A n c] w fun e w' => ∃ g A2 c2, e = .returned (.pointer (some ⟨g, 0, none⟩)) ∧ RdI w' g A2 c2 bs 0 ∧ w.heap.size ≤ g ∧ w.heap.size ≤ A2.block ∧ Below w.heap.size w w' := by
  obtain ⟨i0, hi, hz0, hz1, hz2⟩ := info_parts Try.info5w
  have hl : bs.length = n := by have := h.1; rw [byts_length] at this; omega
  have HL := Lib.hid hl
  clear hl
  go_enter Try.func34, Try.ntmps34
  go_wp2_with (first | (refine wpList_make_own _ rfl _ _ 24 rfl w.heap.size 5 i0 (.int .u8 0) 1 Try.underlying24 hi hz0 hz1 .i64 .i64 _ (n + 1) rfl rfl (by simp) (by rw [hz2]; omega) (by unfold maxLen; omega) (Nat.le_refl _) ?_; intro w1 ho hg; have hb1 : Below w.heap.size w w1 := (Below.refl _ w).grown hg (Nat.le_refl _) (fun _ h => nomatch h); have hr := h.below (hb1.mono hB)) | (at_builtin; refine wpList_append_fitR _ rfl _ _ 24 rfl w.heap.size 5 i0 1 Try.underlying24 hi hz1 w.heap.size 0 (n + 1) _ rfl ho B A n c _ rfl hr (byts_one _) (by omega) ?_; intro w2 ho2 hg2))
  go_ret
  have hb2 : Below w.heap.size w w2 := hb1.grown hg2 hb1.size (fun k hk => by cases hk; exact Nat.le_refl _)
  have hlt2 : w.heap.size < w2.heap.size := (ho2.lt _ rfl).2
  rw [Nat.zero_add, List.nil_append] at ho2
  refine ⟨_, ⟨w.heap.size, 0, none⟩, n + 1, rfl, ?_, hb2.size, Nat.le_refl _, hb2.alloc hb2.size _⟩
  refine ⟨?_, ?_, hs, Nat.zero_le _, by rw [HL.out]; omega, ?_, by rw [HL.out]; exact hn⟩
  · have := Blk.new w2 83 #[.slice (some ⟨w.heap.size, 0, none⟩) n (n + 1), .int .i64 0]
    rw [HL.out]
    exact this
  · rw [HL.out]
    exact ((Reads.of_own ho2).alloc (Nat.le_refl _) _).more (by simp)
  · show w.heap.size ≠ w2.heap.size
    omega

end Go.Proofs.Ytpnagblbhlglhaa
