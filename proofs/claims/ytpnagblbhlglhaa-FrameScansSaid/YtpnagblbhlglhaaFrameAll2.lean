/- frame.All itself. Conditions: those that each states. -/
import Derived.Test.YtpnagblbhlglhaaFrameAll
import Derived.Test.YtpnagblbhlglhaaFrameFlip
namespace Go.Proofs.Ytpnagblbhlglhaa
open Go.RowKit

set_option maxHeartbeats 1000000 in
set_option maxRecDepth 100000 in
theorem all_any (w : World) (B : Nat) (A : Option Addr) (n c : Nat) (b : List Nat) (h : Reads w B 1 A n (byts b)) (hB : B ≤ w.heap.size) (hn : n ≤ 140737488355300) :
    Calls Try.prog 56 #[.slice A n c] w fun e w' => ∃ g A2 c2, e = .returned (.func (.func 81) #[] #[.pointer (some ⟨g, 0, none⟩)]) ∧ w.heap.size ≤ g ∧ Blk w' g 24 #[.slice A2 n c2] ∧ w'.ownsRow w.heap.size 5 1 (.slice A2 n c2) n (byts b) ∧ Below w.heap.size w w' := by
  obtain ⟨i0, hi, hz0, hz1, hz2⟩ := info_parts Try.info5w
  have o0 : (w.alloc (.cells #[] 5)).ownsRow w.heap.size 5 1 (.slice (some ⟨w.heap.size, 0, none⟩) 0 0) 0 [] := own_lit w #[] 0 rfl (by omega)
  have hb0 : Below w.heap.size w (w.alloc (.cells #[] 5)) := (Below.refl _ w).alloc (Nat.le_refl _) _
  have r0 := (h.more hB).below hb0
  have FIN : ∀ v2 w2, w2.ownsRow w.heap.size 5 1 v2 (0 + n) ([] ++ byts b) → (w.alloc (.cells #[] 5)).grownBy w2 (Value.slice (some ⟨w.heap.size, 0, none⟩) 0 0).ownBlock → ∃ A2 c2, v2 = .slice A2 n c2 ∧ Hid (w2.ownsRow w.heap.size 5 1 (.slice A2 n c2) n (byts b) ∧ Below w.heap.size w w2) := by
    intro v2 w2 ho hg
    rw [Nat.zero_add, List.nil_append] at ho
    obtain ⟨A2, c2, rfl⟩ := own_shape ho
    exact ⟨A2, c2, rfl, Lib.hid ⟨ho, hb0.grown hg hb0.size (own_base o0)⟩⟩
  have hsz : w.heap.size ≤ (w.alloc (.cells #[] 5)).heap.size := hb0.size
  go_enter Try.func56, Try.ntmps56
  go_wp2_with (at_builtin; refine wpList_append_any _ rfl _ _ 24 rfl w.heap.size 5 i0 (.int .u8 0) 1 1 Try.underlying24 hi hz0 hz1 hz2 rfl (by decide) _ _ _ rfl o0 _ A n _ _ rfl r0 (byts_one _) (by unfold maxLen; omega) (by omega) hsz ?_; intro v2 w2 ho2 hg2 _; obtain ⟨A2, c2, rfl, H2⟩ := FIN v2 w2 ho2 hg2; clear ho2 hg2)
  refine bodyPost_ret (results_tmp rfl _ _ _) rfl ?_
  have hal : Below w2.heap.size w2 (w2.alloc (.cells #[.slice A2 n c2] 24)) := (Below.refl _ w2).alloc (Nat.le_refl _) _
  exact ⟨w2.heap.size, A2, c2, rfl, H2.out.2.size, Blk.new w2 24 _, H2.out.1.alloc _, H2.out.2.trans (hal.mono H2.out.2.size)⟩

/-- What frames bytes are: bytes. -/
theorem scan_small (b : List Nat) (hs : Small b) : ∀ y ∈ scanL b, Small y.2 := by
  have key : ∀ (n : Nat) (b : List Nat), b.length = n → Small b → ∀ y ∈ scanL b, Small y.2 := by
    intro n
    induction n using Nat.strongRecOn with
    | _ n ih =>
      intro b hb hs y hy
      by_cases h : b = []
      · subst h; rw [scanL_nil] at hy; cases hy
      · by_cases hE : beginE b = 0
        · rw [scanL_step h hE] at hy
          have hlp := List.length_pos_iff.2 h
          rcases List.mem_cons.1 hy with rfl | hy
          · exact small_body hs
          · exact ih _ (by rw [List.length_drop]; omega) _ rfl (small_drop hs _) y hy
        · rw [scanL_end h hE] at hy; cases hy
  exact key _ b rfl hs
end Go.Proofs.Ytpnagblbhlglhaa
