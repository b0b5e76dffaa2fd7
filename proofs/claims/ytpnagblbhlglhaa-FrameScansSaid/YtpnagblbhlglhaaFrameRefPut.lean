/- The document's frame. Conditions: those that each states. -/
import Derived.Test.YtpnagblbhlglhaaFramePut
namespace Go.Proofs.Ytpnagblbhlglhaa
open Go.RowKit

theorem own_lit (w : World) (cs : Array Value) (n : Nat) (hn : cs.size = n) (hm : n ≤ 1048576) : (w.alloc (.cells cs 5)).ownsRow w.heap.size 5 1 (.slice (some ⟨w.heap.size, 0, none⟩) n n) n cs.toList :=
  ⟨by simp [hn], .inr ⟨w.heap.size, n, cs, rfl, Nat.le_refl _, heap_alloc_new w _, Nat.le_refl _, by unfold maxLen; omega, by omega, by rw [List.take_of_length_le (by simp [hn])]⟩⟩

set_option maxHeartbeats 4000000 in
set_option maxRecDepth 100000 in
theorem refPut_any (w : World) (B : Nat) (k : Nat) (A : Option Addr) (n c : Nat) (b : List Nat) (hk : k < 256) (h : Reads w B 1 A n (byts b)) (hs : Small b) (hB : B ≤ w.heap.size) (hn : n ≤ 1048576) :
    Calls Try.prog 62 #[.int .i64 k, .slice A n c] w fun e w' => ∃ A2 c2, e = .returned (.slice A2 (9 + n) c2) ∧ w'.ownsRow w.heap.size 5 1 (.slice A2 (9 + n) c2) (9 + n) (byts (frameN k b)) ∧ Below w.heap.size w w' := by
  obtain ⟨i0, hi, hz0, hz1, hz2⟩ := info_parts Try.info5w
  have hlen : b.length = n := by have := h.1; rw [byts_length] at this; omega
  have hsm : Small (headN k n ++ b) := (headN_small hk).append hs
  obtain ⟨S, hS⟩ : ∃ S, crcSum (headN k n ++ b) = S := ⟨_, rfl⟩
  have hSlt : S < 4294967296 := by rw [← hS]; exact crcSum_lt _
  have c85 := fun W => word_any W n (by omega)
  have hw1 : Below w.heap.size w ((w.alloc (.cells #[.int .u8 k] 5)).alloc (.cells (byts (word4 n)).toArray 5)) := ((Below.refl _ w).alloc (Nat.le_refl _) _).alloc (by simp) _
  have o0 : ((w.alloc (.cells #[.int .u8 k] 5)).alloc (.cells (byts (word4 n)).toArray 5)).ownsRow w.heap.size 5 1 (.slice (some ⟨w.heap.size, 0, none⟩) 1 1) 1 [.int .u8 k] := (own_lit w #[.int .u8 k] 1 rfl (by omega)).alloc _
  have r0 : Reads ((w.alloc (.cells #[.int .u8 k] 5)).alloc (.cells (byts (word4 n)).toArray 5)) ((w.alloc (.cells #[.int .u8 k] 5)).alloc (.cells (byts (word4 n)).toArray 5)).heap.size 1 (some ⟨w.heap.size + 1, 0, none⟩) 4 (byts (word4 n)) := by
    have := reads_blk (Blk.new (w.alloc (.cells #[.int .u8 k] 5)) 5 (byts (word4 n)).toArray) (show (word4 n).length = 4 from rfl)
    simpa using this
  have HP := Lib.hid (And.intro hlen (And.intro hsm hS))
  clear hlen hsm hS
  go_enter Try.func62, Try.ntmps62
  go_wp2_with (first
    | (go_at_call 85; refine (c85 _).mono ?_; clear c85; rintro e w' ⟨rfl, rfl⟩)
    | (at_builtin; refine wpList_append_any _ rfl _ _ 24 rfl w.heap.size 5 i0 (.int .u8 0) 1 1 Try.underlying24 hi hz0 hz1 hz2 rfl (by decide) _ _ _ rfl o0 _ _ 4 _ _ rfl r0 ?c1 ?c2 ?c3 ?c4 ?_))
  case c1 => exact byts_one _
  case c2 => unfold maxLen; omega
  case c3 => omega
  case c4 => simp; omega
  intro v1 w1 o1 g1 _
  obtain ⟨P1, p1, rfl⟩ := own_shape o1
  have o1' : w1.ownsRow w.heap.size 5 1 (.slice P1 5 p1) 5 (byts (headN k n)) := o1
  have hb1 : Below w.heap.size w w1 := hw1.grown g1 hw1.size (own_base o0)
  clear o1 g1 o0 r0 hw1
  have r1 := Reads.of_own o1'
  go_wp2_with (at_builtin; refine wpList_append_any _ rfl _ _ 24 rfl w1.heap.size 5 i0 (.int .u8 0) 1 1 Try.underlying24 hi hz0 hz1 hz2 rfl (by decide) _ _ _ rfl (World.ownsRow_nil _ _ _ _) _ _ 5 _ _ rfl r1 ?c1 ?c2 ?c3 ?c4 ?_)
  case c1 => exact byts_one _
  case c2 => unfold maxLen; omega
  case c3 => omega
  case c4 => exact Nat.le_refl _
  intro v2 w2 o2 g2 _
  obtain ⟨P2, p2, rfl⟩ := own_shape o2
  try simp only [Nat.zero_add, List.nil_append] at o2
  have hb12 : Below w1.heap.size w1 w2 := (Below.refl _ _).grown g2 (Nat.le_refl _) (fun k hk => by cases hk)
  have hb2 := hb1.trans (hb12.mono hb1.size)
  have r2 := ((h.more hB).below hb2).more hb2.size
  go_wp2_with (at_builtin; refine wpList_append_any _ rfl _ _ 24 rfl w1.heap.size 5 i0 (.int .u8 0) 1 1 Try.underlying24 hi hz0 hz1 hz2 rfl (by decide) _ _ _ rfl o2 _ _ n _ _ rfl r2 ?c1 ?c2 ?c3 ?c4 ?_)
  case c1 => exact byts_one _
  case c2 => unfold maxLen; omega
  case c3 => omega
  case c4 => exact hb12.size
  intro v3 w3 o3 g3 _
  obtain ⟨P3, p3, rfl⟩ := own_shape o3
  have hb13 : Below w1.heap.size w1 w3 := hb12.grown g3 hb12.size (own_base o2)
  have hb3 := hb1.trans (hb13.mono hb1.size)
  rw [← byts_append] at o3
  have c16 := refSum_any w3 w3.heap.size P3 (5 + n) p3 (headN k n ++ b) (Reads.of_own o3) HP.out.2.1 (by omega)
  rw [HP.out.2.2] at c16
  have c85b := word_any w3 S hSlt
  have o1b := (own_fr (S := noB) o1' (Fr.of_new hb13) fun _ _ e => e).alloc (.cells (byts (word4 S)).toArray 5)
  have r3 := reads_blk (Blk.new w3 5 (byts (word4 S)).toArray) (show (word4 S).length = 4 from rfl)
  clear o2 g2 g3 r1 r2 o3
  go_wp2_with (first
    | (go_at_call 16; refine c16.mono ?_; clear c16; rintro e w' ⟨rfl, rfl⟩)
    | (go_at_call 85; refine c85b.mono ?_; clear c85b; rintro e w' ⟨rfl, rfl⟩)
    | (at_builtin; refine wpList_append_any _ rfl _ _ 24 rfl w.heap.size 5 i0 (.int .u8 0) 1 1 Try.underlying24 hi hz0 hz1 hz2 rfl (by decide) _ _ _ rfl o1b _ _ 4 _ _ rfl r3 ?c1 ?c2 ?c3 ?c4 ?_))
  case c1 => exact byts_one _
  case c2 => unfold maxLen; omega
  case c3 => omega
  case c4 => simp; have := hb3.size; omega
  intro v4 w4 o4 g4 _
  obtain ⟨P4, p4, rfl⟩ := own_shape o4
  have hb4 : Below w.heap.size w w4 := (hb3.alloc hb3.size _).grown g4 (by simp; have := hb3.size; omega) (own_base o1b)
  have r4 := ((h.more hB).below hb4).more hb4.size
  clear g4 r3 o1b
  go_wp2_with (at_builtin; refine wpList_append_any _ rfl _ _ 24 rfl w.heap.size 5 i0 (.int .u8 0) 1 1 Try.underlying24 hi hz0 hz1 hz2 rfl (by decide) _ _ _ rfl o4 _ _ n _ _ rfl r4 ?c1 ?c2 ?c3 ?c4 ?_)
  case c1 => exact byts_one _
  case c2 => unfold maxLen; omega
  case c3 => omega
  case c4 => exact hb4.size
  intro v5 w5 o5 g5 _
  obtain ⟨P5, p5, rfl⟩ := own_shape o5
  have hb5 : Below w.heap.size w w5 := hb4.grown g5 hb4.size (own_base o4)
  have hfin : byts (headN k n) ++ (byts (word4 S) ++ byts b) = byts (frameN k b) := by
    unfold frameN
    rw [HP.out.1, HP.out.2.2, byts_append, byts_append, List.append_assoc]
  rw [hfin] at o5
  have HF := Lib.hid (And.intro o5 hb5)
  clear o5 hb5 hfin
  go_wp2
  go_ret
  exact ⟨P5, p5, by first | rfl | (congr 2), HF.out.1, HF.out.2⟩
end Go.Proofs.Ytpnagblbhlglhaa
