/- wicketlaw01.known: it answers true. Conditions: none. -/
import Derived.Test.YtpnagblbhlglhaaWireFlag
import Derived.Test.YtpnagblbhlglhaaWireSpoil
namespace Go.Proofs.Ytpnagblbhlglhaa
open Go.RowKit

/-- Bytes of a new block. -/
theorem reads_lit (w : World) (l : List Nat) : Reads (w.alloc (.cells (byts l).toArray 5)) (w.heap.size + 1) 1 (some ⟨w.heap.size, 0, none⟩) l.length (byts l) := by
  refine ⟨by simp [byts], fun _ => ⟨_, rfl, by simp, fun j u hu => ?_⟩⟩
  rw [addr_add, (Blk.new w 5 _).cell j]
  simpa using hu

theorem small_of {l : List Nat} (h : l.all (fun c => decide (c < 256)) = true) : Small l := fun c hc => by simpa using List.all_eq_true.1 h c hc

set_option maxHeartbeats 4000000 in
set_option maxRecDepth 100000 in
theorem knownWire (w : World) : Calls Try.prog 33 #[] w fun e w' => e = .returned (.bool true) ∧ Below w.heap.size w w' := by
  have q1 : rdV [128, 1, 2, 97, 98] = 128 ∧ rdK [128, 1, 2, 97, 98] = 2 ∧ rdE [128, 1, 2, 97, 98] = 0 := rd_some (by decide)
  have q2 : rdV [2, 97, 98] = 2 ∧ rdK [2, 97, 98] = 1 ∧ rdE [2, 97, 98] = 0 := rd_some (by decide)
  have q3 : rdV [128, 0] = 0 ∧ rdK [128, 0] = 0 ∧ rdE [128, 0] = 4 := rd_none (by decide)
  have q4 : bytE [128, 1, 2, 97, 98] 2 2 = 0 := by unfold bytE cntE; simp only [List.drop_succ_cons, List.drop_zero, q2, if_true]; decide
  have n300 : numF 300 = [172, 2] := by rw [numF_high (by omega), numF_low (by omega)]
  have nz : numF (zig (-1)) = [1] := by rw [show zig (-1) = 1 by decide, numF_low (by omega)]
  have o1 := open_any (w.alloc (.cells #[.int .u8 128, .int .u8 1, .int .u8 2, .int .u8 97, .int .u8 98] 5)) _ _ 5 5 [128, 1, 2, 97, 98] (reads_lit w [128, 1, 2, 97, 98]) (small_of (by decide)) (by simp) (by omega)
  have hb0 : Below w.heap.size w (w.alloc (.cells #[.int .u8 128, .int .u8 1, .int .u8 2, .int .u8 97, .int .u8 98] 5)) := (Below.refl _ w).alloc (Nat.le_refl _) _
  go_enter Try.func33, Try.ntmps33
  go_wp2_with (go_at_call 34; refine o1.mono ?_; clear o1; rintro e w1 ⟨g, A, c, rfl, hR, hg, hA, hb1⟩)
  have hw1 : Below w.heap.size w w1 := hb0.trans (hb1.mono hb0.size)
  have s0 := hb0.size
  have r1 := rdnum_any w1 g A c _ 0 hR
  rw [List.drop_zero, q1.1, q1.2.1, q1.2.2] at r1
  clear hR hb1
  go_wp2_with (go_at_call 35; refine r1.mono ?_; clear r1; rintro e w2 ⟨rfl, hR, f2⟩)
  have hw2 : Below w.heap.size w w2 := hw1.trans (f2.below (fun k hk => by omega) hw1.size)
  have r2 := rdbytes_ok w2 g A c _ 2 2 (by omega) hR q4
  rw [show List.drop 2 [128, 1, 2, 97, 98] = [2, 97, 98] from rfl, q2.1, q2.2.1, show List.take 2 (List.drop (2 + 1) [128, 1, 2, 97, 98]) = [97, 98] from rfl] at r2
  clear hR f2
  go_wp2_with (go_at_call 37; refine r2.mono ?_; clear r2; rintro e w3 ⟨A2, c2, rfl, hS, hR, f3⟩)
  have hw3 : Below w.heap.size w w3 := hw2.trans (f3.below (fun k hk => by omega) hw2.size)
  have s2 := f3.size
  have hrl := hR.lt
  have hAl : A.block < w3.heap.size := by
    obtain ⟨ad, e, hb, _⟩ := hR.reads.2 (by decide)
    injection e with e
    subst e
    exact hb
  have o2 := open_any (w3.alloc (.cells #[.int .u8 128, .int .u8 0] 5)) _ _ 2 2 [128, 0] (reads_lit w3 [128, 0]) (small_of (by decide)) (by simp) (by omega)
  have hb3 : Below w3.heap.size w3 (w3.alloc (.cells #[.int .u8 128, .int .u8 0] 5)) := (Below.refl _ w3).alloc (Nat.le_refl _) _
  have s3 : (w3.alloc (.cells #[.int .u8 128, .int .u8 0] 5)).heap.size = w3.heap.size + 1 := by simp
  go_wp2_with (go_at_call 34; refine o2.mono ?_; clear o2; rintro e w4 ⟨g2, A3, c3, rfl, hR2, hg2, hA3, hb4⟩)
  have hw34 : Below w3.heap.size w3 w4 := hb3.trans (hb4.mono (by omega))
  have r3 := rdnum_any w4 g2 A3 c3 _ 0 hR2
  rw [List.drop_zero, q3.1, q3.2.1, q3.2.2] at r3
  clear hR2 hb4 hb3
  go_wp2_with (go_at_call 35; refine r3.mono ?_; clear r3; rintro e w5 ⟨rfl, _, f5⟩)
  have s4 := hw34.size
  have hw35 : Below w3.heap.size w3 w5 := hw34.trans (f5.below (fun k hk => by omega) s4)
  have hR5 : RdI w5 g A c [128, 1, 2, 97, 98] 5 := hR.fr (Fr.of_new (S := noB) hw35) (fun h => h) (fun h => h)
  have hw5 : Below w.heap.size w w5 := hw3.trans (hw35.mono hw3.size)
  have hs5 : Reads w5 w5.heap.size 1 A2 2 (byts [97, 98]) := ((Reads.of_own hS).below hw35).more hw35.size
  have t1 := run_str (P := Try.prog) (src := 24) (dst := 9) (c := c2) rfl rfl rfl hs5 (small_of (by decide))
  rw [show strN [97, 98] = ⟨#[97, 98]⟩ from rfl] at t1
  clear hR hS hs5
  have l5 := left_any w5 g A c _ 5 hR5
  rw [show [128, 1, 2, 97, 98].length - 5 = 0 from rfl] at l5
  have n5 := fun (W : World) (e : Int) => num_any W e
  go_wp2_with (first | (go_at_call 39; refine (num_any _ _).mono ?_; rintro e w' ⟨rfl, rfl⟩) | (go_at_call 41; refine l5.mono ?_; clear l5; rintro e w6 ⟨rfl, m, rfl⟩))
  have e5 := end_any (w5.drewN m) g A c _ 5 (hR5.drewN m)
  rw [if_neg (by decide)] at e5
  go_wp2_with (first | (go_at_call 39; refine (num_any _ _).mono ?_; rintro e w' ⟨rfl, rfl⟩) | (go_at_call 40; refine e5.mono ?_; clear e5; rintro e w6 ⟨rfl, m2, rfl⟩))
  have hw6 : Below w.heap.size w (w5.drewN (m + m2)) := below_drewN hw5 _
  generalize hwx : w5.drewN (m + m2) = w6 at hw6 ⊢
  clear hwx t1
  have sg := signed_tells w6 (-1) (by omega) (by omega)
  have nm := fun W : World => number_tells W 300 (by omega)
  unfold Tells at sg nm
  rw [nz] at sg
  simp only [n300] at nm
  go_wp2_with (go_at_call 28; refine sg.mono ?_; clear sg; rintro e w7 ⟨A7, c7, rfl, h7, b7⟩; have t7 := run_str (P := Try.prog) (src := 24) (dst := 9) (c := c7) rfl rfl rfl (Reads.of_own h7) (small_of (l := [1]) (by decide)); replace t7 : (convert 24 9 (.slice A7 1 c7)).run Try.prog w7 = .ok (.string ⟨#[1]⟩) w7 := t7)
  have nm7 := nm w7
  go_wp2_with (go_at_call 24; refine nm7.mono ?_; clear nm7; rintro e w8 ⟨A8, c8, rfl, h8, b8⟩; have t8 := run_str (P := Try.prog) (src := 24) (dst := 9) (c := c8) rfl rfl rfl (Reads.of_own h8) (small_of (l := [172, 2]) (by decide)); replace t8 : (convert 24 9 (.slice A8 2 c8)).run Try.prog w8 = .ok (.string ⟨#[172, 2]⟩) w8 := t8)
  go_ret
  exact ⟨rfl, (hw6.trans (b7.mono hw6.size)).trans (b8.mono (by have := hw6.size; have := b7.size; omega))⟩

end Go.Proofs.Ytpnagblbhlglhaa
