/- wicketlaw16.NetNil answers true. Conditions: none. -/
import Derived.Test.YtbbjbbcakfmpgaaNetNilI
namespace Go.Proofs.Ytbbjbbcakfmpgaa
open Go.RowKit Go.Shelf
attribute [local go_sem] Oper.semAt_some

theorem below_own {β : Type} {w1 : World} : OwnFrom w1.heap.size (fun (_ : β) W => Below w1.heap.size w1 W) := fun _ W W' row hs hg hr =>
  ⟨hg.os.trans hs.os, hg.tape.trans hs.tape, hg.output.trans hs.output, Nat.le_trans hs.size hg.size, fun k hk => (hg.block k (Nat.lt_of_lt_of_le hk hs.size) (fun e => by have := (hr k e.symm).1; omega)).trans (hs.block k hk)⟩

set_option maxHeartbeats 4000000 in
set_option maxRecDepth 100000 in
theorem seq38 (w : World) (Bn : Nat) (hB : w.cell? ⟨Bn, 0, none⟩ = some (.slice none 0 0)) (hBl : Bn < w.heap.size) :
    SeqStopsK (α := Empty) Fence.wide 8 Try.prog 38 #[.pointer (some ⟨Bn, 0, none⟩)] noEnc (KpFrom noTy 0) (fun _ => True) (fun _ => True) 0 w := by
  intro L J Jx W hW hJ hJx hY h0
  have hBW : W.cell? ⟨Bn, 0, none⟩ = some (.slice none 0 0) := (hW.cell (p := ⟨Bn, 0, none⟩) hBl).trans hB
  clear hY
  have hlt : Bn < W.heap.size := Nat.lt_of_lt_of_le hBl hW.size
  have hB2 : (W.alloc (.cells #[.func (.yield L) #[] #[]] 65)).cell? ⟨Bn, 0, none⟩ = some (.slice none 0 0) := (World.cell?_alloc_lt _ _ ⟨Bn, 0, none⟩ hlt).trans hBW
  have hall := fun W => all_slice W
  refine callsIn_of_wp_marks Try.func38 rfl trivial ?_ rfl
  simp only [Try.ntmps38, List.size_toArray, List.length_cons, List.length_nil, Nat.reduceAdd, Nat.reduceSub, Array.replicate_succ, Array.replicate_zero, List.push_toArray, List.append_toArray, List.nil_append, List.cons_append]
  gi_wp2_with (refine ⟨trivial, ?_⟩; gi_at_call 39; refine (callsIn_wide.2 (hall _)).mono ?_; rintro e w' ⟨rfl, rfl⟩)
  obtain ⟨W1, hW1⟩ : ∃ W1, W.alloc (.cells #[.func (.yield L) #[] #[]] 65) = W1 := ⟨_, rfl⟩
  have hb1 : Below W.heap.size W W1 := by rw [← hW1]; exact (Below.refl _ W).alloc (Nat.le_refl _) _
  have hsz : W1.heap.size = W.heap.size + 1 := by rw [← hW1]; simp
  rw [hW1] at hB2 ⊢
  have k2 := Blk.new W1 22 #[.slice none 0 0]
  obtain ⟨W2, hW2⟩ : ∃ W2, W1.alloc (.cells #[.slice none 0 0] 22) = W2 := ⟨_, rfl⟩
  have hb2 : Below W.heap.size W W2 := by rw [← hW2]; exact hb1.alloc hb1.size _
  rw [hW2] at k2 ⊢
  rw [hsz] at k2
  have hsq := seq44 W2 (W.heap.size + 1) ((k2.cell 0).trans rfl) k2.lt 7
  refine wpIn_rangeFunc_ownG (F := Fence.wide) rfl (by omega) (gf := 44) (lb := #[.pointer (some ⟨W.heap.size + 1, 0, none⟩)]) rfl trivial (enters_of Try.func44 (by kernel_rfl) rfl) hsq (fun h k => KpFrom.t h k) (fun W l o o' _ h hc _ => KpFrom.b W l o o' h hc) (Below.refl _ _) (fun x => x.elim)
    (fun _ W' => Below W2.heap.size W2 W') (fun _ _ _ => False) below_own (fun _ _ _ _ _ hs _ _ => hs) (Below.refl _ _) (fun x => x.elim) (fun _ x => x.elim) (fun _ _ x => x.elim) ?done ?stop
  case done =>
    rintro D ys W' hD _ hb hK
    gi_wp2
    refine ⟨by simp, .inl ⟨_, _, rfl, run_takeDeferred hK, ?_⟩⟩
    have hB3 : Below W.heap.size W W' := hb2.trans (hb.mono hb2.size)
    have hsz2 := hb2.size
    exact ⟨_, results_none rfl _ _ _, ⟨_, rfl⟩, .inl ⟨[], abides_new hJ h0 (hB3.trans (belowK_b (w := W) (Nat.le_refl _) W' D _ _ (by omega) hK rfl rfl))⟩⟩
  case stop =>
    rintro D cc pre W _ _ h _
    exact h.elim

theorem all_not_nil (w : World) (a : Option Addr) : Sem.run Try.prog (binOp BinOp.eql 53 (Value.func (.func 38) #[] #[.pointer a]) Value.nilFunc) w = .ok (.bool false) w := by kernel_rfl

set_option maxHeartbeats 16000000 in
set_option maxRecDepth 100000 in
theorem netNil_walk (w : World) : Calls Try.prog 5 #[] w fun e w' => e = .returned (.bool true) ∧ Below w.heap.size w w' := by
  refine (callsIn_wide (n := 9)).1 ?_
  have hnn := all_not_nil
  refine callsIn_of_wp_marks Try.func5 rfl trivial ?_ rfl
  simp only [Try.ntmps5, List.size_toArray, List.length_cons, List.length_nil, Nat.reduceAdd, Nat.reduceSub, Array.replicate_succ, Array.replicate_zero, List.push_toArray, List.append_toArray, List.nil_append, List.cons_append]
  gi_wp2
  have kr : Blk (((w.alloc (.cells #[.bool false] 4)).alloc (.cells #[.slice none 0 0, .int .i64 0, .bool false] 49)).alloc (.cells #[.pointer none, .pointer (some ⟨w.heap.size + 1, 0, none⟩)] 23)) w.heap.size 4 #[.bool false] := ((Blk.new w 4 _).alloc _).alloc _
  have kn : Blk (((w.alloc (.cells #[.bool false] 4)).alloc (.cells #[.slice none 0 0, .int .i64 0, .bool false] 49)).alloc (.cells #[.pointer none, .pointer (some ⟨w.heap.size + 1, 0, none⟩)] 23)) (w.heap.size + 1) 49 #[.slice none 0 0, .int .i64 0, .bool false] := by
    have := (Blk.new (w.alloc (.cells #[.bool false] 4)) 49 #[.slice none 0 0, .int .i64 0, .bool false]).alloc (.cells #[.pointer none, .pointer (some ⟨w.heap.size + 1, 0, none⟩)] 23)
    rwa [World.size_alloc] at this
  have kl0 : Blk (((w.alloc (.cells #[.bool false] 4)).alloc (.cells #[.slice none 0 0, .int .i64 0, .bool false] 49)).alloc (.cells #[.pointer none, .pointer (some ⟨w.heap.size + 1, 0, none⟩)] 23)) (w.heap.size + 1 + 1) 23 #[.pointer none, .pointer (some ⟨w.heap.size + 1, 0, none⟩)] := by
    have := Blk.new ((w.alloc (.cells #[.bool false] 4)).alloc (.cells #[.slice none 0 0, .int .i64 0, .bool false] 49)) 23 #[.pointer none, .pointer (some ⟨w.heap.size + 1, 0, none⟩)]
    rwa [World.size_alloc, World.size_alloc] at this
  have b0 : Below w.heap.size w (((w.alloc (.cells #[.bool false] 4)).alloc (.cells #[.slice none 0 0, .int .i64 0, .bool false] 49)).alloc (.cells #[.pointer none, .pointer (some ⟨w.heap.size + 1, 0, none⟩)] 23)) := (((Below.refl _ w).alloc (Nat.le_refl _) _).alloc (by simp) _).alloc (by simp; omega) _
  obtain ⟨W0, hW0⟩ : ∃ W0, ((w.alloc (.cells #[.bool false] 4)).alloc (.cells #[.slice none 0 0, .int .i64 0, .bool false] 49)).alloc (.cells #[.pointer none, .pointer (some ⟨w.heap.size + 1, 0, none⟩)] 23) = W0 := ⟨_, rfl⟩
  rw [hW0] at kr kn kl0 b0 ⊢
  refine wpIn_loop_rounds 3 ?_

  -- round 0
  have n0 : NoNet W0 none := .inl rfl
  have l0 : W0.cell? ⟨w.heap.size + 1 + 1, 0, none⟩ = some (.pointer none) := (kl0.cell 0).trans rfl
  obtain ⟨X0, hX0⟩ : ∃ X, W0.alloc (.cells #[.int .i64 1] 3) = X := ⟨_, rfl⟩
  have bX0 : Below W0.heap.size W0 X0 := by rw [← hX0]; exact (Below.refl _ W0).alloc (Nat.le_refl _) _
  have m0 : NoNet X0 none := n0.below bX0
  rw [roundsIn_succ]
  gi_wp2_with (first
    | (refine ⟨trivial, ?_⟩; gi_at_call 11; refine (callsIn_wide.2 (no_take 0 n0)).mono ?_; rintro e w' ⟨rfl, rfl⟩)
    | (refine ⟨trivial, ?_⟩; gi_at_call 26; refine (callsIn_wide.2 (no_at 0 n0)).mono ?_; rintro e w' ⟨rfl, rfl⟩)
    | (refine ⟨trivial, ?_⟩; gi_at_call 7; refine (callsIn_wide.2 (no_send _ _ _ m0)).mono ?_; rintro e w' ⟨rfl, rfl⟩)
    | (refine ⟨trivial, ?_⟩; gi_at_call 10; refine (callsIn_wide.2 (no_twin 0 m0)).mono ?_; rintro e w' ⟨rfl, rfl⟩)
    | (refine ⟨trivial, ?_⟩; gi_at_call 27; refine (callsIn_wide.2 (no_lose 0 m0)).mono ?_; rintro e w' ⟨rfl, rfl⟩)
    | (refine ⟨trivial, ?_⟩; gi_at_call 9; refine (callsIn_wide.2 (no_len m0)).mono ?_; rintro e w' ⟨rfl, rfl⟩)
    | (refine ⟨trivial, ?_⟩; gi_at_call 12; refine (callsIn_wide.2 (no_sent m0)).mono ?_; rintro e w' ⟨rfl, rfl⟩)
    | (refine ⟨trivial, ?_⟩; gi_at_call 28; refine (callsIn_wide.2 (no_copy m0)).mono ?_; rintro e w' ⟨rfl, rfl⟩)
    | (refine ⟨trivial, ?_⟩; gi_at_call 29; refine (callsIn_wide.2 (no_keep m0)).mono ?_; rintro e w' ⟨rfl, rfl⟩)
    | (refine ⟨trivial, ?_⟩; gi_at_call 30; refine (callsIn_wide.2 (no_all m0)).mono ?_; rintro e w' ⟨rfl, rfl⟩))
  obtain ⟨Y0, hY0⟩ : ∃ Y, X0.alloc (.cells #[.slice none 0 0] 22) = Y := ⟨_, rfl⟩
  have bY0 : Below W0.heap.size W0 Y0 := by rw [← hY0]; exact bX0.alloc bX0.size _
  have kY0 := Blk.new X0 22 #[.slice none 0 0]
  rw [hY0] at kY0 ⊢
  have hsq0 := seq38 Y0 X0.heap.size ((kY0.cell 0).trans rfl) kY0.lt
  refine wpIn_rangeFunc_ownG (F := Fence.wide) rfl (by omega) (gf := 38) (lb := #[.pointer (some ⟨X0.heap.size, 0, none⟩)]) rfl trivial (enters_of Try.func38 (by kernel_rfl) rfl) hsq0 (fun h k => KpFrom.t h k) (fun W l o o' _ h hc _ => KpFrom.b W l o o' h hc) (Below.refl _ _) (fun x => x.elim)
    (fun _ W' => Below Y0.heap.size Y0 W') (fun _ _ _ => False) below_own (fun _ _ _ _ _ hs _ _ => hs) (Below.refl _ _) (fun x => x.elim) (fun _ x => x.elim) (fun _ _ x => x.elim) ?done ?stop
  case stop =>
    rintro D cc pre W _ _ h _
    exact h.elim
  case done =>
  rintro D0 ys0 V1 hD0 _ hb0 hK0
  have bV1 : Below W0.heap.size W0 V1 := bY0.trans (hb0.mono bY0.size)
  have kr1 := kr.below bV1 kr.lt
  have kn1 := kn.below bV1 kn.lt
  have kl1 := kl0.below bV1 kl0.lt
  gi_wp2

  -- round 1
  have n1 : NoNet V1 (some ⟨w.heap.size + 1, 0, none⟩) := .inr ⟨_, rfl, kn1⟩
  have l1 : V1.cell? ⟨w.heap.size + 1 + 1, 1, none⟩ = some (.pointer (some ⟨w.heap.size + 1, 0, none⟩)) := (kl1.cell 1).trans rfl
  obtain ⟨X1, hX1⟩ : ∃ X, V1.alloc (.cells #[.int .i64 1] 3) = X := ⟨_, rfl⟩
  have bX1 : Below V1.heap.size V1 X1 := by rw [← hX1]; exact (Below.refl _ V1).alloc (Nat.le_refl _) _
  have m1 : NoNet X1 (some ⟨w.heap.size + 1, 0, none⟩) := n1.below bX1
  rw [roundsIn_succ]
  gi_wp2_with (first
    | (refine ⟨trivial, ?_⟩; gi_at_call 11; refine (callsIn_wide.2 (no_take 0 n1)).mono ?_; rintro e w' ⟨rfl, rfl⟩)
    | (refine ⟨trivial, ?_⟩; gi_at_call 26; refine (callsIn_wide.2 (no_at 0 n1)).mono ?_; rintro e w' ⟨rfl, rfl⟩)
    | (refine ⟨trivial, ?_⟩; gi_at_call 7; refine (callsIn_wide.2 (no_send _ _ _ m1)).mono ?_; rintro e w' ⟨rfl, rfl⟩)
    | (refine ⟨trivial, ?_⟩; gi_at_call 10; refine (callsIn_wide.2 (no_twin 0 m1)).mono ?_; rintro e w' ⟨rfl, rfl⟩)
    | (refine ⟨trivial, ?_⟩; gi_at_call 27; refine (callsIn_wide.2 (no_lose 0 m1)).mono ?_; rintro e w' ⟨rfl, rfl⟩)
    | (refine ⟨trivial, ?_⟩; gi_at_call 9; refine (callsIn_wide.2 (no_len m1)).mono ?_; rintro e w' ⟨rfl, rfl⟩)
    | (refine ⟨trivial, ?_⟩; gi_at_call 12; refine (callsIn_wide.2 (no_sent m1)).mono ?_; rintro e w' ⟨rfl, rfl⟩)
    | (refine ⟨trivial, ?_⟩; gi_at_call 28; refine (callsIn_wide.2 (no_copy m1)).mono ?_; rintro e w' ⟨rfl, rfl⟩)
    | (refine ⟨trivial, ?_⟩; gi_at_call 29; refine (callsIn_wide.2 (no_keep m1)).mono ?_; rintro e w' ⟨rfl, rfl⟩)
    | (refine ⟨trivial, ?_⟩; gi_at_call 30; refine (callsIn_wide.2 (no_all m1)).mono ?_; rintro e w' ⟨rfl, rfl⟩))
  obtain ⟨Y1, hY1⟩ : ∃ Y, X1.alloc (.cells #[.slice none 0 0] 22) = Y := ⟨_, rfl⟩
  have bY1 : Below V1.heap.size V1 Y1 := by rw [← hY1]; exact bX1.alloc bX1.size _
  have kY1 := Blk.new X1 22 #[.slice none 0 0]
  rw [hY1] at kY1 ⊢
  have hsq1 := seq38 Y1 X1.heap.size ((kY1.cell 0).trans rfl) kY1.lt
  refine wpIn_rangeFunc_ownG (F := Fence.wide) rfl (by omega) (gf := 38) (lb := #[.pointer (some ⟨X1.heap.size, 0, none⟩)]) rfl trivial (enters_of Try.func38 (by kernel_rfl) rfl) hsq1 (fun h k => KpFrom.t h k) (fun W l o o' _ h hc _ => KpFrom.b W l o o' h hc) (Below.refl _ _) (fun x => x.elim)
    (fun _ W' => Below Y1.heap.size Y1 W') (fun _ _ _ => False) below_own (fun _ _ _ _ _ hs _ _ => hs) (Below.refl _ _) (fun x => x.elim) (fun _ x => x.elim) (fun _ _ x => x.elim) ?done ?stop
  case stop =>
    rintro D cc pre W _ _ h _
    exact h.elim
  case done =>
  rintro D1 ys1 V2 hD1 _ hb1 hK1
  have bV2 : Below V1.heap.size V1 V2 := bY1.trans (hb1.mono bY1.size)
  have kr2 := kr1.below bV2 kr1.lt
  have c0 := (kr2.cell 0).trans rfl
  have bw2 : Below w.heap.size w V2 := (b0.trans (bV1.mono b0.size)).trans (bV2.mono (b0.trans (bV1.mono b0.size)).size)
  have hk := knownB V2
  gi_wp2
  rw [roundsIn_succ]
  gi_wp2_with (refine ⟨trivial, ?_⟩; gi_at_call 8; refine (callsIn_wide.2 hk).mono ?_; clear hk; rintro e V3 ⟨rfl, b3⟩; have kr3 := kr2.below b3 kr2.lt; have c3 := (kr3.cell 0).trans rfl; have f3 := kr3.frozen)
  have hB4 : Below w.heap.size w (V3.setCell ⟨w.heap.size, 0, none⟩ (.bool true)) := (bw2.trans (b3.mono bw2.size)).setCell (p := ⟨w.heap.size, 0, none⟩) (Nat.le_refl _) _
  have kD1 : V3.heap[D1]? = some (.deferred (some [])) := (b3.block D1 (Array.getElem?_eq_some_iff.1 hK1).1).trans hK1
  have kD1' : (V3.setCell ⟨w.heap.size, 0, none⟩ (.bool true)).heap[D1]? = some (.deferred (some [])) := (KeepsOthers.setCell V3 ⟨w.heap.size, 0, none⟩ (.bool true)).same D1 _ kD1 rfl
  have hlt0 := (Array.getElem?_eq_some_iff.1 hK0).1
  have kD0a : V2.heap[D0]? = some (.deferred (some [])) := (bV2.block D0 hlt0).trans hK0
  have kD0 : V3.heap[D0]? = some (.deferred (some [])) := (b3.block D0 (Array.getElem?_eq_some_iff.1 kD0a).1).trans kD0a
  have kD0' : (V3.setCell ⟨w.heap.size, 0, none⟩ (.bool true)).heap[D0]? = some (.deferred (some [])) := (KeepsOthers.setCell V3 ⟨w.heap.size, 0, none⟩ (.bool true)).same D0 _ kD0 rfl
  have hne : D0 ≠ D1 := by have := bY1.size; omega
  have c4 : (V3.setCell ⟨w.heap.size, 0, none⟩ (.bool true)).cell? ⟨w.heap.size, 0, none⟩ = some (.bool true) := World.cell?_setCell_same' V3 ⟨w.heap.size, 0, none⟩ (.bool true) (by rw [c3]; rfl)
  have s0 := b0.size
  have s1 := bV1.size
  have sY0 := bY0.size
  have sY1 := bY1.size
  obtain ⟨V4, hV4⟩ : ∃ V, V3.setCell ⟨w.heap.size, 0, none⟩ (.bool true) = V := ⟨_, rfl⟩
  rw [hV4] at hB4 kD1' kD0' c4 ⊢
  have kD0'' : (V4.putObj D1 (.deferred none)).heap[D0]? = some (.deferred (some [])) := (World.putObj_heap_other hne).trans kD0'
  have c5 := cell_kept c4 (grownBy_putObj' _ D1 (.deferred none)) (fun r e => by cases e; exact ⟨_, kD1', rfl⟩)
  have c6 := cell_kept c5 (grownBy_putObj' _ D0 (.deferred none)) (fun r e => by cases e; exact ⟨_, kD0'', rfl⟩)
  refine ⟨by simp, .inl ⟨_, _, rfl, run_takeDeferred kD1', by simp, .inl ⟨_, _, rfl, run_takeDeferred kD0'', ?_⟩⟩⟩
  refine ⟨.bool true, ?_, rfl, (hB4.trans (belowK_b (w := w) (Nat.le_refl _) V4 D1 _ _ (by omega) kD1' rfl rfl)).trans (belowK_b (w := w) (Nat.le_refl _) _ D0 _ _ (by omega) kD0'' rfl rfl)⟩
  simp [results, Try.f5, go_sem, c6]
end Go.Proofs.Ytbbjbbcakfmpgaa
