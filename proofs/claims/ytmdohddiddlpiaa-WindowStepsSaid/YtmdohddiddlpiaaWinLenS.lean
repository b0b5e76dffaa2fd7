/- wicket/window at one type of things: Len. Conditions: those that it states. -/
import Derived.Test.YtmdohddiddlpiaaWinSeqS
namespace Go.Proofs.Ytmdohddiddlpiaa
open Go.RowKit Go.Shelf
attribute [local go_sem] Oper.semAt_some

set_option maxHeartbeats 2000000 in
set_option maxRecDepth 100000 in
theorem lenS (w : World) (p g n c : Nat) (o : Nat → Bool) (v : Nat → ByteArray) (m l : Nat) (h : RWS w p g n c o v m l) :
    Calls Try.prog 22 #[.pointer (some ⟨p, 0, none⟩)] w fun e w' => e = .returned (.int .i64 (outsNS o v n m (l - m)).length) ∧ Below w.heap.size w w' := by
  refine (callsIn_wide (n := 9)).1 ?_
  have hB0 : Below w.heap.size w ((w.alloc (.cells #[.int .i64 0] 3)).alloc (.cells #[.pointer (some ⟨p, 0, none⟩)] 38)) := ((Below.refl _ w).alloc (Nat.le_refl _) _).alloc (by simp) _
  have hR := h.fr (S := noB) (Fr.of_new hB0) (fun h => h) (fun h => h)
  have k0 : Blk ((w.alloc (.cells #[.int .i64 0] 3)).alloc (.cells #[.pointer (some ⟨p, 0, none⟩)] 38)) w.heap.size 3 #[.int .i64 0] := (Blk.new w 3 _).alloc _
  have k1 : Blk ((w.alloc (.cells #[.int .i64 0] 3)).alloc (.cells #[.pointer (some ⟨p, 0, none⟩)] 38)) (w.heap.size + 1) 38 #[.pointer (some ⟨p, 0, none⟩)] := by
    have := Blk.new (w.alloc (.cells #[.int .i64 0] 3)) 38 #[.pointer (some ⟨p, 0, none⟩)]
    rwa [World.size_alloc] at this
  have hs0 : ((w.alloc (.cells #[.int .i64 0] 3)).alloc (.cells #[.pointer (some ⟨p, 0, none⟩)] 38)).heap.size = w.heap.size + 2 := by simp
  have hall := allS (w.alloc (.cells #[.int .i64 0] 3)) (some ⟨p, 0, none⟩)
  rw [World.size_alloc] at hall
  have hlen := outs_lenS o v n m (l - m)
  have hfar := h.far
  obtain ⟨X, hX⟩ : ∃ X, outsNS o v n m (l - m) = X := ⟨_, rfl⟩
  have hseq := fun (W : World) (e : (w.alloc (.cells #[.int .i64 0] 3)).alloc (.cells #[.pointer (some ⟨p, 0, none⟩)] 38) = W) => seqS W (w.heap.size + 2) (w.heap.size + 1) p g n c o v m l (by rw [← e]; exact hR) (by rw [← e]; exact (k1.cell 0).trans rfl) (by rw [← e, hs0]; omega) (by rw [← e, hs0]; exact Nat.le_refl _) 8 (by omega)
  simp only [hX] at hseq hlen ⊢
  have hl1 : X.length ≤ 1000000 := by omega
  clear hX hR h hlen
  refine callsIn_of_wp_marks Try.func22 rfl trivial ?_ rfl
  simp only [Try.ntmps22, List.size_toArray, List.length_cons, List.length_nil, Nat.reduceAdd, Nat.reduceSub, Array.replicate_succ, Array.replicate_zero, List.push_toArray, List.append_toArray, List.nil_append, List.cons_append]
  gi_wp2_with (refine ⟨trivial, ?_⟩; gi_at_call 42; refine (callsIn_wide.2 hall).mono ?_; clear hall; rintro e w' ⟨rfl, rfl⟩)
  obtain ⟨W0, hW0⟩ : ∃ W0, (w.alloc (.cells #[.int .i64 0] 3)).alloc (.cells #[.pointer (some ⟨p, 0, none⟩)] 38) = W0 := ⟨_, rfl⟩
  have hsq := hseq W0 hW0
  rw [hW0] at hB0 k0 hs0 ⊢
  clear hseq hW0 k1
  refine wpIn_rangeFunc_ownG (F := Fence.wide) rfl (by omega) (gf := 48) (lb := #[.pointer (some ⟨w.heap.size + 1, 0, none⟩)]) rfl trivial (enters_of Try.func48 (by kernel_rfl) rfl) hsq (fun h k => KpFrom.t h k) (fun W l o o' _ h hc _ => KpFrom.b W l o o' h hc) (Below.refl _ _) (fun _ => rfl)
    (fun pre W => Blk W w.heap.size 3 #[.int .i64 (pre.length : Nat)] ∧ Below w.heap.size w W)
    (fun _ _ _ => False)
    (fun s A B row hs hg hr => ⟨Blk.turn hs.1 hg (fun r e => (hr r e).2), ownFrom_below (β := List (Nat × ByteArray)) (Nat.le_refl _) (by rw [hs0]; omega) s A B row hs.2 hg hr⟩)
    (fun _ _ _ _ _ hs _ _ => hs)
    ⟨k0, hB0⟩
    (fun x => { tmps := #[.pointer (some ⟨p, 0, none⟩), undef, .int .i64 0, .pointer (some ⟨w.heap.size, 0, none⟩), .pointer (some ⟨p, 0, none⟩), .func (.func 48) #[] #[.pointer (some ⟨w.heap.size + 1, 0, none⟩)], .int .i64 (x.1 : Int), Value.string x.2, undef, undef, undef], defers := [] }) ?assign ?body ?done ?stop
  case assign =>
    intro L x W K hK
    simp only [encS]
    gi_wp2
    simp
    exact hK
  case body =>
    rintro L pre x W ⟨hb, hB⟩ hlt
    have c0 := (hb.cell 0).trans rfl
    have f0 := hb.frozen 0
    have b1 : (pre.length : Int) ≤ 1000000 := by omega
    have hw : W.heap.size ≤ W.heap.size := Nat.le_refl _
    have f1 : Fr (fun k => k = w.heap.size) W (W.setCell ⟨w.heap.size, 0, none⟩ (.int .i64 ((pre.length : Int) + 1))) := (Fr.refl (fun k => k = w.heap.size) W).setCell (p := ⟨w.heap.size, 0, none⟩) (fun _ => rfl) _
    have hb2 : Blk (W.setCell ⟨w.heap.size, 0, none⟩ (.int .i64 ((pre.length : Int) + 1))) w.heap.size 3 #[.int .i64 ((pre ++ [x]).length : Nat)] := by
      have := hb.set_ 0 (.int .i64 ((pre.length : Int) + 1))
      simpa using this
    have HF := Lib.hid (And.intro f1 hb2)
    clear f1 hb2 hb
    gi_wp2
    exact ⟨keepsFrom_fr HF.out.1 (fun k e => .inl (by omega)), KpFrom.fr HF.out.1 (fun k e => .inl (by omega)), HF.out.2, hB.setCell (p := ⟨w.heap.size, 0, none⟩) (Nat.le_refl _) _⟩
  case done =>
    rintro D ys W hD rfl ⟨hb, hB⟩ hK
    have c0 := (hb.cell 0).trans rfl
    gi_wp2
    refine ⟨by simp, .inl ⟨_, _, rfl, run_takeDeferred hK, ?_⟩⟩
    exact ⟨_, results_tmp rfl _ _ _, rfl, hB.trans (belowK_b (w := w) (Nat.le_refl _) W D _ _ (by omega) hK rfl rfl)⟩
  case stop =>
    rintro D cc pre W _ _ h _
    exact h.elim
end Go.Proofs.Ytmdohddiddlpiaa
