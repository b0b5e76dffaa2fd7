/- pair, and wire.Take of pairs. Conditions: those that each states. -/
import Derived.Test.YtpnagblbhlglhaaWirePairs
namespace Go.Proofs.Ytpnagblbhlglhaa
open Go.RowKit

theorem Try.info61w : (Try.prog.info? 61).map (fun i => (i.zero, i.size, i.bytes)) = some (some (.agg #[.int .u64 0, .int .u64 0]), 2, 16) := by kernel_rfl
theorem reads_pair (w : World) (a b : Nat) : Reads (w.alloc (.cells #[.int .u64 (a : Int), .int .u64 (b : Int)] 61)) (w.heap.size + 1) 2 (some ⟨w.heap.size, 0, none⟩) 1 (wrds [a, b]) := by
  refine ⟨by simp [wrds], fun _ => ⟨_, rfl, by simp, fun j u hu => ?_⟩⟩
  rw [addr_add, (Blk.new w 61 _).cell j]
  simpa [wrds] using hu

set_option maxHeartbeats 2000000 in
set_option maxRecDepth 100000 in
theorem pair_any (w : World) (r : Nat) (A : Addr) (c : Nat) (bs : List Nat) (at_ : Nat) (h : RdI w r A c bs at_) :
    Calls Try.prog 45 #[.pointer (some ⟨r, 0, none⟩)] w fun e w' => e = .returned (.tuple #[.agg #[.int .u64 (rdV (bs.drop at_)), .int .u64 (pB (bs.drop at_))], .int .i64 (pE (bs.drop at_))]) ∧
      RdI w' r A c bs (at_ + pK (bs.drop at_)) ∧ Fr (fun k => k = r) w w' := by
  obtain ⟨wa, hwa⟩ : ∃ wa, w.alloc (.cells #[.int .u64 0, .int .u64 0] 61) = wa := ⟨_, rfl⟩
  have hb0 : Below w.heap.size w wa := by subst hwa; exact (Below.refl _ w).alloc (Nat.le_refl _) _
  have hrl := h.lt
  have hAl := fun h0 => h.in_ h0
  have hbk : Blk wa w.heap.size 61 #[.int .u64 0, .int .u64 0] := by subst hwa; exact Blk.new w 61 _
  have h0 : RdI wa r A c bs at_ := h.fr2 (Fr.of_new (S := noB) hb0) (fun h => h) (fun _ h => h)
  have hsz : wa.heap.size = w.heap.size + 1 := by subst hwa; simp
  have hn := rdnum_any wa r A c bs at_ h0
  have hsmall := h.small
  obtain ⟨hv, hK, hE, hz1, hz4⟩ := rd_bounds (bs.drop at_) (hsmall.drop at_)
  have f0 : Fr (fun k => k = r) w wa := Fr.of_new hb0
  unfold pB pE pK
  obtain ⟨V, hV⟩ : ∃ V, rdV (bs.drop at_) = V := ⟨_, rfl⟩
  obtain ⟨K, hK'⟩ : ∃ K, rdK (bs.drop at_) = K := ⟨_, rfl⟩
  obtain ⟨E, hE'⟩ : ∃ E, rdE (bs.drop at_) = E := ⟨_, rfl⟩
  rw [hV, hK', hE'] at hn
  rw [hE'] at hE hz4
  rw [hV, hK', hE', List.drop_drop]
  rw [hV, hK'] at hz4
  -- the block that is told
  have fin : ∀ (wx : World) (a b : Nat) (p : Nat), RdI wx r A c bs p → Fr (fun k => k = r) wa wx →
      Fr (fun k => k = r) w (((wx.setCell ⟨w.heap.size, 0, none⟩ (.int .u64 (a : Int))).setCell ⟨w.heap.size, 1, none⟩ (.int .u64 (b : Int)))) ∧
      RdI ((wx.setCell ⟨w.heap.size, 0, none⟩ (.int .u64 (a : Int))).setCell ⟨w.heap.size, 1, none⟩ (.int .u64 (b : Int))) r A c bs p := by
    intro wx a b p hx fx
    have g1 : Fr (fun k => k = w.heap.size) wx ((wx.setCell ⟨w.heap.size, 0, none⟩ (.int .u64 (a : Int))).setCell ⟨w.heap.size, 1, none⟩ (.int .u64 (b : Int))) :=
      ((Fr.refl (fun k => k = w.heap.size) wx).setCell (p := ⟨w.heap.size, 0, none⟩) (fun _ => rfl) _).setCell (p := ⟨w.heap.size, 1, none⟩) (fun _ => rfl) _
    exact ⟨(f0.trans' fx).trans g1 (fun k hk e => by omega), hx.fr2 g1 (fun e => by omega) (fun hp e => by have := hAl hp; omega)⟩
  rcases hE with e0 | e4
  · subst e0
    simp only [if_true]
    rw [show (((0 : Nat) : Nat) : Int) = 0 from rfl] at hn
    go_enter Try.func45, Try.ntmps45
    go_wp2_with (first
      | (go_at_call 35; refine hn.mono ?_; clear hn; rintro e w1 ⟨rfl, h1, f1⟩; have hn2 := rdnum_any w1 r A c bs _ h1)
      | (go_at_call 35; go_must (refine hn2.mono ?_); clear hn2; rintro e w2 ⟨rfl, h2, f2⟩; have hk2 := (hbk.fr f1 (by omega)).fr f2 (by omega); have k0 := (hk2.cell 0).trans rfl; have k1 := (hk2.cell 1).trans rfl; have g0 := hk2.frozen 0; have g1 := hk2.frozen 1))
    obtain ⟨V2, hV2⟩ : ∃ V2, rdV (bs.drop (at_ + K)) = V2 := ⟨_, rfl⟩
    obtain ⟨E2, hE2⟩ : ∃ E2, rdE (bs.drop (at_ + K)) = E2 := ⟨_, rfl⟩
    obtain ⟨K2, hK2⟩ : ∃ K2, rdK (bs.drop (at_ + K)) = K2 := ⟨_, rfl⟩
    rw [hV2, hE2, hK2]
    rw [hK2, Nat.add_assoc] at h2
    have hk3 : Blk _ w.heap.size 61 #[.int .u64 (V : Int), .int .u64 (V2 : Int)] := (hk2.set_ 0 (.int .u64 (V : Int))).set_ 1 (.int .u64 (V2 : Int))
    have c0 := (hk3.cell 0).trans rfl
    have c1 := (hk3.cell 1).trans rfl
    obtain ⟨q1, q2⟩ := fin w2 V V2 _ h2 (f1.trans' f2)
    exact bodyPost_ret (v := .tuple #[.agg #[.int .u64 (V : Int), .int .u64 (V2 : Int)], .int .i64 (E2 : Int)]) (by simp [results, Try.results45, go_sem, c0, c1]) rfl ⟨rfl, q2, q1⟩
  · subst e4
    simp only [show ((4 : Nat) = 0) = False by simp, if_false]
    rw [show (((4 : Nat) : Nat) : Int) = 4 from rfl] at hn
    obtain ⟨z1, z2⟩ := hz4 rfl
    subst z1
    subst z2
    go_enter Try.func45, Try.ntmps45
    go_wp2_with (go_at_call 35; refine hn.mono ?_; clear hn; rintro e w2 ⟨rfl, h2, f2⟩; have hk2 := hbk.fr f2 (by omega); have k0 := (hk2.cell 0).trans rfl; have k1 := (hk2.cell 1).trans rfl; have g0 := hk2.frozen 0; have g1 := hk2.frozen 1)
    have hk3 : Blk _ w.heap.size 61 #[.int .u64 0, .int .u64 0] := (hk2.set_ 0 (.int .u64 0)).set_ 1 (.int .u64 0)
    have c0 := (hk3.cell 0).trans rfl
    have c1 := (hk3.cell 1).trans rfl
    obtain ⟨q1, q2⟩ := fin w2 0 0 _ h2 f2
    exact bodyPost_ret (v := .tuple #[.agg #[.int .u64 0, .int .u64 0], .int .i64 4]) (by simp [results, Try.results45, go_sem, c0, c1]) rfl ⟨rfl, q2, q1⟩
end Go.Proofs.Ytpnagblbhlglhaa
