/- wire.Reader: count, Bytes, Flag; Open. Conditions: those that each states. -/
import Derived.Test.YtpnagblbhlglhaaWireRd2
namespace Go.Proofs.Ytpnagblbhlglhaa
open Go.RowKit

/-- What count answers where most is M. -/
def cntE (l : List Nat) (M : Nat) : Nat := if rdE l = 0 then (if M < rdV l then 3 else 0) else 4
def cntV (l : List Nat) (M : Nat) : Nat := if cntE l M = 0 then rdV l else 0

set_option maxHeartbeats 1000000 in
set_option maxRecDepth 100000 in
theorem count_any (w : World) (r : Nat) (A : Addr) (c : Nat) (bs : List Nat) (at_ : Nat) (M : Nat) (hM : M ≤ 9223372036854775807) (h : RdI w r A c bs at_) :
    Calls Try.prog 72 #[.pointer (some ⟨r, 0, none⟩), .int .i64 M] w fun e w' => e = .returned (.tuple #[.int .i64 (cntV (bs.drop at_) M), .int .i64 (cntE (bs.drop at_) M)]) ∧ RdI w' r A c bs (at_ + rdK (bs.drop at_)) ∧ Fr (fun k => k = r) w w' := by
  have hn := rdnum_any w r A c bs at_ h
  obtain ⟨hv, _, hE4, _, hz⟩ := rd_bounds (bs.drop at_) (h.small.drop at_)
  unfold cntV cntE
  obtain ⟨V, hV⟩ : ∃ V, rdV (bs.drop at_) = V := ⟨_, rfl⟩
  obtain ⟨E, hE⟩ : ∃ E, rdE (bs.drop at_) = E := ⟨_, rfl⟩
  obtain ⟨K, hK⟩ : ∃ K, rdK (bs.drop at_) = K := ⟨_, rfl⟩
  rw [hV, hE, hK] at hn
  rw [hV] at hv
  rw [hE] at hE4
  rw [hV, hE, hK]
  clear hV hE hK h hz
  have m0 : ¬ (M : Int) < 0 := by omega
  have m1 : IntKind.u64.wrap (M : Int) = (M : Int) := by rw [IntKind.wrap_u64]; omega
  rcases hE4 with rfl | rfl
  · by_cases hlt : M < V
    · have l1 : (M : Int) < (V : Int) := by omega
      simp only [if_pos hlt, if_true, show ((3 : Nat) = 0) = False by simp, if_false]
      go_enter Try.func72, Try.ntmps72
      go_wp2_with (go_at_call 35; refine hn.mono ?_; clear hn; rintro e w1 ⟨rfl, h1, f1⟩)
      go_ret2
      exact ⟨rfl, h1, f1⟩
    · have l1 : ¬ (M : Int) < (V : Int) := by omega
      have l2 : wrap64 (V : Int) = (V : Int) := IntWalk.wrap64_in _ (by omega)
      simp only [if_neg hlt, if_true]
      go_enter Try.func72, Try.ntmps72
      go_wp2_with (go_at_call 35; refine hn.mono ?_; clear hn; rintro e w1 ⟨rfl, h1, f1⟩)
      go_ret2
      exact ⟨rfl, h1, f1⟩
  · simp only [show ((4 : Nat) = 0) = False by simp, if_false]
    go_enter Try.func72, Try.ntmps72
    go_wp2_with (go_at_call 35; refine hn.mono ?_; clear hn; rintro e w1 ⟨rfl, h1, f1⟩)
    go_ret2
    exact ⟨rfl, h1, f1⟩

/-! ### Bytes -/
/-- What Bytes answers: the error; how many. -/
def bytE (bs : List Nat) (at_ M : Nat) : Nat := if cntE (bs.drop at_) M = 0 then (if bs.length - (at_ + rdK (bs.drop at_)) < rdV (bs.drop at_) then 4 else 0) else cntE (bs.drop at_) M

set_option maxHeartbeats 1000000 in
set_option maxRecDepth 100000 in
theorem rdbytes_err (w : World) (r : Nat) (A : Addr) (c : Nat) (bs : List Nat) (at_ : Nat) (M : Nat) (hM : M ≤ 9223372036854775807) (h : RdI w r A c bs at_) (he : bytE bs at_ M ≠ 0) :
    Calls Try.prog 37 #[.pointer (some ⟨r, 0, none⟩), .int .i64 M] w fun e w' => e = .returned (.tuple #[.slice none 0 0, .int .i64 (bytE bs at_ M)]) ∧ RdI w' r A c bs at_ ∧ Fr (fun k => k = r) w w' := by
  have c1 : w.cell? ⟨r, 1, none⟩ = some (.int .i64 at_) := (h.blk.cell 1).trans rfl
  have ht := there_any w r A c bs at_ h
  have hc := count_any w r A c bs at_ M hM h
  have hle := h.le
  obtain ⟨hv, _, _, _, hz⟩ := rd_bounds (bs.drop at_) (h.small.drop at_)
  have hcE : cntE (bs.drop at_) M = 0 ∨ cntE (bs.drop at_) M = 3 ∨ cntE (bs.drop at_) M = 4 := by unfold cntE; split <;> (try split) <;> simp
  have hcV : cntE (bs.drop at_) M = 0 → cntV (bs.drop at_) M = rdV (bs.drop at_) := fun h => by unfold cntV; rw [if_pos h]
  unfold bytE at he ⊢
  obtain ⟨V, hV⟩ : ∃ V, rdV (bs.drop at_) = V := ⟨_, rfl⟩
  obtain ⟨K, hK⟩ : ∃ K, rdK (bs.drop at_) = K := ⟨_, rfl⟩
  obtain ⟨E, hE⟩ : ∃ E, cntE (bs.drop at_) M = E := ⟨_, rfl⟩
  obtain ⟨N, hN⟩ : ∃ N, cntV (bs.drop at_) M = N := ⟨_, rfl⟩
  rw [hN, hE, hK] at hc
  rw [hE, hN, hV] at hcV
  rw [hE] at hcE
  rw [hV, hK, hE] at he ⊢
  rw [hV] at hv
  clear hV hE hK hN hz
  have hback : ∀ w1, RdI w1 r A c bs (at_ + K) → Fr (fun k => k = r) w w1 → ∀ wx, wx = w1.setCell ⟨r, 1, none⟩ (.int .i64 (at_ : Int)) → RdI wx r A c bs at_ ∧ Fr (fun k => k = r) w wx := by
    rintro w1 h1 f1 wx rfl
    exact ⟨h1.set_ hle, f1.setCell (p := ⟨r, 1, none⟩) (fun _ => rfl) _⟩
  rcases hcE with rfl | rfl | rfl
  · obtain rfl : N = V := hcV rfl
    have hlt : bs.length - (at_ + K) < N := by
      by_cases h : bs.length - (at_ + K) < N
      · exact h
      · simp [h] at he
    have l1 : ((bs.length - (at_ + K) : Nat) : Int) < (N : Int) := by omega
    obtain ⟨L, hL⟩ : ∃ L, bs.length - (at_ + K) = L := ⟨_, rfl⟩
    rw [hL] at l1
    have hl2 : L < N := by omega
    simp only [hL, if_pos hl2, if_true]
    go_enter Try.func37, Try.ntmps37
    go_wp2_with (first | (go_at_call 71; refine ht.mono ?_; clear ht; rintro e w' ⟨rfl, rfl⟩) | (go_at_call 72; refine hc.mono ?_; clear hc; rintro e w1 ⟨rfl, h1, f1⟩; have hl := left_any w1 r A c bs _ h1; rw [hL] at hl) | (go_at_call 41; refine hl.mono ?_; clear hl; rintro e w2 ⟨rfl, m, rfl⟩; have d1 : (w1.drewN m).cell? ⟨r, 1, none⟩ = some (.int .i64 ((at_ + K : Nat) : Int)) := (h1.blk.cell 1).trans rfl; have g1 := (h1.blk.drewN m).frozen 1))
    go_ret2
    obtain ⟨k1, k2⟩ := hback _ (h1.drewN m) (f1.drewN m) _ rfl
    exact ⟨rfl, k1, k2⟩
  · simp only [show ((3 : Nat) = 0) = False by simp, show ((4 : Nat) = 0) = False by simp, if_false]
    go_enter Try.func37, Try.ntmps37
    go_wp2_with (first | (go_at_call 71; refine ht.mono ?_; clear ht; rintro e w' ⟨rfl, rfl⟩) | (go_at_call 72; refine hc.mono ?_; clear hc; rintro e w1 ⟨rfl, h1, f1⟩; have d1 : w1.cell? ⟨r, 1, none⟩ = some (.int .i64 ((at_ + K : Nat) : Int)) := (h1.blk.cell 1).trans rfl; have g1 := h1.blk.frozen 1))
    go_ret2
    obtain ⟨k1, k2⟩ := hback _ h1 f1 _ rfl
    exact ⟨rfl, k1, k2⟩
  · simp only [show ((3 : Nat) = 0) = False by simp, show ((4 : Nat) = 0) = False by simp, if_false]
    go_enter Try.func37, Try.ntmps37
    go_wp2_with (first | (go_at_call 71; refine ht.mono ?_; clear ht; rintro e w' ⟨rfl, rfl⟩) | (go_at_call 72; refine hc.mono ?_; clear hc; rintro e w1 ⟨rfl, h1, f1⟩; have d1 : w1.cell? ⟨r, 1, none⟩ = some (.int .i64 ((at_ + K : Nat) : Int)) := (h1.blk.cell 1).trans rfl; have g1 := h1.blk.frozen 1))
    go_ret2
    obtain ⟨k1, k2⟩ := hback _ h1 f1 _ rfl
    exact ⟨rfl, k1, k2⟩

set_option maxHeartbeats 2000000 in
set_option maxRecDepth 100000 in
theorem rdbytes_ok (w : World) (r : Nat) (A : Addr) (c : Nat) (bs : List Nat) (at_ : Nat) (M : Nat) (hM : M ≤ 9223372036854775807) (h : RdI w r A c bs at_) (he : bytE bs at_ M = 0) :
    Calls Try.prog 37 #[.pointer (some ⟨r, 0, none⟩), .int .i64 M] w fun e w' => ∃ A2 c2, e = .returned (.tuple #[.slice A2 (rdV (bs.drop at_)) c2, .int .i64 0]) ∧
      w'.ownsRow w.heap.size 5 1 (.slice A2 (rdV (bs.drop at_)) c2) (rdV (bs.drop at_)) (byts ((bs.drop (at_ + rdK (bs.drop at_))).take (rdV (bs.drop at_)))) ∧
      RdI w' r A c bs (at_ + rdK (bs.drop at_) + rdV (bs.drop at_)) ∧ Fr (fun k => k = r) w w' := by
  obtain ⟨i0, hi, hz0, hz1, hz2⟩ := info_parts Try.info5w
  have c1 : w.cell? ⟨r, 1, none⟩ = some (.int .i64 at_) := (h.blk.cell 1).trans rfl
  have ht := there_any w r A c bs at_ h
  have hc := count_any w r A c bs at_ M hM h
  have hle := h.le
  have hlen := h.len
  have hcap := h.cap
  have hrl := h.lt
  obtain ⟨hv, hK2, _, _, _⟩ := rd_bounds (bs.drop at_) (h.small.drop at_)
  rw [List.length_drop] at hK2
  unfold bytE at he
  have hc0 : cntE (bs.drop at_) M = 0 := by
    by_cases h : cntE (bs.drop at_) M = 0
    · exact h
    · rw [if_neg h] at he; exact absurd he h
  rw [if_pos hc0] at he
  have hcV : cntV (bs.drop at_) M = rdV (bs.drop at_) := by unfold cntV; rw [if_pos hc0]
  obtain ⟨N, hV⟩ : ∃ V, rdV (bs.drop at_) = V := ⟨_, rfl⟩
  obtain ⟨K, hK⟩ : ∃ K, rdK (bs.drop at_) = K := ⟨_, rfl⟩
  rw [hcV, hV, hc0, hK] at hc
  rw [hV, hK] at he ⊢
  rw [hK] at hK2
  have hN : N ≤ bs.length - (at_ + K) := by
    by_cases h : bs.length - (at_ + K) < N
    · rw [if_pos h] at he; cases he
    · omega
  obtain ⟨P, hP⟩ : ∃ P, at_ + K = P := ⟨_, rfl⟩
  rw [hP] at hc hN ⊢
  have hPle : P + N ≤ bs.length := by omega
  clear hV hK hcV hc0 he hv h hle hK2 hP
  have l1 : ¬ ((bs.length - P : Nat) : Int) < (N : Int) := by omega
  have u1 : IntKind.i64.wrap ((P : Int) + (N : Int)) = (P : Int) + (N : Int) := IntWalk.i64_in _ (by omega)
  have u2 : IntKind.i64.wrap (P : Int) = (P : Int) := IntWalk.i64_in _ (by omega)
  have u3 : (0 : Int) ≤ (P : Int) := by omega
  have u4 : (P : Int) ≤ (P : Int) + (N : Int) := by omega
  have u5 : (P : Int) + (N : Int) ≤ (c : Int) := by omega
  have u6 : ((P : Int) + (N : Int)).toNat = P + N := by omega
  have u7 : P + N - P = N := by omega
  have u8 : ¬ c = P := by omega
  obtain ⟨L, hL⟩ : ∃ L, bs.length - P = L := ⟨_, rfl⟩
  rw [hL] at l1
  obtain ⟨Y, hY⟩ : ∃ Y, (bs.drop P).take N = Y := ⟨_, rfl⟩
  rw [hY]
  go_enter Try.func37, Try.ntmps37
  go_wp2_with (first | (go_at_call 71; refine ht.mono ?_; clear ht; rintro e w' ⟨rfl, rfl⟩) | (go_at_call 72; refine hc.mono ?_; clear hc; rintro e w1 ⟨rfl, h1, f1⟩; have hl := left_any w1 r A c bs _ h1; rw [hL] at hl) | (go_at_call 41; refine hl.mono ?_; clear hl; rintro e w2 ⟨rfl, m, rfl⟩; have d1 : (w1.drewN m).cell? ⟨r, 1, none⟩ = some (.int .i64 (P : Int)) := (h1.blk.cell 1).trans rfl; have g1 := (h1.blk.drewN m).frozen 1))
  have h3 := (h1.drewN m).set_ (a' := P + N) hPle
  have f3 : Fr (fun k => k = r) w ((w1.drewN m).setCell ⟨r, 1, none⟩ (.int .i64 ((P + N : Nat) : Int))) := (f1.drewN m).setCell (p := ⟨r, 1, none⟩) (fun _ => rfl) _
  have e0 : ((P + N : Nat) : Int) = (P : Int) + (N : Int) := by omega
  rw [e0] at h3 f3
  generalize hwq : World.setCell _ _ _ = wq at h3 f3 ⊢
  clear hwq d1 g1
  have k0 : wq.cell? ⟨r, 0, none⟩ = some (.slice (some A) bs.length c) := (h3.blk.cell 0).trans rfl
  have k1 : wq.cell? ⟨r, 1, none⟩ = some (.int .i64 ((P : Int) + (N : Int))) := by rw [← e0]; exact (h3.blk.cell 1).trans rfl
  have hsub := h3.reads.sub (lo := P) (hi := P + N) (cap := c) (by omega) hPle (by omega)
  rw [if_neg u8, u7, ← byts_drop, ← byts_take] at hsub
  rw [hY] at hsub
  have hr' : Reads (wq.alloc (.cells #[] 5)).drew wq.heap.size 1 (some (A.add P)) N (byts Y) := (hsub.alloc (Nat.le_refl _) _).drew
  have ho : (wq.alloc (.cells #[] 5)).drew.ownsRow wq.heap.size 5 1 (.slice (some ⟨wq.heap.size, 0, none⟩) 0 0) 0 [] := World.ownsRow_made wq #[] 0 (Nat.le_refl _) (by unfold maxLen; omega) rfl
  have hfin : ∀ v2 w2, w2.ownsRow wq.heap.size 5 1 v2 (0 + N) ([] ++ byts Y) → (wq.alloc (.cells #[] 5)).drew.grownBy w2 (Value.slice (some ⟨wq.heap.size, 0, none⟩) 0 0).ownBlock →
      ∃ A2 c2, v2 = .slice A2 N c2 ∧ w2.ownsRow w.heap.size 5 1 (.slice A2 N c2) N (byts Y) ∧ RdI w2 r A c bs (P + N) ∧ Fr (fun k => k = r) w w2 := by
    intro v2 w2 ho2 hg2
    rw [Nat.zero_add, List.nil_append] at ho2
    obtain ⟨A2, c2, rfl⟩ := own_shape ho2
    have hb2 : Below wq.heap.size wq w2 := ((Below.refl _ wq).alloc (Nat.le_refl _) (.cells #[] 5)).drew.grown hg2 (by simp) (own_base ho)
    refine ⟨A2, c2, rfl, own_mono ho2 f3.size, ?_, f3.new (S' := noB) hb2⟩
    exact h3.fr (Fr.of_new (S := noB) hb2) (fun h => h) (fun h => h)
  have hrq : r < wq.heap.size := h3.blk.lt
  have k0' : (wq.alloc (.cells #[] 5)).cell? ⟨r, 0, none⟩ = some (.slice (some A) bs.length c) := (World.cell?_alloc_lt wq _ ⟨r, 0, none⟩ hrq).trans k0
  have k1' : (wq.alloc (.cells #[] 5)).cell? ⟨r, 1, none⟩ = some (.int .i64 ((P : Int) + (N : Int))) := (World.cell?_alloc_lt wq _ ⟨r, 1, none⟩ hrq).trans k1
  clear hY hsub h3 f3 h1 f1 e0
  go_region_law (first | (refine step_append_any (wq.alloc (.cells #[] 5)).drew rfl _ _ 24 rfl wq.heap.size 5 i0 (.int .u8 0) 1 1 Try.underlying24 hi hz0 hz1 hz2 rfl (by decide) _ _ _ rfl ho wq.heap.size (some (A.add P)) N _ _ rfl hr' (byts_one _) (by unfold maxLen; omega) (by omega) (by simp) ?_; intro v2 w2 ho2 hg2 _; obtain ⟨A2, c2, rfl, k1, k2, k3⟩ := hfin v2 w2 ho2 hg2))
  all_goals
    go_wp2
    go_ret2
    exact ⟨A2, c2, rfl, k1, k2, k3⟩

end Go.Proofs.Ytpnagblbhlglhaa
