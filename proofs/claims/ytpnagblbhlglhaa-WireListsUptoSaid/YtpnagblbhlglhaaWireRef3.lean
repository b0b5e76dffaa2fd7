/- The document's reader: Bytes. Conditions: those that each states. -/
import Derived.Test.YtpnagblbhlglhaaWireRef2
import Derived.Deep.RegionLaw
import Derived.Deep.RegionHeldLaw
namespace Go.Proofs.Ytpnagblbhlglhaa
open Go.RowKit

section
variable (w : World) (B r : Nat) (A : Option Addr) (c : Nat) (bs : List Nat) (at_ : Nat) (M : Nat) (hM : M ≤ 9223372036854775807) (h : RdR w B r A c bs at_)
include hM h
set_option maxHeartbeats 2000000 in
set_option maxRecDepth 100000 in
theorem refbytes_err (he : bytE bs at_ M ≠ 0) :
    Calls Try.prog 76 #[.pointer (some ⟨r, 0, none⟩), .int .i64 M] w fun e w' => e = .returned (.tuple #[.slice none 0 0, .int .i64 (bytE bs at_ M)]) ∧ RdR w' B r A c bs at_ ∧ Fr (fun k => k = r) w w' := by
  have c1 : w.cell? ⟨r, 1, none⟩ = some (.int .i64 at_) := (h.blk.cell 1).trans rfl
  have hn := refnum_any w B r A c bs at_ h
  have hle := h.le
  have hlen := h.len
  obtain ⟨hv, hK2, hE4, _, hz⟩ := rd_bounds (bs.drop at_) (h.small.drop at_)
  unfold bytE cntE at he ⊢
  obtain ⟨V, hV⟩ : ∃ V, rdV (bs.drop at_) = V := ⟨_, rfl⟩
  obtain ⟨K, hK⟩ : ∃ K, rdK (bs.drop at_) = K := ⟨_, rfl⟩
  obtain ⟨E, hE⟩ : ∃ E, rdE (bs.drop at_) = E := ⟨_, rfl⟩
  rw [hV, hK, hE] at hn he ⊢
  rw [hE] at hE4 hz
  rw [hV] at hv
  rw [hK, List.length_drop] at hK2
  clear hV hK hE h
  have wM : IntKind.u64.wrap (M : Int) = (M : Int) := by rw [IntKind.wrap_u64]; omega
  have fin : ∀ wx : World, RdR wx B r A c bs (at_ + K) → Fr (fun k => k = r) w wx → RdR (wx.setCell ⟨r, 1, none⟩ (.int .i64 at_)) B r A c bs at_ ∧ Fr (fun k => k = r) w (wx.setCell ⟨r, 1, none⟩ (.int .i64 at_)) :=
    fun wx hx fx => ⟨hx.set_ (a' := at_) hle, fx.setCell (p := ⟨r, 1, none⟩) (fun _ => rfl) _⟩
  rcases hE4 with e0 | e4
  · subst e0
    simp only [if_true] at he ⊢
    by_cases hMV : M < V
    · have q1 : (M : Int) < (V : Int) := by omega
      simp only [if_pos hMV, show ((3 : Nat) = 0) = False by simp, if_false] at he ⊢
      go_enter Try.func76, Try.ntmps76
      go_wp2_with (go_at_call 73; refine hn.mono ?_; clear hn; rintro e w1 ⟨rfl, h1, f1⟩; have d1 : w1.cell? ⟨r, 1, none⟩ = some (.int .i64 ((at_ + K : Nat) : Int)) := (h1.blk.cell 1).trans rfl; have g1 := h1.blk.frozen 1)
      go_ret2
      exact ⟨rfl, (fin _ h1 f1).1, (fin _ h1 f1).2⟩
    · simp only [if_neg hMV, if_true] at he ⊢
      have hlt : bs.length - (at_ + K) < V := by
        by_cases hx : bs.length - (at_ + K) < V
        · exact hx
        · rw [if_neg hx] at he; exact absurd rfl he
      rw [if_pos hlt]
      have q1 : decide ((M : Int) < (V : Int)) = false := decide_eq_false (by omega)
      have q1' : ¬ (M : Int) < (V : Int) := by omega
      obtain ⟨L, hL⟩ : ∃ L, bs.length - (at_ + K) = L := ⟨_, rfl⟩
      rw [hL] at hlt
      have wL : IntKind.u64.wrap (L : Int) = (L : Int) := by rw [IntKind.wrap_u64]; omega
      have q2 : (L : Int) < (V : Int) := by omega
      clear he
      go_enter Try.func76, Try.ntmps76
      go_wp2_with (first
        | (go_at_call 73; refine hn.mono ?_; clear hn; rintro e w1 ⟨rfl, h1, f1⟩; have hl := refleft_any w1 B r A c bs _ h1; rw [hL] at hl)
        | (go_at_call 47; refine hl.mono ?_; clear hl; rintro e w2 ⟨rfl, m, rfl⟩; have d1 : (w1.drewN m).cell? ⟨r, 1, none⟩ = some (.int .i64 ((at_ + K : Nat) : Int)) := (h1.blk.cell 1).trans rfl; have g1 := (h1.blk.drewN m).frozen 1))
      go_ret2
      exact ⟨rfl, (fin _ (h1.drewN m) (f1.drewN m)).1, (fin _ (h1.drewN m) (f1.drewN m)).2⟩
  · subst e4
    simp only [show ((4 : Nat) = 0) = False by simp, if_false] at he ⊢
    clear he
    go_enter Try.func76, Try.ntmps76
    go_wp2_with (go_at_call 73; refine hn.mono ?_; clear hn; rintro e w1 ⟨rfl, h1, f1⟩; have d1 : w1.cell? ⟨r, 1, none⟩ = some (.int .i64 ((at_ + K : Nat) : Int)) := (h1.blk.cell 1).trans rfl; have g1 := h1.blk.frozen 1)
    go_ret2
    exact ⟨rfl, (fin _ h1 f1).1, (fin _ h1 f1).2⟩

set_option maxHeartbeats 2000000 in
set_option maxRecDepth 100000 in
theorem refbytes_ok (he : bytE bs at_ M = 0) :
    Calls Try.prog 76 #[.pointer (some ⟨r, 0, none⟩), .int .i64 M] w fun e w' => ∃ A2 c2, e = .returned (.tuple #[.slice A2 (rdV (bs.drop at_)) c2, .int .i64 0]) ∧
      w'.ownsRow w.heap.size 5 1 (.slice A2 (rdV (bs.drop at_)) c2) (rdV (bs.drop at_)) (byts ((bs.drop (at_ + rdK (bs.drop at_))).take (rdV (bs.drop at_)))) ∧
      RdR w' B r A c bs (at_ + rdK (bs.drop at_) + rdV (bs.drop at_)) ∧ Fr (fun k => k = r) w w' := by
  obtain ⟨i0, hi, hz0, hz1, hz2⟩ := info_parts Try.info5w
  have c1 : w.cell? ⟨r, 1, none⟩ = some (.int .i64 at_) := (h.blk.cell 1).trans rfl
  have hn := refnum_any w B r A c bs at_ h
  have hle := h.le
  have hlen := h.len
  have hcap := h.cap
  have hfar := h.far
  obtain ⟨hv, hK2, hE4, _, hz⟩ := rd_bounds (bs.drop at_) (h.small.drop at_)
  rw [List.length_drop] at hK2
  unfold bytE cntE at he
  obtain ⟨N, hV⟩ : ∃ V, rdV (bs.drop at_) = V := ⟨_, rfl⟩
  obtain ⟨K, hK⟩ : ∃ K, rdK (bs.drop at_) = K := ⟨_, rfl⟩
  obtain ⟨E, hE⟩ : ∃ E, rdE (bs.drop at_) = E := ⟨_, rfl⟩
  rw [hV, hK, hE] at hn he
  rw [hV, hK]
  rw [hE] at hE4 hz
  rw [hK] at hK2
  have hE0 : E = 0 := by
    rcases hE4 with e | e
    · exact e
    · rw [e] at he; simp at he
  subst hE0
  simp only [if_true] at he
  have hMN : N ≤ M := by
    by_cases hx : M < N
    · rw [if_pos hx] at he; simp at he
    · omega
  rw [if_neg (show ¬ M < N by omega), if_pos rfl] at he
  have hN : N ≤ bs.length - (at_ + K) := by
    by_cases hx : bs.length - (at_ + K) < N
    · rw [if_pos hx] at he; cases he
    · omega
  obtain ⟨P, hP⟩ : ∃ P, at_ + K = P := ⟨_, rfl⟩
  rw [hP] at hn hN ⊢
  have hPle : P + N ≤ bs.length := by omega
  clear hV hK hE he hv h hle hP hz hE4
  have wM : IntKind.u64.wrap (M : Int) = (M : Int) := by rw [IntKind.wrap_u64]; omega
  have q1 : decide ((M : Int) < (N : Int)) = false := decide_eq_false (by omega)
  have q1' : ¬ (M : Int) < (N : Int) := by omega
  obtain ⟨L, hL⟩ : ∃ L, bs.length - P = L := ⟨_, rfl⟩
  have wL : IntKind.u64.wrap (L : Int) = (L : Int) := by rw [IntKind.wrap_u64]; omega
  have q2 : ¬ (L : Int) < (N : Int) := by omega
  have wN : IntKind.i64.wrap (N : Int) = (N : Int) := IntWalk.i64_in _ (by omega)
  obtain ⟨P2, hP2⟩ : ∃ x, P + N = x := ⟨_, rfl⟩
  have u1 : IntKind.i64.wrap ((P : Int) + (N : Int)) = (P2 : Int) := by rw [IntWalk.i64_in _ (by omega)]; omega
  have u2 : IntKind.i64.wrap ((P2 : Int) - (N : Int)) = (P : Int) := by rw [IntWalk.i64_in _ (by omega)]; omega
  have u3 : (0 : Int) ≤ (P : Int) := by omega
  have u4 : (P : Int) ≤ (P2 : Int) := by omega
  have u5 : (P2 : Int) ≤ (c : Int) := by omega
  have u7 : P2 - P = N := by omega
  obtain ⟨Y, hY⟩ : ∃ Y, (bs.drop P).take N = Y := ⟨_, rfl⟩
  rw [hY, hP2]
  go_enter Try.func76, Try.ntmps76
  go_upto_region 11 with (first
    | (go_at_call 73; refine hn.mono ?_; clear hn; rintro e w1 ⟨rfl, h1, f1⟩; have hl := refleft_any w1 B r A c bs _ h1; rw [hL] at hl)
    | (go_at_call 47; refine hl.mono ?_; clear hl; rintro e w2 ⟨rfl, m, rfl⟩; have d1 : (w1.drewN m).cell? ⟨r, 1, none⟩ = some (.int .i64 (P : Int)) := (h1.blk.cell 1).trans rfl; have g1 := (h1.blk.drewN m).frozen 1))
  have h3 := (h1.drewN m).set_ (a' := P2) (by omega)
  have f3 : Fr (fun k => k = r) w ((w1.drewN m).setCell ⟨r, 1, none⟩ (.int .i64 (P2 : Int))) := (f1.drewN m).setCell (p := ⟨r, 1, none⟩) (fun _ => rfl) _
  generalize hwq : World.setCell _ _ _ = wq at h3 f3 ⊢
  clear hwq d1 g1
  have k0 : wq.drew.cell? ⟨r, 0, none⟩ = some (.slice A bs.length c) := (h3.blk.cell 0).trans rfl
  have k1 : wq.drew.cell? ⟨r, 1, none⟩ = some (.int .i64 (P2 : Int)) := (h3.blk.cell 1).trans rfl
  have hsub := h3.reads.sub (lo := P) (hi := P2) (cap := c) (by omega) (by omega) hcap
  rw [u7, ← byts_drop, ← byts_take, hY] at hsub
  have hbq : B ≤ wq.heap.size := by have := h3.blk.lt; omega
  have hfin : ∀ v2 w2, w2.ownsRow wq.heap.size 5 1 v2 (0 + N) ([] ++ byts Y) → wq.drew.grownBy w2 (Value.slice none 0 0).ownBlock →
      ∃ A2 c2, v2 = .slice A2 N c2 ∧ w2.ownsRow w.heap.size 5 1 (.slice A2 N c2) N (byts Y) ∧ RdR w2 B r A c bs P2 ∧ Fr (fun k => k = r) w w2 ∧ w2.cell? ⟨r, 0, none⟩ = some (.slice A bs.length c) ∧ w2.cell? ⟨r, 1, none⟩ = some (.int .i64 (P2 : Int)) := by
    intro v2 w2 ho2 hg2
    rw [Nat.zero_add, List.nil_append] at ho2
    obtain ⟨A2, c2, rfl⟩ := own_shape ho2
    have hb2 : Below wq.heap.size wq w2 := ((Below.refl _ wq).drew).grown hg2 (Nat.le_refl _) (fun k hk => by cases hk)
    have h4 : RdR w2 B r A c bs P2 := h3.fr (Fr.of_new (S := noB) hb2) (fun h => h) (fun _ _ h => h)
    exact ⟨A2, c2, rfl, own_mono ho2 f3.size, h4, f3.new (S' := noB) hb2, (h4.blk.cell 0).trans rfl, (h4.blk.cell 1).trans rfl⟩
  have ho : wq.drew.ownsRow wq.heap.size 5 1 (.slice none 0 0) 0 [] := World.ownsRow_nil _ _ _ _
  by_cases hcP : c = P
  · have hN0 : N = 0 := by omega
    rw [if_pos hcP] at hsub
    have hr' : Reads wq.drew B 1 A N (byts Y) := hsub.drew
    clear hY hsub h3 f3 h1 f1
    subst hcP
    have hP3 : P2 = c := by omega
    subst hP3
    have e2 : IntKind.i64.wrap (P2 : Int) = (P2 : Int) := IntWalk.i64_in _ (by omega)
    have e0 : IntKind.i64.wrap 0 = 0 := by decide
    clear u1 u2 u4 u7 hL hPle hN hK2 hP2 wM q1 q1' wL q2 wN hMN
    subst hN0
    go_region_held_law (fun w' => w'.cell? ⟨r, 0, none⟩ = some (.slice A bs.length P2) ∧ w'.cell? ⟨r, 1, none⟩ = some (.int .i64 (P2 : Int))) (first | (refine ⟨?_, ?_⟩ <;> assumption) | go_keep) (first
      | (refine step_append_any wq.drew rfl _ _ 24 rfl wq.heap.size 5 i0 (.int .u8 0) 1 1 Try.underlying24 hi hz0 hz1 hz2 rfl (by decide) _ _ _ rfl ho B A 0 _ _ rfl hr' (byts_one _) (by unfold maxLen; omega) (by omega) (Nat.le_refl _) ?_; intro v2 w2 ho2 hg2 _; obtain ⟨A2, c2, rfl, j1, j2, j3, j4, j5⟩ := hfin v2 w2 ho2 hg2))
    all_goals
      simp only [List.getElem_toArray, List.getElem_cons_succ, List.getElem_cons_zero, Act.put]
      go_wp2
      go_ret2
      exact ⟨A2, c2, rfl, j1, j2, j3⟩
  · rw [if_neg hcP] at hsub
    have hr' : Reads wq.drew B 1 (A.map (·.add P)) N (byts Y) := hsub.drew
    clear hY hsub h3 f3 h1 f1
    go_region_held_law (fun w' => w'.cell? ⟨r, 0, none⟩ = some (.slice A bs.length c) ∧ w'.cell? ⟨r, 1, none⟩ = some (.int .i64 (P2 : Int))) (first | (refine ⟨?_, ?_⟩ <;> assumption) | go_keep) (first
      | (refine step_append_any wq.drew rfl _ _ 24 rfl wq.heap.size 5 i0 (.int .u8 0) 1 1 Try.underlying24 hi hz0 hz1 hz2 rfl (by decide) _ _ _ rfl ho B (A.map (·.add P)) N _ _ rfl hr' (byts_one _) (by unfold maxLen; omega) (by omega) (Nat.le_refl _) ?_; intro v2 w2 ho2 hg2 _; obtain ⟨A2, c2, rfl, j1, j2, j3, j4, j5⟩ := hfin v2 w2 ho2 hg2))
    all_goals
      simp only [List.getElem_toArray, List.getElem_cons_succ, List.getElem_cons_zero, Act.put]
      go_wp2
      go_ret2
      exact ⟨A2, c2, rfl, j1, j2, j3⟩
end

end Go.Proofs.Ytpnagblbhlglhaa
