/- The document's reader: Signed, Flag, Bytes. Conditions: those that each states. -/
import Derived.Test.YtpnagblbhlglhaaWireRef
import Derived.Test.YtpnagblbhlglhaaWireFlag
namespace Go.Proofs.Ytpnagblbhlglhaa
open Go.RowKit

set_option maxHeartbeats 1000000 in
theorem unfolded_any (w : World) (u : Nat) (hu : u < 18446744073709551616) : Calls Try.prog 89 #[.int .u64 u] w fun e w' => e = .returned (.int .i64 (unzig u)) ∧ w = w' := by
  have q : (u : Int) / 2 = ((u / 2 : Nat) : Int) := by omega
  have q' : (u : Int).tdiv 2 = ((u / 2 : Nat) : Int) := by rw [Int.tdiv_eq_ediv_of_nonneg (by omega)]; exact q
  obtain ⟨v, hv⟩ : ∃ v, u / 2 = v := ⟨_, rfl⟩
  rw [hv] at q q'
  have w1 : IntKind.i64.wrap (v : Int) = (v : Int) := IntWalk.i64_in _ (by omega)
  have w2 : IntKind.i64.wrap (-(v : Int)) = -(v : Int) := IntWalk.i64_in _ (by omega)
  have w3 : IntKind.i64.wrap (-(v : Int) - 1) = -(v : Int) - 1 := IntWalk.i64_in _ (by omega)
  have w4 : IntKind.u64.wrap (v : Int) = (v : Int) := by rw [IntKind.wrap_u64]; omega
  have r0 : (u : Int).tmod 2 = (u : Int) % 2 := Int.tmod_eq_emod_of_nonneg (by omega)
  by_cases h : u % 2 = 1
  · have e : unzig u = -(v : Int) - 1 := by unfold unzig; rw [if_pos h, hv]
    rw [e]
    have r1 : (u : Int) % 2 = 1 := by omega
    clear e hv
    go_enter Try.func89, Try.ntmps89
    go_wp2
    go_ret
    exact ⟨rfl, rfl⟩
  · have e : unzig u = (v : Int) := by unfold unzig; rw [if_neg h, hv]
    rw [e]
    have r1 : (u : Int) % 2 = 0 := by omega
    clear e hv
    go_enter Try.func89, Try.ntmps89
    go_wp2
    go_ret
    exact ⟨rfl, rfl⟩

section
variable (w : World) (B r : Nat) (A : Option Addr) (c : Nat) (bs : List Nat) (at_ : Nat) (h : RdR w B r A c bs at_)
include h
set_option maxHeartbeats 1000000 in
set_option maxRecDepth 100000 in
theorem refrsigned_any : Calls Try.prog 74 #[.pointer (some ⟨r, 0, none⟩)] w fun e w' => e = .returned (.tuple #[.int .i64 (unzig (rdV (bs.drop at_))), .int .i64 (rdE (bs.drop at_))]) ∧ RdR w' B r A c bs (at_ + rdK (bs.drop at_)) ∧ Fr (fun k => k = r) w w' := by
  have hn := refnum_any w B r A c bs at_ h
  obtain ⟨hv, _⟩ := rd_bounds (bs.drop at_) (h.small.drop at_)
  obtain ⟨V, hV⟩ : ∃ V, rdV (bs.drop at_) = V := ⟨_, rfl⟩
  obtain ⟨E, hE⟩ : ∃ E, rdE (bs.drop at_) = E := ⟨_, rfl⟩
  obtain ⟨K, hK⟩ : ∃ K, rdK (bs.drop at_) = K := ⟨_, rfl⟩
  rw [hV, hE, hK] at hn
  rw [hV, hE, hK]
  rw [hV] at hv
  clear hV hE hK h
  go_enter Try.func74, Try.ntmps74
  go_wp2_with (first
    | (go_at_call 73; refine hn.mono ?_; clear hn; rintro e w1 ⟨rfl, h1, f1⟩)
    | (go_at_call 89; refine (unfolded_any _ V hv).mono ?_; rintro e w' ⟨rfl, rfl⟩))
  go_ret2
  exact ⟨rfl, h1, f1⟩

set_option maxHeartbeats 2000000 in
set_option maxRecDepth 100000 in
theorem refflag_any : Calls Try.prog 75 #[.pointer (some ⟨r, 0, none⟩)] w fun e w' => e = .returned (.tuple #[.bool (if flagE (bs.drop at_) = 0 then flagV (bs.drop at_) else false), .int .i64 (flagE (bs.drop at_))]) ∧ RdR w' B r A c bs (at_ + (if flagE (bs.drop at_) = 0 then 1 else 0)) ∧ Fr (fun k => k = r) w w' := by
  have c0 : ∀ m, (w.drewN m).cell? ⟨r, 0, none⟩ = some (.slice A bs.length c) := fun _ => (h.blk.cell 0).trans rfl
  have c1 : ∀ m, (w.drewN m).cell? ⟨r, 1, none⟩ = some (.int .i64 at_) := fun _ => (h.blk.cell 1).trans rfl
  have f1 : ∀ m, (w.drewN m).frozen? ⟨r, 1, none⟩ = false := fun _ => h.blk.frozen 1
  have hl := fun m => refleft_any (w.drewN m) B r A c bs at_ (h.drewN m)
  have hle := h.le
  have hlen := h.len
  by_cases hlt : at_ < bs.length
  · obtain ⟨ad, v, e, hab, hxv, hcell⟩ := h.reads.at_ hlt
    subst e
    obtain ⟨d, hd⟩ : ∃ d, bs[at_] = d := ⟨_, rfl⟩
    have hd8 : d < 256 := by rw [← hd]; exact h.small.at_ _ hlt
    obtain rfl : v = .int .u8 (d : Nat) := by
      simp [byts, List.getElem?_eq_getElem hlt, hd] at hxv
      exact hxv.symm
    have hcell' : ∀ m, (w.drewN m).cell? (ad.add at_) = some (.int .u8 (d : Nat)) := fun _ => hcell
    have hdrop : bs.drop at_ = d :: bs.drop (at_ + 1) := by rw [List.drop_eq_getElem_cons hlt, hd]
    rw [hdrop]
    have l0 : (((bs.length - at_ : Nat) : Int) == 0) = false := by rw [beq_eq_false_iff_ne]; omega
    obtain ⟨L, hL⟩ : ∃ L, bs.length - at_ = L := ⟨_, rfl⟩
    rw [hL] at l0
    simp only [hL] at hl
    have k0 : (0 : Int) ≤ (at_ : Int) := by omega
    have k1 : (at_ : Int) < (bs.length : Int) := by omega
    by_cases h1 : 1 < d
    · have l1 : (1 : Int) < (d : Int) := by omega
      simp only [flagE, if_pos h1, show ((4 : Nat) = 0) = False by simp, if_false]
      clear hL hxv hd hdrop
      go_enter Try.func75, Try.ntmps75
      go_wp2
      go_quiet ((go_at_call 47; exact Calls.quiet_of (hl _)))
      go_wp2
      go_ret2
      exact ⟨rfl, h.drewN _, (Fr.refl _ w).drewN _⟩
    · have l1 : ¬ (1 : Int) < (d : Int) := by omega
      have e0 : flagE (d :: bs.drop (at_ + 1)) = 0 := by simp only [flagE, if_neg h1]
      have e1 : flagV (d :: bs.drop (at_ + 1)) = ((d : Int) == 1) := by
        simp only [flagV]
        rw [Bool.eq_iff_iff]
        simp
        omega
      rw [e0, if_pos rfl, if_pos rfl, e1]
      have u1 : IntKind.i64.wrap ((at_ : Int) + 1) = (at_ : Int) + 1 := IntWalk.i64_in _ (by omega)
      have u2 : IntKind.i64.wrap (at_ : Int) = (at_ : Int) := IntWalk.i64_in _ (by omega)
      clear hL hxv hdrop e0 e1
      go_enter Try.func75, Try.ntmps75
      go_wp2
      go_quiet ((go_at_call 47; exact Calls.quiet_of (hl _)))
      go_wp2
      have h3 := (h.drewN nq).set_ (a' := at_ + 1) (by omega)
      have f3 : Fr (fun k => k = r) w ((w.drewN nq).setCell ⟨r, 1, none⟩ (.int .i64 ((at_ + 1 : Nat) : Int))) := Fr.setCell (S := fun k => k = r) ((Fr.refl _ w).drewN nq) (p := ⟨r, 1, none⟩) (fun _ => rfl) _
      have e0 : ((at_ + 1 : Nat) : Int) = (at_ : Int) + 1 := by omega
      rw [e0] at h3 f3
      obtain ⟨ad', v, e, _, hxv, hcell3⟩ := h3.reads.at_ hlt
      injection e with e
      subst e
      obtain rfl : v = .int .u8 (d : Nat) := by
        simp [byts, List.getElem?_eq_getElem hlt, hd] at hxv
        exact hxv.symm
      generalize hwq : World.setCell _ _ _ = wq at h3 f3 hcell3 ⊢
      clear hwq
      have d0 : wq.cell? ⟨r, 0, none⟩ = some (.slice (some ad) bs.length c) := (h3.blk.cell 0).trans rfl
      have d1 : wq.cell? ⟨r, 1, none⟩ = some (.int .i64 ((at_ : Int) + 1)) := by rw [← e0]; exact (h3.blk.cell 1).trans rfl
      clear hxv hd e0 c0 c1 f1 hcell hcell'
      go_quiet (fail)
      go_wp2
      go_ret2
      exact ⟨rfl, h3.drewN _, f3.drewN _⟩
  · have l0 : (((bs.length - at_ : Nat) : Int) == 0) = true := by rw [beq_iff_eq]; omega
    have hnil : bs.drop at_ = [] := List.drop_eq_nil_of_le (by omega)
    rw [hnil]
    simp only [flagE, show ((4 : Nat) = 0) = False by simp, if_false]
    obtain ⟨L, hL⟩ : ∃ L, bs.length - at_ = L := ⟨_, rfl⟩
    rw [hL] at l0
    simp only [hL] at hl
    clear hL hnil
    go_enter Try.func75, Try.ntmps75
    go_wp2
    go_quiet ((go_at_call 47; exact Calls.quiet_of (hl _)))
    go_wp2
    go_ret2
    exact ⟨rfl, h.drewN _, (Fr.refl _ w).drewN _⟩
end

end Go.Proofs.Ytpnagblbhlglhaa
