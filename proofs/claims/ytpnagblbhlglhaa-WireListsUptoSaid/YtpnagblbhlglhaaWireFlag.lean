/- wire.Reader.Flag. Conditions: those that it states. -/
import Derived.Test.YtpnagblbhlglhaaWireRd4
namespace Go.Proofs.Ytpnagblbhlglhaa
open Go.RowKit

def flagE : List Nat → Nat
  | [] => 4
  | d :: _ => if 1 < d then 4 else 0
def flagV : List Nat → Bool
  | [] => false
  | d :: _ => decide (d = 1)

set_option maxHeartbeats 1000000 in
set_option maxRecDepth 100000 in
theorem rdflag_any (w : World) (r : Nat) (A : Addr) (c : Nat) (bs : List Nat) (at_ : Nat) (hR : RdI w r A c bs at_) :
    Calls Try.prog 38 #[.pointer (some ⟨r, 0, none⟩)] w fun e w' => e = .returned (.tuple #[.bool (flagV (bs.drop at_)), .int .i64 (flagE (bs.drop at_))]) ∧ RdI w' r A c bs (at_ + (if flagE (bs.drop at_) = 0 then 1 else 0)) ∧ Fr (fun k => k = r) w w' := by
  have c0 : w.cell? ⟨r, 0, none⟩ = some (.slice (some A) bs.length c) := (hR.blk.cell 0).trans rfl
  have c1 : w.cell? ⟨r, 1, none⟩ = some (.int .i64 at_) := (hR.blk.cell 1).trans rfl
  have f1 := hR.blk.frozen 1
  have ht := there_any w r A c bs at_ hR
  have hl := fun m => left_any (w.drewN m) r A c bs at_ (hR.drewN m)
  have hle := hR.le
  have hlen := hR.len
  by_cases hlt : at_ < bs.length
  · obtain ⟨ad, v, e, hab, hxv, hcell⟩ := hR.reads.at_ hlt
    injection e with e
    subst e
    obtain ⟨d, hd⟩ : ∃ d, bs[at_] = d := ⟨_, rfl⟩
    have hd8 : d < 256 := by rw [← hd]; exact hR.small.at_ _ hlt
    obtain rfl : v = .int .u8 (d : Nat) := by
      simp [byts, List.getElem?_eq_getElem hlt, hd] at hxv
      exact hxv.symm
    have hdrop : bs.drop at_ = d :: bs.drop (at_ + 1) := by rw [List.drop_eq_getElem_cons hlt, hd]
    rw [hdrop]
    have l0 : (((bs.length - at_ : Nat) : Int) == 0) = false := by rw [beq_eq_false_iff_ne]; omega
    obtain ⟨L, hL⟩ : ∃ L, bs.length - at_ = L := ⟨_, rfl⟩
    rw [hL] at l0
    simp only [hL] at hl
    have k0 : (0 : Int) ≤ (at_ : Int) := by omega
    have k1 : (at_ : Int) < (bs.length : Int) := by omega
    by_cases h1 : 1 < d
    · have l1 : (1 : Int) < (d : Int) := by omega
      simp only [flagE, flagV, if_pos h1, show decide (d = 1) = false from decide_eq_false (by omega), show ((4 : Nat) = 0) = False by simp, if_false]
      clear hL hxv hd hdrop
      go_enter Try.func38, Try.ntmps38
      go_wp2_with (go_at_call 71; refine ht.mono ?_; clear ht; rintro e w' ⟨rfl, rfl⟩)
      go_quiet ((go_at_call 41; exact Calls.quiet_of (hl _)))
      go_wp2
      go_ret2
      exact ⟨rfl, hR.drewN _, (Fr.refl _ w).drewN _⟩
    · have l1 : ¬ (1 : Int) < (d : Int) := by omega
      have e0 : flagE (d :: bs.drop (at_ + 1)) = 0 := by simp only [flagE, if_neg h1]
      have e1 : flagV (d :: bs.drop (at_ + 1)) = ((d : Int) == 1) := by
        simp only [flagV]
        rw [Bool.eq_iff_iff]
        simp
        omega
      rw [e0, e1, if_pos rfl]
      have u1 : IntKind.i64.wrap ((at_ : Int) + 1) = (at_ : Int) + 1 := IntWalk.i64_in _ (by omega)
      have u2 : IntKind.i64.wrap (at_ : Int) = (at_ : Int) := IntWalk.i64_in _ (by omega)
      clear hL hxv hdrop e0 e1
      go_enter Try.func38, Try.ntmps38
      go_wp2_with (go_at_call 71; refine ht.mono ?_; clear ht; rintro e w' ⟨rfl, rfl⟩)
      go_quiet ((go_at_call 41; exact Calls.quiet_of (hl _)))
      go_wp2
      have h3 := (hR.drewN nq).set_ (a' := at_ + 1) (by omega)
      have f3 : Fr (fun k => k = r) w ((w.drewN nq).setCell ⟨r, 1, none⟩ (.int .i64 ((at_ + 1 : Nat) : Int))) := Fr.setCell (S := fun k => k = r) ((Fr.refl _ w).drewN nq) (p := ⟨r, 1, none⟩) (fun _ => rfl) _
      have e0 : ((at_ + 1 : Nat) : Int) = (at_ : Int) + 1 := by omega
      rw [e0] at h3 f3
      obtain ⟨ad, v, e, _, hxv, hcell⟩ := h3.reads.at_ hlt
      injection e with e
      subst e
      obtain rfl : v = .int .u8 (d : Nat) := by
        simp [byts, List.getElem?_eq_getElem hlt, hd] at hxv
        exact hxv.symm
      generalize hwq : World.setCell _ _ _ = wq at h3 f3 hcell ⊢
      clear hwq
      have c0 : wq.cell? ⟨r, 0, none⟩ = some (.slice (some A) bs.length c) := (h3.blk.cell 0).trans rfl
      have c1 : wq.cell? ⟨r, 1, none⟩ = some (.int .i64 ((at_ : Int) + 1)) := by rw [← e0]; exact (h3.blk.cell 1).trans rfl
      clear hxv hd e0
      go_quiet (fail)
      go_wp2
      go_ret2
      exact ⟨rfl, h3.drewN _, f3.drewN _⟩
  · have hnil : bs.drop at_ = [] := List.drop_eq_nil_of_le (by omega)
    rw [hnil]
    simp only [flagE, flagV, show ((4 : Nat) = 0) = False by simp, if_false]
    have l0 : (((bs.length - at_ : Nat) : Int) == 0) = true := by rw [beq_iff_eq]; omega
    have hL : bs.length - at_ = 0 := by omega
    simp only [hL] at hl
    clear hL l0 hnil
    go_enter Try.func38, Try.ntmps38
    go_wp2_with (go_at_call 71; refine ht.mono ?_; clear ht; rintro e w' ⟨rfl, rfl⟩)
    go_quiet ((go_at_call 41; exact Calls.quiet_of (hl _)))
    go_wp2
    go_ret2
    exact ⟨rfl, hR.drewN _, (Fr.refl _ w).drewN _⟩

end Go.Proofs.Ytpnagblbhlglhaa
