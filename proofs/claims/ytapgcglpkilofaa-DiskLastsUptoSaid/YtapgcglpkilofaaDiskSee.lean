/- What only looks at a disk: Sure, Steps, Room, Log, Snapshot, Spare; the document's too. Conditions: those that each states. -/
import Derived.Test.YtapgcglpkilofaaDiskOne
import Derived.Deep.RegionHeld3
namespace Go.Proofs.Ytapgcglpkilofaa
open Go.RowKit

section
variable (w : World) (A : Option Addr) (h : Gone w A)
include h
theorem sureNo : Calls Try.prog 15 #[.pointer A] w fun e w' => e = .returned (.int .i64 0) ∧ w = w' := by
  have ht := thereNo w A h
  clear h
  go_enter Try.func15, Try.ntmps15
  go_wp2_with (go_at_call 41; refine ht.mono ?_; clear ht; rintro e w' ⟨rfl, rfl⟩)
  go_ret
  exact ⟨rfl, rfl⟩
theorem stepsNo : Calls Try.prog 30 #[.pointer A] w fun e w' => e = .returned (.int .i64 0) ∧ w = w' := by
  have ht := thereNo w A h
  clear h
  go_enter Try.func30, Try.ntmps30
  go_wp2_with (go_at_call 41; refine ht.mono ?_; clear ht; rintro e w' ⟨rfl, rfl⟩)
  go_ret
  exact ⟨rfl, rfl⟩
theorem roomNo : Calls Try.prog 29 #[.pointer A] w fun e w' => e = .returned (.int .i64 0) ∧ w = w' := by
  have ht := thereNo w A h
  clear h
  go_enter Try.func29, Try.ntmps29
  go_wp2_with (go_at_call 41; refine ht.mono ?_; clear ht; rintro e w' ⟨rfl, rfl⟩)
  go_ret
  exact ⟨rfl, rfl⟩
theorem logNo : Calls Try.prog 13 #[.pointer A] w fun e w' => e = .returned (.slice none 0 0) ∧ w = w' := by
  have ht := thereNo w A h
  clear h
  go_enter Try.func13, Try.ntmps13
  go_wp2_with (go_at_call 41; refine ht.mono ?_; clear ht; rintro e w' ⟨rfl, rfl⟩)
  go_ret
  exact ⟨rfl, rfl⟩
theorem snapNo : Calls Try.prog 16 #[.pointer A] w fun e w' => e = .returned (.tuple #[.slice none 0 0, .bool false]) ∧ w = w' := by
  have ht := thereNo w A h
  clear h
  go_enter Try.func16, Try.ntmps16
  go_wp2_with (go_at_call 41; refine ht.mono ?_; clear ht; rintro e w' ⟨rfl, rfl⟩)
  go_ret2
  exact ⟨rfl, rfl⟩
theorem spareDNo : Calls Try.prog 27 #[.pointer A] w fun e w' => e = .returned (.tuple #[.slice none 0 0, .bool false]) ∧ ∃ k, w' = w.drewN k := by
  have ht := fun k : Nat => thereNo (w.drewN k) A h
  clear h
  go_enter Try.func27, Try.ntmps27
  go_wp2
  go_quiet ((go_at_call 41; exact quiet_left (ht _)))
  go_wp2
  go_ret2
  exact ⟨rfl, _, rfl⟩
end

section
variable (w : World) (p : Nat) (Al : Option Addr) (nl cl : Nat) (A0 : Option Addr) (n0 c0 : Nat) (A1 : Option Addr) (n1 c1 : Nat) (s : DS)
namespace PDx
variable {w p Al nl cl A0 n0 c0 A1 n1 c1 s} (h : PDx w p Al nl cl A0 n0 c0 A1 n1 c1 s)
include h
theorem x0 : w.cell? ⟨p, 0, none⟩ = some (.int .i64 s.cap) := (h.blk.cell 0).trans rfl
theorem x1 : w.cell? ⟨p, 1, none⟩ = some (.slice Al nl cl) := (h.blk.cell 1).trans rfl
theorem x2 : w.cell? ⟨p, 2, none⟩ = some (.int .i64 s.sure) := (h.blk.cell 2).trans rfl
theorem x3 : w.cell? ⟨p, 3, none⟩ = some (.slice A0 n0 c0) := (h.blk.cell 3).trans rfl
theorem x4 : w.cell? ⟨p, 4, none⟩ = some (.bool s.h0) := (h.blk.cell 4).trans rfl
theorem x5 : w.cell? ⟨p, 5, none⟩ = some (.slice A1 n1 c1) := (h.blk.cell 5).trans rfl
theorem x6 : w.cell? ⟨p, 6, none⟩ = some (.bool s.h1) := (h.blk.cell 6).trans rfl
theorem x7 : w.cell? ⟨p, 7, none⟩ = some (.int .i64 s.last) := (h.blk.cell 7).trans rfl
theorem x8 : w.cell? ⟨p, 8, none⟩ = some (.int .i64 s.steps) := (h.blk.cell 8).trans rfl
theorem len : s.log.length = nl := by have := h.rl.1; rw [byts_length] at this; omega
theorem len0 : s.d0.length = n0 := by have := h.r0.1; rw [byts_length] at this; omega
theorem len1 : s.d1.length = n1 := by have := h.r1.1; rw [byts_length] at this; omega
end PDx
namespace RDx
variable {w p Al nl cl A0 n0 c0 A1 n1 c1 s} (h : RDx w p Al nl cl A0 n0 c0 A1 n1 c1 s)
include h
theorem x0 : w.cell? ⟨p, 0, none⟩ = some (.int .i64 s.cap) := (h.blk.cell 0).trans rfl
theorem x1 : w.cell? ⟨p, 1, none⟩ = some (.slice Al nl cl) := (h.blk.cell 1).trans rfl
theorem x2 : w.cell? ⟨p, 2, none⟩ = some (.int .i64 s.sure) := (h.blk.cell 2).trans rfl
theorem x3 : w.cell? ⟨p, 3, none⟩ = some (.slice A0 n0 c0) := (h.blk.cell 3).trans rfl
theorem x4 : w.cell? ⟨p, 4, none⟩ = some (.slice A1 n1 c1) := (h.blk.cell 4).trans rfl
theorem x5 : w.cell? ⟨p, 5, none⟩ = some (.bool s.h0) := (h.blk.cell 5).trans rfl
theorem x6 : w.cell? ⟨p, 6, none⟩ = some (.bool s.h1) := (h.blk.cell 6).trans rfl
theorem x7 : w.cell? ⟨p, 7, none⟩ = some (.int .i64 s.last) := (h.blk.cell 7).trans rfl
theorem x8 : w.cell? ⟨p, 8, none⟩ = some (.int .i64 s.steps) := (h.blk.cell 8).trans rfl
theorem len : s.log.length = nl := by have := h.rl.1; rw [byts_length] at this; omega
theorem len0 : s.d0.length = n0 := by have := h.r0.1; rw [byts_length] at this; omega
theorem len1 : s.d1.length = n1 := by have := h.r1.1; rw [byts_length] at this; omega
end RDx
end

def roomS (s : DS) : Nat := s.cap - s.log.length
section
variable (w : World) (p : Nat) (S : Nat → Prop) (s : DS) (h : PD w p S s)
include h
theorem sure_any : Calls Try.prog 15 #[.pointer (some ⟨p, 0, none⟩)] w fun e w' => e = .returned (.int .i64 s.sure) ∧ w = w' := by
  obtain ⟨ok, Al, nl, cl, A0, n0, c0, A1, n1, c1, hx, hh⟩ := h
  have ht := thereYes w p s.cap ok.cap1 hx.x0
  have x2 := hx.x2
  clear hx hh ok
  go_enter Try.func15, Try.ntmps15
  go_wp2_with (go_at_call 41; refine ht.mono ?_; clear ht; rintro e w' ⟨rfl, rfl⟩)
  go_ret
  exact ⟨rfl, rfl⟩
theorem steps_any : Calls Try.prog 30 #[.pointer (some ⟨p, 0, none⟩)] w fun e w' => e = .returned (.int .i64 s.steps) ∧ w = w' := by
  obtain ⟨ok, Al, nl, cl, A0, n0, c0, A1, n1, c1, hx, hh⟩ := h
  have ht := thereYes w p s.cap ok.cap1 hx.x0
  have x8 := hx.x8
  clear hx hh ok
  go_enter Try.func30, Try.ntmps30
  go_wp2_with (go_at_call 41; refine ht.mono ?_; clear ht; rintro e w' ⟨rfl, rfl⟩)
  go_ret
  exact ⟨rfl, rfl⟩
set_option maxRecDepth 100000 in
theorem room_any : Calls Try.prog 29 #[.pointer (some ⟨p, 0, none⟩)] w fun e w' => e = .returned (.int .i64 (roomS s)) ∧ ∃ k, w' = w.drewN k := by
  obtain ⟨ok, Al, nl, cl, A0, n0, c0, A1, n1, c1, hx, hh⟩ := h
  have ht := thereYes w p s.cap ok.cap1 hx.x0
  have x0 := hx.x0
  have x1 := hx.x1
  have hl := hx.len
  have b1 := ok.cap2
  have b2 := ok.nl
  unfold roomS
  rw [hl] at b2 ⊢
  generalize s.cap = c at *
  obtain ⟨d, hd⟩ : ∃ d : Int, (c : Int) - (nl : Int) = d := ⟨_, rfl⟩
  have u1 : IntKind.i64.wrap ((c : Int) - (nl : Int)) = d := by rw [IntWalk.i64_in _ (by omega)]; exact hd
  obtain ⟨r, hr⟩ : ∃ r, c - nl = r := ⟨_, rfl⟩
  rw [hr]
  by_cases hle : d ≤ 0
  · have e : r = 0 := by omega
    subst e
    clear hx hh ok hl hr hd
    go_enter Try.func29, Try.ntmps29
    go_wp2_with (go_at_call 41; refine ht.mono ?_; clear ht; rintro e w' ⟨rfl, rfl⟩)
    go_quiet (fail)
    go_wp2
    go_ret
    exact ⟨rfl, _, rfl⟩
  · have e : (r : Int) = d := by omega
    rw [e]
    clear hx hh ok hl hr hd e
    go_enter Try.func29, Try.ntmps29
    go_wp2_with (go_at_call 41; refine ht.mono ?_; clear ht; rintro e w' ⟨rfl, rfl⟩)
    go_quiet (fail)
    go_wp2
    go_ret
    exact ⟨rfl, _, rfl⟩
theorem log_any : Calls Try.prog 13 #[.pointer (some ⟨p, 0, none⟩)] w fun e w' => ∃ A2 c2, e = .returned (.slice A2 s.log.length c2) ∧ w'.ownsRow w.heap.size 5 1 (.slice A2 s.log.length c2) s.log.length (byts s.log) ∧ Below w.heap.size w w' := by
  obtain ⟨ok, Al, nl, cl, A0, n0, c0, A1, n1, c1, hx, hh⟩ := h
  have ht := thereYes w p s.cap ok.cap1 hx.x0
  have x1 := hx.x1
  have hn := ok.nl
  rw [hx.len] at hn ⊢
  have hc := clone_any w w.heap.size Al nl cl s.log (Reads.of_own hx.rl) (Nat.le_refl _) hn
  clear hx hh ok
  go_enter Try.func13, Try.ntmps13
  go_wp2_with (first
    | (go_at_call 41; refine ht.mono ?_; clear ht; rintro e w' ⟨rfl, rfl⟩)
    | (go_at_call 24; refine hc.mono ?_; clear hc; rintro e w1 ⟨A2, c2, rfl, o1, m1⟩))
  go_ret
  exact ⟨A2, c2, rfl, o1, m1⟩
end
end Go.Proofs.Ytapgcglpkilofaa
