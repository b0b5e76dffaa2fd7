/- does of wicketlaw03: Copy, and no step. Conditions: those that each states. -/
import Derived.Test.YtapgcglpkilofaaDiskPair
import Derived.Test.YtapgcglpkilofaaDiskCopyR
import Derived.Deep.RegionLaw
namespace Go.Proofs.Ytapgcglpkilofaa
open Go.RowKit

section
variable (w0 w : World) (p : Nat) (S : Nat → Prop) (s : DS) (q : Nat) (T : Nat → Prop) (h : Pair w0 w p S s q T s) (N : Int) (A : Option Addr) (n c : Nat) (b : List Nat)
include h

set_option maxHeartbeats 8000000 in
set_option maxRecDepth 100000 in
theorem does_copy : Calls Try.prog 11 #[.pointer (some ⟨p, 0, none⟩), .pointer (some ⟨q, 0, none⟩), .agg #[.int .i64 8, .int .i64 N, .slice A n c]] w (DoesPost w0 s) := by
  have h1 := h.alloc (.cells #[.int .i64 8, .int .i64 N, .slice A n c] 39)
  have k0 := Blk.new w 39 #[.int .i64 8, .int .i64 N, .slice A n c]
  obtain ⟨W1, hW1⟩ : ∃ W1, w.alloc (.cells #[.int .i64 8, .int .i64 N, .slice A n c] 39) = W1 := ⟨_, rfl⟩
  obtain ⟨b0, e0⟩ : ∃ b0, w.heap.size = b0 := ⟨_, rfl⟩
  rw [hW1] at h1 k0
  rw [e0] at k0
  have g0 := (k0.cell 0).trans rfl
  have c1 := copyP _ p S s h1.l.pd
  have hs1 : Small [1] := fun c hc => by simp at hc; omega
  have hs2 : Small [2] := fun c hc => by simp at hc; omega
  have C2 : ∀ w2 q2 S2, PD w2 q2 S2 s → (∀ k, S2 k → W1.heap.size ≤ k) → Below W1.heap.size W1 w2 →
      Calls Try.prog 39 #[.pointer (some ⟨q, 0, none⟩)] w2 fun e w3 => ∃ q3, e = .returned (.pointer (some ⟨q3, 0, none⟩)) ∧
        Calls Try.prog 19 #[.pointer (some ⟨p, 0, none⟩), .slice (some ⟨w3.heap.size, 0, none⟩) 1 1] (w3.alloc (.cells #[.int .u8 1] 5)) fun e w4 => ∃ z, e = .returned (.int .i64 z) ∧
          Calls Try.prog 17 #[.pointer (some ⟨p, 0, none⟩), .slice (some ⟨w4.heap.size, 0, none⟩) 1 1] (w4.alloc (.cells #[.int .u8 2] 5)) fun e w5 => e = .returned (.int .i64 0) ∧ ∃ S', ∃ T', Pair w0 w5 q2 S' s q3 T' s := by
    intro w2 q2 S2 a1 a2 a3
    have h2 := h1.new a3
    refine (copyR w2 q T s h2.r.rd).mono ?_
    rintro e w3 ⟨q3, S3, rfl, b1, b2, b3⟩
    refine ⟨q3, rfl, ?_⟩
    have h3 := h2.new b3
    obtain ⟨S', T', hp, hS1, hT1⟩ := pair_made h1.l.below a1 a2 a3 b1 b2 b3
    have h3a := h3.l.alloc (.cells #[.int .u8 1] 5)
    have hpa := hp.alloc (.cells #[.int .u8 1] 5)
    refine (writeP _ p S s h3a.pd (some ⟨w3.heap.size, 0, none⟩) 1 1 [1] (reads_lit w3 #[.int .u8 1] [1] 1 rfl rfl) hs1 (by omega) (fun k _ hk e => ?_)).mono ?_
    · have := h3.l.hi k e
      have hk' : w3.heap.size = k := by simpa [blkOf] using hk
      omega
    rintro e w4 ⟨rfl, m4⟩
    refine ⟨_, rfl, ?_⟩
    obtain ⟨S4, i4, s4⟩ := m4.into h3a
    have apS : ∀ k, S' k → ¬ S k := fun k hk e => by
      have := hS1 k hk
      have := h1.l.hi k e
      omega
    have apT : ∀ k, T' k → ¬ S k := fun k hk e => by
      have := hT1 k hk
      have := h1.l.hi k e
      omega
    have hp4 := hpa.fr s4.2 apS apT h3a.lo
    have i4a := i4.alloc (.cells #[.int .u8 2] 5)
    refine (putP _ p S4 _ i4a.pd (some ⟨w4.heap.size, 0, none⟩) 1 1 [2] (reads_lit w4 #[.int .u8 2] [2] 1 rfl rfl) hs2 (by omega) (fun k _ hk e => ?_)).mono ?_
    · have := i4.hi k e
      have hk' : w4.heap.size = k := by simpa [blkOf] using hk
      omega
    rintro e w5 ⟨rfl, m5⟩
    obtain ⟨S5, i5, s5⟩ := m5.into i4a
    refine ⟨rfl, S', T', (hp4.alloc (.cells #[.int .u8 2] 5)).fr s5.2 (fun k hk e => ?_) (fun k hk e => ?_) i4a.lo⟩
    · rcases s4.1 k e with e1 | e1
      · exact apS k hk e1
      · have := hpa.l.hi k hk
        omega
    · rcases s4.1 k e with e1 | e1
      · exact apT k hk e1
      · have := hpa.r.hi k hk
        omega
  have C2' := Lib.hid C2
  clear h h1 k0 C2
  go_enter Try.func11, Try.ntmps11
  go_wp2_with (first
    | (go_at_call 23; refine c1.mono ?_; clear c1; rintro e w2 ⟨q2, S2, rfl, a1, a2, a3⟩; have D2 := C2'.out w2 q2 S2 a1 a2 a3; clear a1 a2 a3 C2')
    | (go_at_call 39; refine D2.mono ?_; clear D2; rintro e w3 ⟨q3, rfl, D3⟩)
    | (go_at_call 19; refine D3.mono ?_; clear D3; rintro e w4 ⟨z4, rfl, D4⟩)
    | (go_at_call 17; refine D4.mono ?_; clear D4; rintro e w5 ⟨rfl, S', T', h5⟩; have H5 := Lib.hid h5; clear h5))
  go_ret3
  exact ⟨q2, S', q3, T', rfl, H5.out⟩

set_option maxHeartbeats 8000000 in
set_option maxRecDepth 100000 in
theorem does_other (K : Int) (hK : K < 1 ∨ 8 < K) : Calls Try.prog 11 #[.pointer (some ⟨p, 0, none⟩), .pointer (some ⟨q, 0, none⟩), .agg #[.int .i64 K, .int .i64 N, .slice A n c]] w (DoesPost w0 s) := by
  have h1 := h.alloc (.cells #[.int .i64 K, .int .i64 N, .slice A n c] 39)
  have e1 : (K == 1) = false := by rw [beq_eq_false_iff_ne]; omega
  have e2 : (K == 2) = false := by rw [beq_eq_false_iff_ne]; omega
  have e3 : (K == 3) = false := by rw [beq_eq_false_iff_ne]; omega
  have e4 : (K == 4) = false := by rw [beq_eq_false_iff_ne]; omega
  have e5 : (K == 5) = false := by rw [beq_eq_false_iff_ne]; omega
  have e6 : (K == 6) = false := by rw [beq_eq_false_iff_ne]; omega
  have e7 : (K == 7) = false := by rw [beq_eq_false_iff_ne]; omega
  have e8 : (K == 8) = false := by rw [beq_eq_false_iff_ne]; omega
  have H1 := Lib.hid h1
  clear h h1 hK
  go_enter Try.func11, Try.ntmps11
  go_wp2
  go_ret3
  exact ⟨p, S, q, T, rfl, H1.out⟩
end
end Go.Proofs.Ytapgcglpkilofaa
