/- does of wicketlaw03: Stop. Conditions: those that each states. -/
import Derived.Test.YtapgcglpkilofaaDiskPair
import Derived.Test.YtapgcglpkilofaaDiskTells
import Derived.Test.YtapgcglpkilofaaDiskCopyR
import Derived.Deep.RegionLaw
namespace Go.Proofs.Ytapgcglpkilofaa
open Go.RowKit

section
variable (w0 w : World) (p : Nat) (S : Nat → Prop) (s : DS) (q : Nat) (T : Nat → Prop) (h : Pair w0 w p S s q T s) (N : Int) (A : Option Addr) (n c : Nat) (b : List Nat)
include h

set_option maxHeartbeats 8000000 in
set_option maxRecDepth 100000 in
theorem does_stop (hN : -9223372036854775808 ≤ N ∧ N ≤ 9223372036854775807) : Calls Try.prog 11 #[.pointer (some ⟨p, 0, none⟩), .pointer (some ⟨q, 0, none⟩), .agg #[.int .i64 7, .int .i64 N, .slice A n c]] w (DoesPost w0 (s.stopS N)) := by
  have h1 := h.alloc (.cells #[.int .i64 7, .int .i64 N, .slice A n c] 39)
  have k0 := Blk.new w 39 #[.int .i64 7, .int .i64 N, .slice A n c]
  obtain ⟨W1, hW1⟩ : ∃ W1, w.alloc (.cells #[.int .i64 7, .int .i64 N, .slice A n c] 39) = W1 := ⟨_, rfl⟩
  obtain ⟨b0, e0⟩ : ∃ b0, w.heap.size = b0 := ⟨_, rfl⟩
  rw [hW1] at h1 k0
  rw [e0] at k0
  have hb0 := k0.lt
  have g0 := (k0.cell 0).trans rfl
  have g1 := (k0.cell 1).trans rfl
  have y1 : W1.drew.cell? ⟨b0, 1, none⟩ = some (.int .i64 N) := g1
  have c1 := stopP _ p S s h1.drew.l.pd N
  have C2 : ∀ w2 q2 S2, PD w2 q2 S2 (s.stopS N) → (∀ k, S2 k → W1.drew.heap.size ≤ k) → Below W1.drew.heap.size W1.drew w2 → w2.cell? ⟨b0, 1, none⟩ = some (.int .i64 N) ∧
      Calls Try.prog 38 #[.pointer (some ⟨q, 0, none⟩), .int .i64 N] w2 fun e w3 => ∃ q3, e = .returned (.pointer (some ⟨q3, 0, none⟩)) ∧
        Calls Try.prog 10 #[.pointer (some ⟨p, 0, none⟩), .pointer (some ⟨q, 0, none⟩)] w3 fun e w4 => e = .returned (.bool true) ∧ ∃ S', ∃ T', Pair w0 w4 q2 S' (s.stopS N) q3 T' (s.stopS N) := by
    intro w2 q2 S2 a1 a2 a3
    have h2 := h1.drew.new a3
    refine ⟨(a3.cell (p := ⟨b0, 1, none⟩) hb0).trans y1, ?_⟩
    refine (stopR w2 q T s h2.r.rd N hN).mono ?_
    rintro e w3 ⟨q3, S3, rfl, b1, b2, b3⟩
    refine ⟨q3, rfl, ?_⟩
    have h3 := h2.new b3
    obtain ⟨S', T', hp, hs1, ht1⟩ := pair_made h1.drew.l.below a1 a2 a3 b1 b2 b3
    refine (tells_any w3 p q S T s h3.l.pd h3.r.rd h3.l.hi h3.r.hi).mono ?_
    rintro e w4 ⟨rfl, m4⟩
    exact ⟨rfl, S', T', hp.new m4⟩
  have C2' := Lib.hid C2
  clear h h1 k0 C2
  go_enter Try.func11, Try.ntmps11
  go_wp2
  go_region_law (first
    | (go_simp; go_at_call 14; refine c1.mono ?_; clear c1; rintro e w2 ⟨q2, S2, rfl, a1, a2, a3⟩; obtain ⟨y2, D2⟩ := C2'.out w2 q2 S2 a1 a2 a3; clear a1 a2 a3 C2')
    | (go_simp; go_at_call 38; refine D2.mono ?_; clear D2; rintro e w3 ⟨q3, rfl, D3⟩))
  all_goals
    go_wp2_with (go_at_call 10; refine D3.mono ?_; clear D3; rintro e w4 ⟨rfl, S', T', h4⟩; have H4 := Lib.hid h4; clear h4)
    go_ret3
    exact ⟨q2, S', q3, T', rfl, H4.out⟩
end
end Go.Proofs.Ytapgcglpkilofaa
