/- does of wicketlaw03: Drop. Conditions: those that each states. -/
import Derived.Test.YtapgcglpkilofaaDiskPair
import Derived.Deep.RegionLaw
namespace Go.Proofs.Ytapgcglpkilofaa
open Go.RowKit

section
variable (w0 w : World) (p : Nat) (S : Nat → Prop) (s : DS) (q : Nat) (T : Nat → Prop) (h : Pair w0 w p S s q T s) (N : Int) (A : Option Addr) (n c : Nat) (b : List Nat)
include h

set_option maxHeartbeats 4000000 in
set_option maxRecDepth 100000 in
theorem does_drop : Calls Try.prog 11 #[.pointer (some ⟨p, 0, none⟩), .pointer (some ⟨q, 0, none⟩), .agg #[.int .i64 4, .int .i64 N, .slice A n c]] w (DoesPost w0 (s.dropS N)) := by
  have h1 := h.alloc (.cells #[.int .i64 4, .int .i64 N, .slice A n c] 39)
  have k0 := Blk.new w 39 #[.int .i64 4, .int .i64 N, .slice A n c]
  obtain ⟨W1, hW1⟩ : ∃ W1, w.alloc (.cells #[.int .i64 4, .int .i64 N, .slice A n c] 39) = W1 := ⟨_, rfl⟩
  obtain ⟨b0, e0⟩ : ∃ b0, w.heap.size = b0 := ⟨_, rfl⟩
  have nS : ¬ S b0 := fun e => by have := h.l.hi _ e; omega
  have nT : ¬ T b0 := fun e => by have := h.r.hi _ e; omega
  rw [hW1] at h1 k0
  rw [e0] at k0
  have hb0 := k0.lt
  have g0 := (k0.cell 0).trans rfl
  have g1 := (k0.cell 1).trans rfl
  have y1 : W1.drew.cell? ⟨b0, 1, none⟩ = some (.int .i64 N) := g1
  have c1 := dropP _ p S s h1.drew.l.pd N
  have H1 := Lib.hid h1.drew
  clear h h1 k0
  go_enter Try.func11, Try.ntmps11
  go_wp2
  try simp only [hW1, e0]
  go_region_law (first
    | (go_simp; go_at_call 21; refine c1.mono ?_; clear c1; rintro e w2 ⟨rfl, m2⟩; obtain ⟨S2, h2, s2⟩ := H1.out.stepP m2; have y2 := (s2.2.cell_ (p := ⟨b0, 1, none⟩) hb0 nS).trans y1; have c2 := dropR _ q T s h2.r.rd N; have H2 := Lib.hid h2; clear h2 m2 s2)
    | (go_simp; go_at_call 36; refine c2.mono ?_; clear c2; rintro e w3 ⟨rfl, m3⟩; obtain ⟨T3, h3, s3⟩ := H2.out.stepR m3; have H3 := Lib.hid h3; clear h3 m3 s3))
  all_goals
    go_wp2
    go_ret3
    exact ⟨p, S2, q, T3, rfl, H3.out⟩
end
end Go.Proofs.Ytapgcglpkilofaa
