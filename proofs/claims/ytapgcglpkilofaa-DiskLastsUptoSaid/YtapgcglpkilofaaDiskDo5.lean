/- does of wicketlaw03: Put. Conditions: those that each states. -/
import Derived.Test.YtapgcglpkilofaaDiskPair
import Derived.Deep.RegionLaw
namespace Go.Proofs.Ytapgcglpkilofaa
open Go.RowKit

section
variable (w0 w : World) (p : Nat) (S : Nat → Prop) (s : DS) (q : Nat) (T : Nat → Prop) (h : Pair w0 w p S s q T s) (N : Int) (A : Option Addr) (n c : Nat) (b : List Nat)
include h

set_option maxHeartbeats 8000000 in
set_option maxRecDepth 100000 in
theorem does_put (hA : Reads w0 w0.heap.size 1 A n (byts b)) (hs : Small b) (hn : n ≤ 140737488351240) : Calls Try.prog 11 #[.pointer (some ⟨p, 0, none⟩), .pointer (some ⟨q, 0, none⟩), .agg #[.int .i64 5, .int .i64 N, .slice A n c]] w (DoesPost w0 (s.putS b)) := by
  have h1 := h.alloc (.cells #[.int .i64 5, .int .i64 N, .slice A n c] 39)
  have k0 := Blk.new w 39 #[.int .i64 5, .int .i64 N, .slice A n c]
  obtain ⟨W1, hW1⟩ : ∃ W1, w.alloc (.cells #[.int .i64 5, .int .i64 N, .slice A n c] 39) = W1 := ⟨_, rfl⟩
  obtain ⟨b0, e0⟩ : ∃ b0, w.heap.size = b0 := ⟨_, rfl⟩
  have nS : ¬ S b0 := fun e => by have := h.l.hi _ e; omega
  have nT : ¬ T b0 := fun e => by have := h.r.hi _ e; omega
  rw [hW1] at h1 k0
  rw [e0] at k0
  have hb0 := k0.lt
  have g0 := (k0.cell 0).trans rfl
  have g2 := (k0.cell 2).trans rfl
  have hA1 : Reads W1 w0.heap.size 1 A n (byts b) := hA.below h1.l.below
  have cl := lent_any W1 w0.heap.size A n c b hA1 h1.l.below.size hn
  have hAb : ∀ k, 0 < n → blkOf A = some k → k < w0.heap.size := by
    intro k h0 hk
    obtain ⟨ad, rfl, hb, _⟩ := hA.2 h0
    have : ad.block = k := by simpa [blkOf] using hk
    omega
  obtain ⟨z, hz⟩ : ∃ z : Nat, 0 = z := ⟨_, rfl⟩
  -- behind lent: the first step's call
  have C2 : ∀ w2 A2 c2, w2.ownsRow W1.heap.size 5 1 (.slice A2 (n + 1) c2) (n + 1) (byts (b ++ [165])) → Below W1.heap.size W1 w2 →
      (w2.cell? ⟨b0, 0, none⟩ = some (.int .i64 5) ∧ w2.drew.cell? ⟨b0, 2, none⟩ = some (.slice A n c)) ∧
      Calls Try.prog 17 #[.pointer (some ⟨p, 0, none⟩), .slice A2 n c2] w2.drew fun e w3 => e = .returned (.int .i64 z) ∧ ∃ S3, Pair w0 w3 p S3 (s.putS b) q T s ∧ Since S S3 w2 w3 ∧ w3.cell? ⟨b0, 2, none⟩ = some (.slice A n c) := by
    intro w2 A2 c2 o2 m2
    have h2 := (h1.new m2).drew
    have l2 : b0 < w2.heap.size := Nat.lt_of_lt_of_le hb0 m2.size
    have y0 := (m2.cell (p := ⟨b0, 0, none⟩) hb0).trans g0
    have y2 := (m2.cell (p := ⟨b0, 2, none⟩) hb0).trans g2
    refine ⟨⟨y0, y2⟩, ?_⟩
    have hl : b.length = n := by have := hA.1; rw [byts_length] at this; omega
    have hr : Reads w2 w2.heap.size 1 A2 n (byts b) := by
      have := (Reads.of_own (own_take o2 (k := n) (by omega)))
      rwa [byts_append, ← hl, ← byts_length b, List.take_left, byts_length, hl] at this
    refine (putP w2.drew p S s h2.l.pd A2 n c2 b hr.drew hs hn fun k _ hk e => ?_).mono ?_
    · have h3 := (o2.lt k (by rw [ownBlock_slice]; exact hk)).1
      have h4 := h1.l.hi k e
      omega
    · rintro e w3 ⟨rfl, m3⟩
      obtain ⟨S3, h3, s3⟩ := h2.stepP m3
      exact ⟨by rw [← hz]; rfl, S3, h3, ⟨s3.1, ((Fr.refl S w2).drew).trans' s3.2⟩, (s3.2.cell_ (p := ⟨b0, 2, none⟩) l2 nS).trans y2⟩
  have C3 : ∀ w2 w3 S3, Pair w0 w3 p S3 (s.putS b) q T s → w3.cell? ⟨b0, 2, none⟩ = some (.slice A n c) → Since S S3 w2 w3 → W1.heap.size ≤ w2.heap.size →
      Calls Try.prog 33 #[.pointer (some ⟨q, 0, none⟩), .slice A n c] w3 fun e w4 => e = .returned (.int .i64 z) ∧ ∃ T4, Pair w0 w4 p S3 (s.putS b) q T4 (s.putS b) ∧ Since T T4 w3 w4 ∧ w4.cell? ⟨b0, 2, none⟩ = some (.slice A n c) := by
    intro w2 w3 S3 h3 y3 s3 hsz
    have l3 : b0 < w3.heap.size := Nat.lt_of_lt_of_le hb0 (Nat.le_trans hsz s3.2.size)
    refine (putR w3 q T s h3.r.rd A n c b ((hA.below h3.l.below).more h3.l.below.size) hs hn fun k h0 hk e => ?_).mono ?_
    · have h5 := hAb k h0 hk
      have h4 := h3.r.lo k e
      omega
    · rintro e w4 ⟨rfl, m4⟩
      obtain ⟨T4, h4, s4⟩ := h3.stepR m4
      exact ⟨by rw [← hz]; rfl, T4, h4, s4, (s4.2.cell_ (p := ⟨b0, 2, none⟩) l3 nT).trans y3⟩
  have C4 : ∀ w2 w3 w4 A2 c2 S3 T4, w2.ownsRow W1.heap.size 5 1 (.slice A2 (n + 1) c2) (n + 1) (byts (b ++ [165])) → Below W1.heap.size W1 w2 → Since S S3 w2 w3 → Since T T4 w3 w4 → Pair w0 w4 p S3 (s.putS b) q T4 (s.putS b) →
      Calls Try.prog 9 #[.slice A2 n c2, .slice A n c] w4 fun e w5 => e = .returned (.bool true) ∧ Pair w0 w5 p S3 (s.putS b) q T4 (s.putS b) := by
    intro w2 w3 w4 A2 c2 S3 T4 o2 m2 s3 s4 h4
    have hk2 : ∀ k, blkOf A2 = some k → W1.heap.size ≤ k ∧ k < w2.heap.size := fun k hk => o2.lt k (by rw [ownBlock_slice]; exact hk)
    have o3 := own_fr o2 s3.2 fun k hk e => by
      have h5 := (hk2 k (bk_of hk)).1
      have h6 := h1.l.hi k e
      omega
    have o4 := own_fr o3 s4.2 fun k hk e => by
      have h5 := (hk2 k (bk_of hk)).1
      have h6 := h1.r.hi k e
      omega
    refine (left_any w4 _ w0.heap.size A2 A n c2 c b o4 (hA.below h4.l.below) hs hn).mono ?_
    rintro e w5 ⟨rfl, f5⟩
    refine ⟨rfl, h4.fr f5 (fun k hk e => ?_) (fun k hk e => ?_) (fun k e => ?_)⟩
    · have h5 := hk2 k e
      rcases s3.1 k hk with e1 | e1
      · have h6 := h1.l.hi k e1
        omega
      · omega
    · have h5 := hk2 k e
      have h7 := s3.2.size
      rcases s4.1 k hk with e1 | e1
      · have h6 := h1.r.hi k e1
        omega
      · omega
    · exact Nat.le_trans h1.l.below.size (hk2 k e).1
  have C2' := Lib.hid C2
  have C3' := Lib.hid C3
  have C4' := Lib.hid C4
  clear h h1 k0 hA1 nS nT hA hAb C2 C3 C4 hz
  go_enter Try.func11, Try.ntmps11
  go_wp2_with (go_at_call 6; refine cl.mono ?_; clear cl; rintro e w2 ⟨A2, c2, rfl, o2, m2⟩; obtain ⟨⟨y0, y2⟩, D2⟩ := C2'.out w2 A2 c2 o2 m2)
  clear g0 g2
  have MO := Lib.hid (And.intro o2 m2)
  clear o2
  go_region_law (first
    | (go_simp; go_at_call 17; refine D2.mono ?_; clear D2; rintro e w3 ⟨rfl, S3, h3, s3, y3⟩; have D3 := C3'.out w2 w3 S3 h3 y3 s3 m2.size; have H3 := Lib.hid s3; clear h3 s3)
    | (go_simp; go_at_call 33; refine D3.mono ?_; clear D3; rintro e w4 ⟨rfl, T4, h4, s4, y4⟩; have D4 := C4'.out w2 w3 w4 A2 c2 S3 T4 MO.out.1 MO.out.2 H3.out s4 h4; clear h4 s4))
  all_goals
    go_wp2_with (go_at_call 9; refine D4.mono ?_; clear D4; rintro e w5 ⟨rfl, h5⟩; have H5 := Lib.hid h5; clear h5)
    go_ret3
    exact ⟨p, S3, q, T4, rfl, H5.out⟩
end
end Go.Proofs.Ytapgcglpkilofaa
