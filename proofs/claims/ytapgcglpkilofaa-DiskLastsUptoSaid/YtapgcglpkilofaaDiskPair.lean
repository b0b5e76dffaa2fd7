/- The program's disk beside the document's: how a pair goes on. Conditions: those that each states. -/
import Derived.Test.YtapgcglpkilofaaDiskIn
namespace Go.Proofs.Ytapgcglpkilofaa
open Go.RowKit

/-- Two disks, apart, in memory made since w0. -/
structure Pair (w0 w : World) (p : Nat) (S : Nat → Prop) (s : DS) (q : Nat) (T : Nat → Prop) (r : DS) : Prop where
  l : InP w0 w p S s
  r : InR w0 w q T r
  apart : ∀ k, S k → ¬ T k
theorem Fr.cell_ {S : Nat → Prop} {w w' : World} (hf : Fr S w w') {p : Addr} (hp : p.block < w.heap.size) (hn : ¬ S p.block) : w'.cell? p = w.cell? p := World.cell?_of_block (hf.block _ hp hn)
section
variable {w0 w w' : World} {p q : Nat} {S T X : Nat → Prop} {s r s2 r2 : DS}
theorem Pair.fr (h : Pair w0 w p S s q T r) (hf : Fr X w w') (h1 : ∀ k, S k → ¬ X k) (h2 : ∀ k, T k → ¬ X k) (hX : ∀ k, X k → w0.heap.size ≤ k) : Pair w0 w' p S s q T r :=
  ⟨h.l.fr hf h1 hX, h.r.fr hf h2 hX, h.apart⟩
theorem Pair.new (h : Pair w0 w p S s q T r) (hb : Below w.heap.size w w') : Pair w0 w' p S s q T r := ⟨h.l.new hb, h.r.new hb, h.apart⟩
theorem Pair.drew (h : Pair w0 w p S s q T r) : Pair w0 w.drew p S s q T r := ⟨h.l.drew, h.r.drew, h.apart⟩
theorem Pair.drewN (h : Pair w0 w p S s q T r) (n : Nat) : Pair w0 (w.drewN n) p S s q T r := ⟨h.l.drewN n, h.r.drewN n, h.apart⟩
theorem Pair.alloc (h : Pair w0 w p S s q T r) (o : Obj) : Pair w0 (w.alloc o) p S s q T r := ⟨h.l.alloc o, h.r.alloc o, h.apart⟩
theorem Pair.stepP (h : Pair w0 w p S s q T r) (m : MovedP w p S s2 w') : ∃ S', Pair w0 w' p S' s2 q T r ∧ Since S S' w w' := by
  obtain ⟨S', h1, h2⟩ := m.into h.l
  refine ⟨S', ⟨h1, h.r.fr h2.2 (fun k hk hs => h.apart k hs hk) h.l.lo, fun k hk ht => ?_⟩, h2⟩
  rcases h2.1 k hk with e | e
  · exact h.apart k e ht
  · have := h.r.hi k ht
    omega
theorem Pair.stepR (h : Pair w0 w p S s q T r) (m : MovedR w q T r2 w') : ∃ T', Pair w0 w' p S s q T' r2 ∧ Since T T' w w' := by
  obtain ⟨T', h1, h2⟩ := m.into h.r
  refine ⟨T', ⟨h.l.fr h2.2 (fun k hk hs => h.apart k hk hs) h.r.lo, h1, fun k hk ht => ?_⟩, h2⟩
  rcases h2.1 k ht with e | e
  · exact h.apart k hk e
  · have := h.l.hi k hk
    omega
/-- Two that were made, one behind the other. -/
theorem pair_made {w1 w2 : World} {S' T' : Nat → Prop} (hb0 : Below w0.heap.size w0 w) (h1 : PD w1 p S' s) (h2 : ∀ k, S' k → w.heap.size ≤ k) (h3 : Below w.heap.size w w1)
    (k1 : RD w2 q T' r) (k2 : ∀ k, T' k → w1.heap.size ≤ k) (k3 : Below w1.heap.size w1 w2) : ∃ S'' T'', Pair w0 w2 p S'' s q T'' r ∧ (∀ k, S'' k → w.heap.size ≤ k) ∧ (∀ k, T'' k → w.heap.size ≤ k) := by
  obtain ⟨A, a1, a2⟩ := inP_made hb0 h1 h2 h3
  obtain ⟨B, b1, b2⟩ := inR_made (hb0.trans (h3.mono hb0.size)) k1 k2 k3
  refine ⟨A, B, ⟨a1.new k3, b1, fun k hk ht => ?_⟩, a2, fun k hk => Nat.le_trans h3.size (b2 k hk)⟩
  have := a1.hi k hk
  have := b2 k ht
  omega
end

/-- What one step makes of a disk. -/
def doesS (s : DS) (K N : Int) (b : List Nat) : DS :=
  if K = 1 then s.writeS b else if K = 5 then s.putS b else if K = 2 then s.syncS else if K = 3 then s.trimS N else if K = 4 then s.dropS N else if K = 6 then s.switchS else if K = 7 then s.stopS N else s
def DoesPost (w0 : World) (s : DS) (e : Ending) (w' : World) : Prop := ∃ p S q T, e = .returned (.tuple #[.pointer (some ⟨p, 0, none⟩), .pointer (some ⟨q, 0, none⟩), .bool true]) ∧ Pair w0 w' p S s q T s

section
variable (w0 w : World) (p : Nat) (S : Nat → Prop) (s : DS) (q : Nat) (T : Nat → Prop) (h : Pair w0 w p S s q T s) (N : Int) (A : Option Addr) (n c : Nat) (b : List Nat)
include h

set_option maxHeartbeats 4000000 in
set_option maxRecDepth 100000 in
theorem does_sync : Calls Try.prog 11 #[.pointer (some ⟨p, 0, none⟩), .pointer (some ⟨q, 0, none⟩), .agg #[.int .i64 2, .int .i64 N, .slice A n c]] w (DoesPost w0 s.syncS) := by
  have h1 := h.alloc (.cells #[.int .i64 2, .int .i64 N, .slice A n c] 39)
  have k0 := Blk.new w 39 #[.int .i64 2, .int .i64 N, .slice A n c]
  have g0 := (k0.cell 0).trans rfl
  have c1 := syncP _ p S s h1.l.pd
  have H1 := Lib.hid h1
  clear h h1 k0
  go_enter Try.func11, Try.ntmps11
  go_wp2_with (first
    | (go_at_call 18; refine c1.mono ?_; clear c1; rintro e w2 ⟨rfl, m2⟩; obtain ⟨S2, h2, s2⟩ := H1.out.stepP m2; have c2 := syncR _ q T s h2.r.rd; have H2 := Lib.hid h2; clear h2 m2 s2)
    | (go_at_call 34; refine c2.mono ?_; clear c2; rintro e w3 ⟨rfl, m3⟩; obtain ⟨T3, h3, s3⟩ := H2.out.stepR m3; have H3 := Lib.hid h3; clear h3 m3 s3))
  go_ret3
  exact ⟨p, S2, q, T3, rfl, H3.out⟩

set_option maxHeartbeats 4000000 in
set_option maxRecDepth 100000 in
theorem does_switch : Calls Try.prog 11 #[.pointer (some ⟨p, 0, none⟩), .pointer (some ⟨q, 0, none⟩), .agg #[.int .i64 6, .int .i64 N, .slice A n c]] w (DoesPost w0 s.switchS) := by
  have h1 := h.alloc (.cells #[.int .i64 6, .int .i64 N, .slice A n c] 39)
  have k0 := Blk.new w 39 #[.int .i64 6, .int .i64 N, .slice A n c]
  have g0 := (k0.cell 0).trans rfl
  have c1 := switchP _ p S s h1.l.pd
  have H1 := Lib.hid h1
  clear h h1 k0
  go_enter Try.func11, Try.ntmps11
  go_wp2_with (first
    | (go_at_call 22; refine c1.mono ?_; clear c1; rintro e w2 ⟨rfl, m2⟩; obtain ⟨S2, h2, s2⟩ := H1.out.stepP m2; have c2 := switchR _ q T s h2.r.rd; have H2 := Lib.hid h2; clear h2 m2 s2)
    | (go_at_call 37; refine c2.mono ?_; clear c2; rintro e w3 ⟨rfl, m3⟩; obtain ⟨T3, h3, s3⟩ := H2.out.stepR m3; have H3 := Lib.hid h3; clear h3 m3 s3))
  go_ret3
  exact ⟨p, S2, q, T3, rfl, H3.out⟩

end
end Go.Proofs.Ytapgcglpkilofaa
