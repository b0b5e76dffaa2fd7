/- A disk as a value: what it holds, what each step makes of it. Conditions: none. -/
import Derived.Test.YtapgcglpkilofaaBytes
namespace Go.Proofs.Ytapgcglpkilofaa
open Go.RowKit

theorem bk_of {A : Option Addr} {n c k : Nat} (h : (Value.slice A n c).ownBlock = some k) : blkOf A = some k := by rwa [ownBlock_slice] at h

/-- A disk: its room, the log, how much of it lasts, two places, which is the last one, steps. -/
structure DS where
  cap : Nat
  log : List Nat
  sure : Nat
  d0 : List Nat
  d1 : List Nat
  h0 : Bool
  h1 : Bool
  last : Int
  steps : Int
namespace DS
structure Ok (s : DS) : Prop where
  cap1 : 1 ≤ s.cap
  cap2 : s.cap ≤ 1048576
  sure : s.sure ≤ s.log.length
  nl : s.log.length ≤ 140737488351240
  n0 : s.d0.length ≤ 140737488351240
  n1 : s.d1.length ≤ 140737488351240
  last : s.last = -1 ∨ s.last = 0 ∨ s.last = 1
  sl : Small s.log
  s0 : Small s.d0
  s1 : Small s.d1
/-- Which place is the spare one. -/
def sp (s : DS) : Nat := if s.last = 0 then 1 else 0
def bump (s : DS) : DS := { s with steps := IntKind.i64.wrap (s.steps + 1) }
def writeC (s : DS) (b : List Nat) : Nat := if 0 < b.length ∧ s.cap < s.log.length + b.length then 7 else 0
def writeS (s : DS) (b : List Nat) : DS := if 0 < b.length ∧ s.cap < s.log.length + b.length then s.bump else { s.bump with log := s.log ++ b }
def syncS (s : DS) : DS := { s.bump with sure := s.log.length }
def trimC (s : DS) (n : Int) : Nat := if n < 0 ∨ s.log.length < n then 2 else 0
def trimS (s : DS) (n : Int) : DS := if n < 0 ∨ s.log.length < n then s.bump else { s.bump with log := s.log.take n.toNat, sure := n.toNat }
def dropC (s : DS) (n : Int) : Nat := if n < 0 ∨ s.sure < n then 2 else 0
def dropS (s : DS) (n : Int) : DS := if n < 0 ∨ s.sure < n then s.bump else { s.bump with log := s.log.drop n.toNat, sure := s.sure - n.toNat }
def putS (s : DS) (b : List Nat) : DS := if s.last = 0 then { s.bump with d1 := b, h1 := true } else { s.bump with d0 := b, h0 := true }
def spareH (s : DS) : Bool := if s.last = 0 then s.h1 else s.h0
def spareD (s : DS) : List Nat := if s.last = 0 then s.d1 else s.d0
def lastD (s : DS) : List Nat := if s.last = 0 then s.d0 else s.d1
def switchC (s : DS) : Nat := if s.spareH = true then 0 else 5
def switchS (s : DS) : DS := if s.spareH = true then { s.bump with last := s.sp } else s.bump
def left (s : DS) (keep : Int) : Nat := s.sure + min keep.toNat (s.log.length - s.sure)
def stopS (s : DS) (keep : Int) : DS := { s with log := s.log.take (s.left keep), sure := s.left keep, steps := 0 }

theorem left_le {s : DS} (h : s.Ok) (keep : Int) : s.left keep ≤ s.log.length := by have := h.sure; unfold left; omega
namespace Ok
variable {s : DS} (h : s.Ok)
include h
theorem bump : s.bump.Ok := ⟨h.cap1, h.cap2, h.sure, h.nl, h.n0, h.n1, h.last, h.sl, h.s0, h.s1⟩
theorem writeS {b : List Nat} (hb : Small b) : (s.writeS b).Ok := by
  unfold DS.writeS
  split
  · exact h.bump
  · rename_i hn
    refine ⟨h.cap1, h.cap2, ?_, ?_, h.n0, h.n1, h.last, h.sl.append hb, h.s0, h.s1⟩
    · show s.sure ≤ (s.log ++ b).length
      rw [List.length_append]
      have := h.sure
      omega
    · show (s.log ++ b).length ≤ 140737488351240
      rw [List.length_append]
      have := h.nl
      have := h.cap2
      omega
theorem syncS : s.syncS.Ok := ⟨h.cap1, h.cap2, Nat.le_refl _, h.nl, h.n0, h.n1, h.last, h.sl, h.s0, h.s1⟩
theorem cut {k : Nat} (hk : k ≤ s.log.length) (st : Int) : ({ s with log := s.log.take k, sure := k, steps := st } : DS).Ok :=
  ⟨h.cap1, h.cap2, by show k ≤ (s.log.take k).length; rw [List.length_take]; omega, by show (s.log.take k).length ≤ _; have := h.nl; rw [List.length_take]; omega, h.n0, h.n1, h.last, h.sl.take k, h.s0, h.s1⟩
theorem trimS (n : Int) : (s.trimS n).Ok := by
  unfold DS.trimS
  split
  · exact h.bump
  · exact h.cut (by omega) _
theorem dropS (n : Int) : (s.dropS n).Ok := by
  unfold DS.dropS
  split
  · exact h.bump
  · refine ⟨h.cap1, h.cap2, ?_, ?_, h.n0, h.n1, h.last, h.sl.drop _, h.s0, h.s1⟩
    · show s.sure - n.toNat ≤ (s.log.drop n.toNat).length
      have := h.sure
      rw [List.length_drop]
      omega
    · show (s.log.drop n.toNat).length ≤ _
      have := h.nl
      rw [List.length_drop]
      omega
theorem putS {b : List Nat} (hb : Small b) (hn : b.length ≤ 140737488351240) : (s.putS b).Ok := by
  unfold DS.putS
  split
  · exact ⟨h.cap1, h.cap2, h.sure, h.nl, h.n0, hn, h.last, h.sl, h.s0, hb⟩
  · exact ⟨h.cap1, h.cap2, h.sure, h.nl, hn, h.n1, h.last, h.sl, hb, h.s1⟩
theorem switchS : s.switchS.Ok := by
  unfold DS.switchS
  split
  · exact ⟨h.cap1, h.cap2, h.sure, h.nl, h.n0, h.n1, by show ((s.sp : Nat) : Int) = -1 ∨ _; unfold DS.sp; split <;> simp, h.sl, h.s0, h.s1⟩
  · exact h.bump
theorem stopS (keep : Int) : (s.stopS keep).Ok := h.cut (left_le h keep) _
end Ok
end DS

/-- A row of its own, cut at a smaller length. -/
theorem own_take {w : World} {base n c : Nat} {e : TypeId} {A : Option Addr} {xs : List Value} (h : w.ownsRow base e 1 (.slice A n c) n xs) {k : Nat} (hk : k ≤ n) : w.ownsRow base e 1 (.slice A k c) k (xs.take k) := by
  have hl := h.1
  refine ⟨by rw [List.length_take]; omega, ?_⟩
  rcases h.2 with ⟨h1, h2⟩ | ⟨g, cap, cur, hv, hb, hh, hnc, hm, hsz, ht⟩
  · injection h1 with e1 e2 e3
    subst e1 e3
    have hk0 : k = 0 := by omega
    subst hk0
    exact .inl ⟨rfl, rfl⟩
  · injection hv with e1 e2 e3
    subst e1 e3
    refine .inr ⟨g, _, cur, rfl, hb, hh, by omega, hm, hsz, ?_⟩
    rw [← ht, List.take_take]
    congr 1
    omega

/-- The program's disk in memory. -/
structure PDx (w : World) (p : Nat) (Al : Option Addr) (nl cl : Nat) (A0 : Option Addr) (n0 c0 : Nat) (A1 : Option Addr) (n1 c1 : Nat) (s : DS) : Prop where
  blk : Blk w p 54 #[.int .i64 s.cap, .slice Al nl cl, .int .i64 s.sure, .slice A0 n0 c0, .bool s.h0, .slice A1 n1 c1, .bool s.h1, .int .i64 s.last, .int .i64 s.steps]
  rl : w.ownsRow 0 5 1 (.slice Al nl cl) nl (byts s.log)
  r0 : w.ownsRow 0 5 1 (.slice A0 n0 c0) n0 (byts s.d0)
  r1 : w.ownsRow 0 5 1 (.slice A1 n1 c1) n1 (byts s.d1)
  ne0 : ∀ k, blkOf Al = some k → blkOf A0 ≠ some k
  ne1 : ∀ k, blkOf Al = some k → blkOf A1 ≠ some k
/-- The document's disk in memory. -/
structure RDx (w : World) (p : Nat) (Al : Option Addr) (nl cl : Nat) (A0 : Option Addr) (n0 c0 : Nat) (A1 : Option Addr) (n1 c1 : Nat) (s : DS) : Prop where
  blk : Blk w p 61 #[.int .i64 s.cap, .slice Al nl cl, .int .i64 s.sure, .slice A0 n0 c0, .slice A1 n1 c1, .bool s.h0, .bool s.h1, .int .i64 s.last, .int .i64 s.steps]
  rl : w.ownsRow 0 5 1 (.slice Al nl cl) nl (byts s.log)
  r0 : w.ownsRow 0 5 1 (.slice A0 n0 c0) n0 (byts s.d0)
  r1 : w.ownsRow 0 5 1 (.slice A1 n1 c1) n1 (byts s.d1)
  ne0 : ∀ k, blkOf Al = some k → blkOf A0 ≠ some k
  ne1 : ∀ k, blkOf Al = some k → blkOf A1 ≠ some k
/-- The blocks of a disk. -/
structure Has (S : Nat → Prop) (p : Nat) (Al A0 A1 : Option Addr) : Prop where
  p : S p
  l : ∀ k, blkOf Al = some k → S k
  d0 : ∀ k, blkOf A0 = some k → S k
  d1 : ∀ k, blkOf A1 = some k → S k
def PD (w : World) (p : Nat) (S : Nat → Prop) (s : DS) : Prop := s.Ok ∧ ∃ Al nl cl A0 n0 c0 A1 n1 c1, PDx w p Al nl cl A0 n0 c0 A1 n1 c1 s ∧ Has S p Al A0 A1
def RD (w : World) (p : Nat) (S : Nat → Prop) (s : DS) : Prop := s.Ok ∧ ∃ Al nl cl A0 n0 c0 A1 n1 c1, RDx w p Al nl cl A0 n0 c0 A1 n1 c1 s ∧ Has S p Al A0 A1

theorem PD.fr {S T : Nat → Prop} {w w' : World} {p : Nat} {s : DS} (h : PD w p S s) (hf : Fr T w w') (hn : ∀ k, S k → ¬ T k) : PD w' p S s := by
  obtain ⟨ok, Al, nl, cl, A0, n0, c0, A1, n1, c1, hx, hh⟩ := h
  refine ⟨ok, Al, nl, cl, A0, n0, c0, A1, n1, c1, ⟨hx.blk.fr hf (hn _ hh.p), ?_, ?_, ?_, hx.ne0, hx.ne1⟩, hh⟩
  · exact own_fr hx.rl hf fun k hk => hn k (hh.l k (bk_of hk))
  · exact own_fr hx.r0 hf fun k hk => hn k (hh.d0 k (bk_of hk))
  · exact own_fr hx.r1 hf fun k hk => hn k (hh.d1 k (bk_of hk))
theorem RD.fr {S T : Nat → Prop} {w w' : World} {p : Nat} {s : DS} (h : RD w p S s) (hf : Fr T w w') (hn : ∀ k, S k → ¬ T k) : RD w' p S s := by
  obtain ⟨ok, Al, nl, cl, A0, n0, c0, A1, n1, c1, hx, hh⟩ := h
  refine ⟨ok, Al, nl, cl, A0, n0, c0, A1, n1, c1, ⟨hx.blk.fr hf (hn _ hh.p), ?_, ?_, ?_, hx.ne0, hx.ne1⟩, hh⟩
  · exact own_fr hx.rl hf fun k hk => hn k (hh.l k (bk_of hk))
  · exact own_fr hx.r0 hf fun k hk => hn k (hh.d0 k (bk_of hk))
  · exact own_fr hx.r1 hf fun k hk => hn k (hh.d1 k (bk_of hk))
end Go.Proofs.Ytapgcglpkilofaa
