/- Two disks, there or not: does, tells, Of. Conditions: those that each states. -/
import Derived.Test.YtapgcglpkilofaaDiskDo0
import Derived.Test.YtapgcglpkilofaaDiskDo1
import Derived.Test.YtapgcglpkilofaaDiskDo3
import Derived.Test.YtapgcglpkilofaaDiskDo4
import Derived.Test.YtapgcglpkilofaaDiskDo5
import Derived.Test.YtapgcglpkilofaaDiskDo7
import Derived.Test.YtapgcglpkilofaaDiskDo8
namespace Go.Proofs.Ytapgcglpkilofaa
open Go.RowKit

/-- One step upon two disks that stand alike. -/
theorem does_any (w0 w : World) (p : Nat) (S : Nat → Prop) (s : DS) (q : Nat) (T : Nat → Prop) (h : Pair w0 w p S s q T s) (K N : Int) (A : Option Addr) (n c : Nat) (b : List Nat)
    (hA : Reads w0 w0.heap.size 1 A n (byts b)) (hs : Small b) (hn : n ≤ 140737488351240) (hN : -9223372036854775808 ≤ N ∧ N ≤ 9223372036854775807) :
    Calls Try.prog 11 #[.pointer (some ⟨p, 0, none⟩), .pointer (some ⟨q, 0, none⟩), .agg #[.int .i64 K, .int .i64 N, .slice A n c]] w (DoesPost w0 (doesS s K N b)) := by
  unfold doesS
  by_cases h1 : K = 1
  · subst h1; exact does_write w0 w p S s q T h N A n c b hA hs hn
  rw [if_neg h1]
  by_cases h5 : K = 5
  · subst h5; exact does_put w0 w p S s q T h N A n c b hA hs hn
  rw [if_neg h5]
  by_cases h2 : K = 2
  · subst h2; exact does_sync w0 w p S s q T h N A n c
  rw [if_neg h2]
  by_cases h3 : K = 3
  · subst h3; exact does_trim w0 w p S s q T h N A n c
  rw [if_neg h3]
  by_cases h4 : K = 4
  · subst h4; exact does_drop w0 w p S s q T h N A n c
  rw [if_neg h4]
  by_cases h6 : K = 6
  · subst h6; exact does_switch w0 w p S s q T h N A n c
  rw [if_neg h6]
  by_cases h7 : K = 7
  · subst h7; exact does_stop w0 w p S s q T h N A n c hN
  rw [if_neg h7]
  by_cases h8 : K = 8
  · subst h8; exact does_copy w0 w p S s q T h N A n c
  exact does_other w0 w p S s q T h N A n c K (by omega)

theorem nil_any (w : World) (K N : Int) (A : Option Addr) (n c : Nat) (b : List Nat) (hA : Reads w w.heap.size 1 A n (byts b)) (hs : Small b) (hn : n ≤ 140737488351240) :
    Calls Try.prog 11 #[.pointer none, .pointer none, .agg #[.int .i64 K, .int .i64 N, .slice A n c]] w (NilPost w) := by
  by_cases h1 : K = 1
  · subst h1; exact nil_write w N A n c b hA hs hn
  by_cases h5 : K = 5
  · subst h5; exact nil_put w N A n c b hA hs hn
  exact nil_rest w N A n c K h1 h5

/-- Two disks that stand alike, or two that are not there; the memory of those that are lies at H or behind. -/
def Two (w0 w : World) (H : Nat) (vd ve vr : Value) : Prop := Below w0.heap.size w0 w ∧
  ((vd = .pointer none ∧ ve = .int .i64 2 ∧ vr = .pointer none) ∨
    ∃ p S q T s, vd = .pointer (some ⟨p, 0, none⟩) ∧ ve = .int .i64 0 ∧ vr = .pointer (some ⟨q, 0, none⟩) ∧ Pair w0 w p S s q T s ∧ (∀ k, S k → H ≤ k) ∧ (∀ k, T k → H ≤ k))
section
variable {w0 w w' : World} {H : Nat} {vd ve vr : Value}
theorem Two.new (h : Two w0 w H vd ve vr) (hb : Below w.heap.size w w') : Two w0 w' H vd ve vr := by
  obtain ⟨h0, h | ⟨p, S, q, T, s, e1, e2, e3, hp, h1, h2⟩⟩ := h
  · exact ⟨h0.trans (hb.mono h0.size), .inl h⟩
  · exact ⟨h0.trans (hb.mono h0.size), .inr ⟨p, S, q, T, s, e1, e2, e3, hp.new hb, h1, h2⟩⟩
/-- What lies below H is written. -/
theorem Two.fr (h : Two w0 w H vd ve vr) {X : Nat → Prop} (hf : Fr X w w') (hX : ∀ k, X k → w0.heap.size ≤ k ∧ k < H) : Two w0 w' H vd ve vr := by
  obtain ⟨h0, h | ⟨p, S, q, T, s, e1, e2, e3, hp, h1, h2⟩⟩ := h
  · exact ⟨h0.trans (hf.below (fun k hk => (hX k hk).1) h0.size), .inl h⟩
  · refine ⟨h0.trans (hf.below (fun k hk => (hX k hk).1) h0.size), .inr ⟨p, S, q, T, s, e1, e2, e3, hp.fr hf (fun k hk e => ?_) (fun k hk e => ?_) (fun k hk => (hX k hk).1), h1, h2⟩⟩
    · have := h1 k hk
      have := (hX k e).2
      omega
    · have := h2 k hk
      have := (hX k e).2
      omega
theorem Two.tells (h : Two w0 w H vd ve vr) : Calls Try.prog 10 #[vd, vr] w fun e w' => e = .returned (.bool true) ∧ Two w0 w' H vd ve vr := by
  have hh := h
  obtain ⟨h0, ⟨rfl, rfl, rfl⟩ | ⟨p, S, q, T, s, rfl, rfl, rfl, hp, h1, h2⟩⟩ := h
  · refine (tellsNo w none (.inl rfl)).mono ?_
    rintro e w' ⟨rfl, k, rfl⟩
    exact ⟨rfl, hh.new (below_drewN (Below.refl _ w) k)⟩
  · refine (tells_any w p q S T s hp.l.pd hp.r.rd hp.l.hi hp.r.hi).mono ?_
    rintro e w' ⟨rfl, hb⟩
    exact ⟨rfl, hh.new hb⟩
theorem Two.does (h : Two w0 w H vd ve vr) (K N : Int) (A : Option Addr) (n c : Nat) (b : List Nat)
    (hA : Reads w0 w0.heap.size 1 A n (byts b)) (hs : Small b) (hn : n ≤ 140737488351240) (hN : -9223372036854775808 ≤ N ∧ N ≤ 9223372036854775807) :
    Calls Try.prog 11 #[vd, vr, .agg #[.int .i64 K, .int .i64 N, .slice A n c]] w fun e w' => ∃ vd' ve' vr', e = .returned (.tuple #[vd', vr', .bool true]) ∧ Two w0 w' 0 vd' ve' vr' := by
  obtain ⟨h0, ⟨rfl, rfl, rfl⟩ | ⟨p, S, q, T, s, rfl, rfl, rfl, hp, h1, h2⟩⟩ := h
  · refine (nil_any w K N A n c b ((hA.below h0).more h0.size) hs hn).mono ?_
    rintro e w' ⟨rfl, hb⟩
    exact ⟨_, .int .i64 2, _, rfl, h0.trans (hb.mono h0.size), .inl ⟨rfl, rfl, rfl⟩⟩
  · refine (does_any w0 w p S s q T hp K N A n c b hA hs hn hN).mono ?_
    rintro e w' ⟨p2, S2, q2, T2, rfl, hp2⟩
    exact ⟨_, .int .i64 0, _, rfl, hp2.l.below, .inr ⟨p2, S2, q2, T2, _, rfl, rfl, rfl, hp2, fun _ _ => Nat.zero_le _, fun _ _ => Nat.zero_le _⟩⟩
end

/-- Of and Of, one behind the other. -/
theorem two_of (w0 W : World) (z : Int) (Am : Option Addr) (nl cm : Nat) (log : List Nat) (G : Option Addr) (ns gc : Nat) (ls : List (List Nat)) (Al : Option Addr) (cl : Nat) (As : Option Addr) (cs : Nat)
    (h0 : Below w0.heap.size w0 W) (hm : Reads W W.heap.size 1 Am nl (byts log)) (hs : Small log) (hn : nl ≤ 140737488351240) (hG : Reads2 W W.heap.size G ns ls)
    (hl : Reads w0 w0.heap.size 1 Al nl (byts log)) (hS : Reads2 w0 w0.heap.size As ns ls) (hls : ∀ l ∈ ls, l.length ≤ 140737488351240 ∧ Small l) :
    Calls Try.prog 7 #[.int .i64 z, .slice Am nl cm, .slice G ns gc] W fun e w1 => ∃ vd ve, e = .returned (.tuple #[vd, ve]) ∧ Below W.heap.size W w1 ∧
      Calls Try.prog 8 #[.int .i64 z, .slice Al nl cl, .slice As ns cs] w1 fun e w2 => ∃ vr, e = .returned vr ∧ Below W.heap.size W w2 ∧ Two w0 w2 W.heap.size vd ve vr := by
  by_cases hv : z < 1 ∨ 1048576 < z ∨ 2 < ns
  · refine (ofPNo W z Am nl cm G ns gc hv).mono ?_
    rintro e w1 ⟨rfl, rfl⟩
    refine ⟨_, _, rfl, Below.refl _ _, ?_⟩
    refine (ofRNo W z Al nl cl As ns cs hv).mono ?_
    rintro e w2 ⟨rfl, rfl⟩
    exact ⟨_, rfl, Below.refl _ _, h0, .inl ⟨rfl, rfl, rfl⟩⟩
  · obtain ⟨k, rfl⟩ : ∃ k : Nat, z = (k : Int) := ⟨z.toNat, by omega⟩
    refine (ofP W W.heap.size k Am nl cm log G ns gc ls (Nat.le_refl _) hm hs hn hG hls (by omega) (by omega) (by omega)).mono ?_
    rintro e w1 ⟨p, S', rfl, a1, a2, a3⟩
    refine ⟨_, _, rfl, a3, ?_⟩
    have h1 := h0.trans (a3.mono h0.size)
    refine (ofR w1 w0.heap.size k Al nl cl log As ns cs ls h1.size (hl.below h1) hs hn (hS.below h1) hls (by omega) (by omega) (by omega)).mono ?_
    rintro e w2 ⟨q, T', rfl, b1, b2, b3⟩
    obtain ⟨S2, T2, hp, hS2, hT2⟩ := pair_made h0 a1 a2 a3 b1 b2 b3
    exact ⟨_, rfl, a3.trans (b3.mono a3.size), hp.l.below, .inr ⟨p, S2, q, T2, _, rfl, rfl, rfl, hp, hS2, hT2⟩⟩
end Go.Proofs.Ytapgcglpkilofaa
