/- A disk in a call's own memory, and the program's beside the document's. Conditions: those that each states. -/
import Derived.Test.YtapgcglpkilofaaDiskLent
namespace Go.Proofs.Ytapgcglpkilofaa
open Go.RowKit

/-- The program's disk stands in memory made since w0. -/
structure InP (w0 w : World) (p : Nat) (S : Nat → Prop) (s : DS) : Prop where
  pd : PD w p S s
  lo : ∀ k, S k → w0.heap.size ≤ k
  hi : ∀ k, S k → k < w.heap.size
  below : Below w0.heap.size w0 w
structure InR (w0 w : World) (p : Nat) (S : Nat → Prop) (s : DS) : Prop where
  rd : RD w p S s
  lo : ∀ k, S k → w0.heap.size ≤ k
  hi : ∀ k, S k → k < w.heap.size
  below : Below w0.heap.size w0 w
theorem PD.cap {w : World} {p : Nat} {S : Nat → Prop} {s : DS} (h : PD w p S s) : PD w p (fun k => S k ∧ k < w.heap.size) s := by
  obtain ⟨ok, Al, nl, cl, A0, n0, c0, A1, n1, c1, hx, hh⟩ := h
  exact ⟨ok, Al, nl, cl, A0, n0, c0, A1, n1, c1, hx, ⟨hh.p, hx.blk.lt⟩, fun k hk => ⟨hh.l k hk, (hx.rl.lt k (by rw [ownBlock_slice]; exact hk)).2⟩, fun k hk => ⟨hh.d0 k hk, (hx.r0.lt k (by rw [ownBlock_slice]; exact hk)).2⟩, fun k hk => ⟨hh.d1 k hk, (hx.r1.lt k (by rw [ownBlock_slice]; exact hk)).2⟩⟩
theorem RD.cap {w : World} {p : Nat} {S : Nat → Prop} {s : DS} (h : RD w p S s) : RD w p (fun k => S k ∧ k < w.heap.size) s := by
  obtain ⟨ok, Al, nl, cl, A0, n0, c0, A1, n1, c1, hx, hh⟩ := h
  exact ⟨ok, Al, nl, cl, A0, n0, c0, A1, n1, c1, hx, ⟨hh.p, hx.blk.lt⟩, fun k hk => ⟨hh.l k hk, (hx.rl.lt k (by rw [ownBlock_slice]; exact hk)).2⟩, fun k hk => ⟨hh.d0 k hk, (hx.r0.lt k (by rw [ownBlock_slice]; exact hk)).2⟩, fun k hk => ⟨hh.d1 k hk, (hx.r1.lt k (by rw [ownBlock_slice]; exact hk)).2⟩⟩

/-- Turned: only S and what is new. -/
def Since (S S' : Nat → Prop) (w w' : World) : Prop := (∀ k, S' k → S k ∨ w.heap.size ≤ k) ∧ Fr S w w'
section
variable {w0 w w' : World} {p : Nat} {S T : Nat → Prop} {s : DS}
theorem InP.ok (h : InP w0 w p S s) : s.Ok := h.pd.1
theorem InR.ok (h : InR w0 w p S s) : s.Ok := h.rd.1
theorem InP.fr (h : InP w0 w p S s) (hf : Fr T w w') (hn : ∀ k, S k → ¬ T k) (hT : ∀ k, T k → w0.heap.size ≤ k) : InP w0 w' p S s :=
  ⟨h.pd.fr hf hn, h.lo, fun k hk => Nat.lt_of_lt_of_le (h.hi k hk) hf.size, h.below.trans (hf.below hT h.below.size)⟩
theorem InR.fr (h : InR w0 w p S s) (hf : Fr T w w') (hn : ∀ k, S k → ¬ T k) (hT : ∀ k, T k → w0.heap.size ≤ k) : InR w0 w' p S s :=
  ⟨h.rd.fr hf hn, h.lo, fun k hk => Nat.lt_of_lt_of_le (h.hi k hk) hf.size, h.below.trans (hf.below hT h.below.size)⟩
theorem InP.new (h : InP w0 w p S s) (hb : Below w.heap.size w w') : InP w0 w' p S s := h.fr (T := noB) (Fr.of_new hb) (fun _ _ e => e) (fun _ e => e.elim)
theorem InR.new (h : InR w0 w p S s) (hb : Below w.heap.size w w') : InR w0 w' p S s := h.fr (T := noB) (Fr.of_new hb) (fun _ _ e => e) (fun _ e => e.elim)
theorem InP.alloc (h : InP w0 w p S s) (o : Obj) : InP w0 (w.alloc o) p S s := h.new ((Below.refl _ w).alloc (Nat.le_refl _) o)
theorem InR.alloc (h : InR w0 w p S s) (o : Obj) : InR w0 (w.alloc o) p S s := h.new ((Below.refl _ w).alloc (Nat.le_refl _) o)
theorem InP.drew (h : InP w0 w p S s) : InP w0 w.drew p S s := h.new (Below.refl _ w).drew
theorem InR.drew (h : InR w0 w p S s) : InR w0 w.drew p S s := h.new (Below.refl _ w).drew
theorem InP.drewN (h : InP w0 w p S s) (n : Nat) : InP w0 (w.drewN n) p S s := h.new (below_drewN (Below.refl _ w) n)
theorem InR.drewN (h : InR w0 w p S s) (n : Nat) : InR w0 (w.drewN n) p S s := h.new (below_drewN (Below.refl _ w) n)
theorem MovedP.into (h : InP w0 w p S s) {s2 : DS} (m : MovedP w p S s2 w') : ∃ S', InP w0 w' p S' s2 ∧ Since S S' w w' := by
  obtain ⟨S', hd, hs, hf⟩ := m
  refine ⟨_, ⟨hd.cap, fun k hk => ?_, fun k hk => hk.2, h.below.trans (hf.below h.lo h.below.size)⟩, fun k hk => hs k hk.1, hf⟩
  rcases hs k hk.1 with e | e
  · exact h.lo k e
  · exact Nat.le_trans h.below.size e
theorem MovedR.into (h : InR w0 w p S s) {s2 : DS} (m : MovedR w p S s2 w') : ∃ S', InR w0 w' p S' s2 ∧ Since S S' w w' := by
  obtain ⟨S', hd, hs, hf⟩ := m
  refine ⟨_, ⟨hd.cap, fun k hk => ?_, fun k hk => hk.2, h.below.trans (hf.below h.lo h.below.size)⟩, fun k hk => hs k hk.1, hf⟩
  rcases hs k hk.1 with e | e
  · exact h.lo k e
  · exact Nat.le_trans h.below.size e
theorem inP_made {q : Nat} {S' : Nat → Prop} {s2 : DS} (hb0 : Below w0.heap.size w0 w) (h1 : PD w' q S' s2) (h2 : ∀ k, S' k → w.heap.size ≤ k) (h3 : Below w.heap.size w w') : ∃ S', InP w0 w' q S' s2 ∧ (∀ k, S' k → w.heap.size ≤ k) :=
  ⟨_, ⟨h1.cap, fun k hk => Nat.le_trans hb0.size (h2 k hk.1), fun k hk => hk.2, hb0.trans (h3.mono hb0.size)⟩, fun k hk => h2 k hk.1⟩
theorem inR_made {q : Nat} {S' : Nat → Prop} {s2 : DS} (hb0 : Below w0.heap.size w0 w) (h1 : RD w' q S' s2) (h2 : ∀ k, S' k → w.heap.size ≤ k) (h3 : Below w.heap.size w w') : ∃ S', InR w0 w' q S' s2 ∧ (∀ k, S' k → w.heap.size ≤ k) :=
  ⟨_, ⟨h1.cap, fun k hk => Nat.le_trans hb0.size (h2 k hk.1), fun k hk => hk.2, hb0.trans (h3.mono hb0.size)⟩, fun k hk => h2 k hk.1⟩

/-- A literal of bytes written, put. -/
theorem InP.writeLit (h : InP w0 w p S s) (cs : Array Value) (b : List Nat) (n : Nat) (z : Int) (hcs : cs.toList = byts b) (hn : b.length = n) (hs : Small b) (hn2 : n ≤ 140737488351240) (hz : ((s.writeC b : Nat) : Int) = z) :
    Calls Try.prog 19 #[.pointer (some ⟨p, 0, none⟩), .slice (some ⟨w.heap.size, 0, none⟩) n n] (w.alloc (.cells cs 5)) fun e w' => e = .returned (.int .i64 z) ∧ ∃ S', InP w0 w' p S' (s.writeS b) := by
  have ha := h.alloc (.cells cs 5)
  refine (writeP _ p S s ha.pd (some ⟨w.heap.size, 0, none⟩) n n b (reads_lit w cs b n hcs hn) hs hn2 (fun k _ hk e => ?_)).mono ?_
  · have := h.hi k e
    have hk' : w.heap.size = k := by simpa [blkOf] using hk
    omega
  · rintro e w' ⟨rfl, m⟩
    obtain ⟨S', h1, _⟩ := m.into ha
    exact ⟨by rw [hz], S', h1⟩
theorem InP.putLit (h : InP w0 w p S s) (cs : Array Value) (b : List Nat) (n : Nat) (hcs : cs.toList = byts b) (hn : b.length = n) (hs : Small b) (hn2 : n ≤ 140737488351240) :
    Calls Try.prog 17 #[.pointer (some ⟨p, 0, none⟩), .slice (some ⟨w.heap.size, 0, none⟩) n n] (w.alloc (.cells cs 5)) fun e w' => e = .returned (.int .i64 0) ∧ ∃ S', InP w0 w' p S' (s.putS b) := by
  have ha := h.alloc (.cells cs 5)
  refine (putP _ p S s ha.pd (some ⟨w.heap.size, 0, none⟩) n n b (reads_lit w cs b n hcs hn) hs hn2 (fun k _ hk e => ?_)).mono ?_
  · have := h.hi k e
    have hk' : w.heap.size = k := by simpa [blkOf] using hk
    omega
  · rintro e w' ⟨rfl, m⟩
    obtain ⟨S', h1, _⟩ := m.into ha
    exact ⟨rfl, S', h1⟩
end

set_option maxHeartbeats 4000000 in
set_option maxRecDepth 100000 in
theorem known_any (w : World) : Calls Try.prog 12 #[] w fun e w' => e = .returned (.bool true) ∧ Below w.heap.size w w' := by
  have hnew : Calls Try.prog 40 #[.int .i64 6] w fun e w' => LaidP w (ofS 6 [] []) e w' := new_any w 6 (by omega) (by omega)
  have z1 : (((ofS 6 [] []).writeC [1, 2, 3] : Nat) : Int) = 0 := by decide
  have z2 : ((((ofS 6 [] []).writeS [1, 2, 3]).writeC [4, 5, 6, 7] : Nat) : Int) = 7 := by decide
  have z3 : roomS (((ofS 6 [] []).writeS [1, 2, 3]).writeS [4, 5, 6, 7]) = 3 := by decide
  have z4 : (((ofS 6 [] []).writeS [1, 2, 3]).writeS [4, 5, 6, 7]).sure = 0 := by decide
  have z5 : ((((ofS 6 [] []).writeS [1, 2, 3]).writeS [4, 5, 6, 7]).switchC) = 5 := by decide
  have z6 : ((((ofS 6 [] []).writeS [1, 2, 3]).writeS [4, 5, 6, 7]).stopS 2).log = [1, 2] := by decide
  have z7 : ((((ofS 6 [] []).writeS [1, 2, 3]).writeS [4, 5, 6, 7]).stopS 2).sure = 2 := by decide
  have z8 : (((((ofS 6 [] []).writeS [1, 2, 3]).writeS [4, 5, 6, 7]).switchS).putS [7]).steps = 4 := by decide
  have hst : strN [1, 2] = ({ data := #[1, 2] } : ByteArray) := rfl
  have Z1 := Lib.hid z1
  have Z2 := Lib.hid z2
  have Z3 := Lib.hid z3
  have Z4 := Lib.hid z4
  have Z5 := Lib.hid z5
  have Z6 := Lib.hid z6
  have Z7 := Lib.hid z7
  have Z8 := Lib.hid z8
  clear z1 z2 z3 z4 z5 z6 z7 z8
  have hs1 : Small [1, 2, 3] := fun c hc => by simp at hc; omega
  have hs2 : Small [4, 5, 6, 7] := fun c hc => by simp at hc; omega
  have hs3 : Small [7] := fun c hc => by simp at hc; omega
  have hs4 : Small [1, 2] := fun c hc => by simp at hc; omega
  go_enter Try.func12, Try.ntmps12
  go_wp2_with (first
    | (go_at_call 40; refine hnew.mono ?_; clear hnew; rintro e w1 ⟨q, S', rfl, a1, a2, a3⟩; obtain ⟨S0, I0, _⟩ := inP_made (Below.refl _ w) a1 a2 a3; clear a1 a2 a3; have c0 := I0.writeLit #[.int .u8 1, .int .u8 2, .int .u8 3] [1, 2, 3] 3 0 rfl rfl hs1 (by omega) Z1.out)
    | (go_at_call 19; refine c0.mono ?_; clear c0; rintro e w2 ⟨rfl, S1, I1⟩; have c1 := I1.writeLit #[.int .u8 4, .int .u8 5, .int .u8 6, .int .u8 7] [4, 5, 6, 7] 4 7 rfl rfl hs2 (by omega) Z2.out)
    | (go_at_call 19; refine c1.mono ?_; clear c1; rintro e w3 ⟨rfl, S2, I2⟩; have c2 := room_any _ _ _ _ I2.pd; rw [Z3.out] at c2)
    | (go_at_call 29; refine c2.mono ?_; clear c2; rintro e w4 ⟨rfl, n4, rfl⟩; have I3 := I2.drewN n4; have c3 := sure_any _ _ _ _ I3.pd; rw [Z4.out] at c3)
    | (go_at_call 15; refine c3.mono ?_; clear c3; rintro e w5 ⟨rfl, rfl⟩; have c4 := stopP _ _ _ _ I3.pd 2)
    | (go_at_call 14; refine c4.mono ?_; clear c4; rintro e w6 ⟨q2, S4, rfl, a1, a2, a3⟩; have I4 := I3.new a3; obtain ⟨S5, J0, _⟩ := inP_made I3.below a1 a2 a3; clear a1 a2 a3; have c5 := log_any _ _ _ _ J0.pd; rw [Z6.out] at c5)
    | (go_at_call 13; refine c5.mono ?_; clear c5; rintro e w7 ⟨A2, c2', rfl, o7, m7⟩; have I5 := I4.new m7; have J1 := J0.new m7; have t7 := run_str (P := Try.prog) (src := 22) (dst := 9) (c := c2') rfl rfl rfl (Reads.of_own (show w7.ownsRow w6.heap.size 5 1 (.slice A2 2 c2') 2 (byts [1, 2]) from o7)) hs4; have c6 := sure_any _ _ _ _ J1.pd; rw [Z7.out] at c6; rw [hst] at t7)
    | (go_at_call 15; refine c6.mono ?_; clear c6; rintro e w8 ⟨rfl, rfl⟩; have c7 := switchP _ _ _ _ I5.pd; rw [Z5.out] at c7)
    | (go_at_call 22; refine c7.mono ?_; clear c7; rintro e w9 ⟨rfl, m9⟩; obtain ⟨S6, I6, _⟩ := m9.into I5; have c8 := I6.putLit #[.int .u8 7] [7] 1 rfl rfl hs3 (by omega))
    | (go_at_call 17; refine c8.mono ?_; clear c8; rintro e w10 ⟨rfl, S7, I7⟩; have c9 := steps_any _ _ _ _ I7.pd; rw [Z8.out] at c9)
    | (go_at_call 30; refine c9.mono ?_; clear c9; rintro e w11 ⟨rfl, rfl⟩))
  go_ret
  exact ⟨rfl, I7.below⟩
end Go.Proofs.Ytapgcglpkilofaa
