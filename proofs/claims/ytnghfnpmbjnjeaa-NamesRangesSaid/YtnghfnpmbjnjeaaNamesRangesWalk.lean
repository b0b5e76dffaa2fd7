/- The walk of wicketlaw05.NamesRanges: it answers true where each slice has at most 140737488351232 bytes. Conditions: those that it states. -/
import Derived.Test.YtnghfnpmbjnjeaaNamesKnown
import Derived.Test.YtnghfnpmbjnjeaaNamesSpoil
import Derived.Test.YtnghfnpmbjnjeaaNamesRefMeet
import Derived.Deep.RegionHeld3
namespace Go.Proofs.Ytnghfnpmbjnjeaa
open Go.RowKit

theorem cmp_q {w : World} {B1 B2 : Nat} {A1 A2 : Option Addr} {n1 c1 n2 c2 : Nat} {l m : List Nat} (mm : Nat) (h1 : Reads w B1 1 A1 n1 (byts l)) (s1 : Small l) (h2 : Reads w B2 1 A2 n2 (byts m)) (s2 : Small m) :
    Calls Try.prog 16 #[.slice A1 n1 c1, .slice A2 n2 c2] (w.drewN mm) fun e w' => e = .returned (.int .i64 (cmpN l m)) ∧ ∃ q, w' = (w.drewN mm).drewN q :=
  (cmp_any (w.drewN mm) (h1.drewN mm) s1 (h2.drewN mm) s2).mono fun _ _ ⟨h, e⟩ => ⟨h, 0, e.symm⟩
theorem in_q {w : World} {Bk Bf Bt : Nat} {Ak Af At : Option Addr} {nk ck nf cf nt ct : Nat} {k f t : List Nat} (mm : Nat) (hk : Reads w Bk 1 Ak nk (byts k)) (sk : Small k) (hf : Reads w Bf 1 Af nf (byts f)) (sf : Small f) (ht : Reads w Bt 1 At nt (byts t)) (st : Small t) :
    Calls Try.prog 18 #[.slice Ak nk ck, .slice Af nf cf, .slice At nt ct] (w.drewN mm) fun e w' => e = .returned (.bool (inN k f t)) ∧ ∃ q, w' = (w.drewN mm).drewN q :=
  (in_any (w.drewN mm) (hk.drewN mm) sk (hf.drewN mm) sf (ht.drewN mm) st).mono fun _ _ ⟨h, e⟩ => ⟨h, 0, e.symm⟩

/-- What lent has told. -/
def Lent (w : World) (base : Nat) (A : Option Addr) (n c : Nat) (l : List Nat) : Prop := w.ownsRow base 5 1 (.slice A (n + 1) c) (n + 1) (byts (l ++ [119]))
theorem Lent.pre {w : World} {base : Nat} {A : Option Addr} {n c : Nat} {l : List Nat} (h : Lent w base A n c l) (hl : l.length = n) : Reads w w.heap.size 1 A n (byts l) := by
  have := (Reads.of_own h).upto (k := n) (by omega)
  rw [Nat.mul_one, ← byts_take, ← hl, List.take_left, hl] at this
  exact this
theorem Lent.fr {S : Nat → Prop} {w w' : World} {base : Nat} {A : Option Addr} {n c : Nat} {l : List Nat} (h : Lent w base A n c l) (hf : Fr S w w') (hg : ∀ k, blkOf A = some k → ¬ S k) : Lent w' base A n c l :=
  own_fr h hf (fun k hk => hg k (bk_of hk))
theorem Lent.blk {w : World} {base : Nat} {A : Option Addr} {n c : Nat} {l : List Nat} (h : Lent w base A n c l) : ∀ k, blkOf A = some k → base ≤ k ∧ k < w.heap.size := fun k hk => World.ownsRow.lt h k (by rw [ownBlock_slice]; exact hk)

set_option maxHeartbeats 4000000 in
set_option maxRecDepth 100000 in
theorem namesRanges_walk (w : World) (A0 A1 A2 A3 A4 : Option Addr) (n0 c0 n1 c1 n2 c2 n3 c3 n4 c4 : Nat) (k a b c d : List Nat)
    (h0 : Reads w w.heap.size 1 A0 n0 (byts k)) (s0 : Small k) (h1 : Reads w w.heap.size 1 A1 n1 (byts a)) (s1 : Small a) (h2 : Reads w w.heap.size 1 A2 n2 (byts b)) (s2 : Small b) (h3 : Reads w w.heap.size 1 A3 n3 (byts c)) (s3 : Small c) (h4 : Reads w w.heap.size 1 A4 n4 (byts d)) (s4 : Small d)
    (e1 : n1 ≤ c1) (m0 : n0 ≤ 140737488351232) (m1 : n1 ≤ 140737488351232) (m2 : n2 ≤ 140737488351232) (m3 : n3 ≤ 140737488351232) (m4 : n4 ≤ 140737488351232) :
    Calls Try.prog 3 #[.agg #[.slice A0 n0 c0, .slice A1 n1 c1, .slice A2 n2 c2, .slice A3 n3 c3, .slice A4 n4 c4]] w fun e w' => e = .returned (.bool true) ∧ Below w.heap.size w w' := by
  obtain ⟨w0, hw0⟩ : ∃ w0, w.alloc (.cells #[.slice A0 n0 c0, .slice A1 n1 c1, .slice A2 n2 c2, .slice A3 n3 c3, .slice A4 n4 c4] 23) = w0 := ⟨_, rfl⟩
  have hb0 : Below w.heap.size w w0 := by subst hw0; exact (Below.refl _ w).alloc (Nat.le_refl _) _
  have hbk : Blk w0 w.heap.size 23 #[.slice A0 n0 c0, .slice A1 n1 c1, .slice A2 n2 c2, .slice A3 n3 c3, .slice A4 n4 c4] := by subst hw0; exact Blk.new w 23 _
  have l0 : k.length = n0 := by have := h0.1; rw [byts_length] at this; omega
  have l1 : a.length = n1 := by have := h1.1; rw [byts_length] at this; omega
  have l2 : b.length = n2 := by have := h2.1; rw [byts_length] at this; omega
  have l3 : c.length = n3 := by have := h3.1; rw [byts_length] at this; omega
  have l4 : d.length = n4 := by have := h4.1; rw [byts_length] at this; omega
  have rds : ∀ W, Below w.heap.size w W → Reads W w.heap.size 1 A0 n0 (byts k) ∧ Reads W w.heap.size 1 A1 n1 (byts a) ∧ Reads W w.heap.size 1 A2 n2 (byts b) ∧ Reads W w.heap.size 1 A3 n3 (byts c) ∧ Reads W w.heap.size 1 A4 n4 (byts d) :=
    fun W hW => ⟨h0.below hW, h1.below hW, h2.below hW, h3.below hW, h4.below hW⟩
  have hcell : ∀ W, Below w0.heap.size w0 W → W.cell? ⟨w.heap.size, 0, none⟩ = some (.slice A0 n0 c0) ∧ W.cell? ⟨w.heap.size, 1, none⟩ = some (.slice A1 n1 c1) ∧ W.cell? ⟨w.heap.size, 2, none⟩ = some (.slice A2 n2 c2) ∧ W.cell? ⟨w.heap.size, 3, none⟩ = some (.slice A3 n3 c3) ∧ W.cell? ⟨w.heap.size, 4, none⟩ = some (.slice A4 n4 c4) := by
    intro W hW
    have y := hbk.below hW hbk.lt
    exact ⟨(y.cell 0).trans rfl, (y.cell 1).trans rfl, (y.cell 2).trans rfl, (y.cell 3).trans rfl, (y.cell 4).trans rfl⟩
  have L0 := Lib.hid l0
  have L1 := Lib.hid l1
  have L2 := Lib.hid l2
  have L3 := Lib.hid l3
  have L4 := Lib.hid l4
  have z0 : w.heap.size ≤ w0.heap.size := hb0.size
  have ql : ∀ (W : World) (A : Option Addr) (n cc : Nat) (l : List Nat), Below w0.heap.size w0 W → (∀ W, Below w.heap.size w W → Reads W w.heap.size 1 A n (byts l)) → n ≤ 140737488351232 →
      Calls Try.prog 10 #[.slice A n cc] W fun e w' => ∃ M cm, e = .returned (.slice M n cm) ∧ Lent w' W.heap.size M n cm l ∧ Below W.heap.size W w' ∧ Below w0.heap.size w0 w' ∧ w'.cell? ⟨w.heap.size, 0, none⟩ = some (.slice A0 n0 c0) ∧ w'.cell? ⟨w.heap.size, 1, none⟩ = some (.slice A1 n1 c1) ∧ w'.cell? ⟨w.heap.size, 2, none⟩ = some (.slice A2 n2 c2) ∧ w'.cell? ⟨w.heap.size, 3, none⟩ = some (.slice A3 n3 c3) ∧ w'.cell? ⟨w.heap.size, 4, none⟩ = some (.slice A4 n4 c4) := by
    intro W A n cc l hW hr hn
    have hWw : Below w.heap.size w W := hb0.trans (hW.mono hb0.size)
    refine (lent_any W w.heap.size A n cc l (hr W hWw) hWw.size (by omega)).mono ?_
    rintro e w' ⟨M, cm, rfl, ho, hb⟩
    have hb' := hW.trans (hb.mono hW.size)
    exact ⟨M, cm, rfl, ho, hb, hb', hcell w' hb'⟩
  have q0 := fun (W : World) (hW : Below w0.heap.size w0 W) => ql W A0 n0 c0 k hW (fun W hW => (rds W hW).1) m0
  have q1 := fun (W : World) (hW : Below w0.heap.size w0 W) => ql W A1 n1 c1 a hW (fun W hW => (rds W hW).2.1) m1
  have q2 := fun (W : World) (hW : Below w0.heap.size w0 W) => ql W A2 n2 c2 b hW (fun W hW => (rds W hW).2.2.1) m2
  have q3 := fun (W : World) (hW : Below w0.heap.size w0 W) => ql W A3 n3 c3 c hW (fun W hW => (rds W hW).2.2.2.1) m3
  have q4 := fun (W : World) (hW : Below w0.heap.size w0 W) => ql W A4 n4 c4 d hW (fun W hW => (rds W hW).2.2.2.2) m4
  have bel0 : Below w0.heap.size w0 w0.drew := (Below.refl _ w0).drew
  obtain ⟨f0, f1, f2, f3, f4⟩ := hcell _ bel0
  clear ql h0 h1 h2 h3 h4 l0 l1 l2 l3 l4
  go_enter Try.func3, Try.ntmps3
  go_wp2
  clear hw0
  go_region_held3 (fun w' => w'.cell? ⟨w.heap.size, 0, none⟩ = some (.slice A0 n0 c0) ∧ w'.cell? ⟨w.heap.size, 1, none⟩ = some (.slice A1 n1 c1) ∧ w'.cell? ⟨w.heap.size, 2, none⟩ = some (.slice A2 n2 c2) ∧ w'.cell? ⟨w.heap.size, 3, none⟩ = some (.slice A3 n3 c3) ∧ w'.cell? ⟨w.heap.size, 4, none⟩ = some (.slice A4 n4 c4)) (first | (refine ⟨?_, ?_, ?_, ?_, ?_⟩ <;> assumption) | go_keep) (first
    | (go_at_call 10; refine (q0 _ (by assumption)).mono ?_; clear q0; rintro e x0 ⟨M0, d0, rfl, t0, u0, g0, v00, v01, v02, v03, v04⟩)
    | (go_at_call 10; refine (q1 _ (by assumption)).mono ?_; clear q1; rintro e x1 ⟨M1, d1, rfl, t1, u1, g1, v10, v11, v12, v13, v14⟩)
    | (go_at_call 10; refine (q2 _ (by assumption)).mono ?_; clear q2; rintro e x2 ⟨M2, d2, rfl, t2, u2, g2, v20, v21, v22, v23, v24⟩)
    | (go_at_call 10; refine (q3 _ (by assumption)).mono ?_; clear q3; rintro e x3 ⟨M3, d3, rfl, t3, u3, g3, v30, v31, v32, v33, v34⟩)
    | (go_at_call 10; refine (q4 _ (by assumption)).mono ?_; clear q4; rintro e x4 ⟨M4, d4, rfl, t4, u4, g4, v40, v41, v42, v43, v44⟩))
  clear v00 v01 v02 v03 v04 v10 v11 v12 v13 v14 v20 v21 v22 v23 v24 v30 v31 v32 v33 v34 v40 v41 v42 v43 v44 f0 f1 f2 f3 f4 bel0 g0 g1 g2 g3 hbk
  have k4 : Below x3.heap.size x3 x4 := u4
  have k3 : Below x2.heap.size x2 x4 := u3.trans (k4.mono u3.size)
  have k2 : Below x1.heap.size x1 x4 := u2.trans (k3.mono u2.size)
  have k1 : Below x0.heap.size x0 x4 := u1.trans (k2.mono u1.size)
  replace t0 := t0.fr (Fr.of_new (S := noB) k1) (fun _ _ h => h)
  replace t1 := t1.fr (Fr.of_new (S := noB) k2) (fun _ _ h => h)
  replace t2 := t2.fr (Fr.of_new (S := noB) k3) (fun _ _ h => h)
  replace t3 := t3.fr (Fr.of_new (S := noB) k4) (fun _ _ h => h)
  have hc4 := fun (W : World) (hW : Below x4.heap.size x4 W) => hcell W (g4.trans (hW.mono g4.size))
  have bw4 : Below w.heap.size w x4 := hb0.trans (g4.mono hb0.size)
  have rds4 := fun (W : World) (hW : Below x4.heap.size x4 W) => rds W (bw4.trans (hW.mono bw4.size))
  have cap1 : n1 ≤ d1 := by have := (own_cap t1).1; omega
  have p0 := fun (W : World) (hW : Below x4.heap.size x4 W) => (t0.pre L0.out).below hW
  have p1 := fun (W : World) (hW : Below x4.heap.size x4 W) => (t1.pre L1.out).below hW
  have p2 := fun (W : World) (hW : Below x4.heap.size x4 W) => (t2.pre L2.out).below hW
  have p3 := fun (W : World) (hW : Below x4.heap.size x4 W) => (t3.pre L3.out).below hW
  have p4 := fun (W : World) (hW : Below x4.heap.size x4 W) => (t4.pre L4.out).below hW
  have r0 : n0 ≤ 140737488355328 := by omega
  have r1 : n1 ≤ 140737488355328 := by omega
  have r2 : n2 ≤ 140737488355328 := by omega
  have r3 : n3 ≤ 140737488355328 := by omega
  have r4 : n4 ≤ 140737488355328 := by omega
  have zw4 : w.heap.size ≤ x4.heap.size := bw4.size
  have q11 := next_any x4 x4.heap.size M0 n0 d0 k (p0 _ (Below.refl _ _)) (Nat.le_refl _) (by omega)
  have q12 := fun (W : World) (hW : Below x4.heap.size x4 W) => behind_any W x4.heap.size M1 n1 d1 a (p1 W hW) s1 hW.size cap1 r1
  have q13 := fun (W : World) (hW : Below x4.heap.size x4 W) => refBehind_any W w.heap.size A1 n1 c1 a (rds4 W hW).2.1 s1 (Nat.le_trans zw4 hW.size) e1 r1
  have q14 := fun (W : World) (hW : Below x4.heap.size x4 W) => meet_any W x4.heap.size M1 M2 M3 M4 n1 d1 n2 d2 n3 d3 n4 d4 a b c d hW.size ⟨p1 W hW, s1, r1⟩ ⟨p2 W hW, s2, r2⟩ ⟨p3 W hW, s3, r3⟩ ⟨p4 W hW, s4, r4⟩
  have q15 := fun (W : World) (hW : Below x4.heap.size x4 W) => refMeet_any W w.heap.size A1 A2 A3 A4 n1 c1 n2 c2 n3 c3 n4 c4 a b c d (Nat.le_trans zw4 hW.size) ⟨(rds4 W hW).2.1, s1, r1⟩ ⟨(rds4 W hW).2.2.1, s2, r2⟩ ⟨(rds4 W hW).2.2.2.1, s3, r3⟩ ⟨(rds4 W hW).2.2.2.2, s4, r4⟩
  clear u1 u2 u3 u4 k1 k2 k3 k4 rds hcell
  go_upto_region 7 with (first
    | (go_at_call 11; refine q11.mono ?_; clear q11; rintro e x5 ⟨AN, cN, rfl, oN, g5⟩; have qq12 := q12 x5 g5)
    | (go_at_call 12; refine qq12.mono ?_; clear qq12 q12; rintro e x6 ⟨AB, cB, mB, rfl, hmB, oB, bB⟩; have g6 := g5.trans (bB.mono g5.size); obtain ⟨y60, y61, y62, y63, y64⟩ := hc4 x6 g6; have qq13 := q13 x6 g6)
    | (go_at_call 13; refine qq13.mono ?_; clear qq13 q13; rintro e x7 ⟨AC, cC, mC, rfl, hmC, oC, bC⟩; obtain rfl : mC = mB := hmC.trans hmB.symm; have g7 := g6.trans (bC.mono g6.size); have qq14 := q14 x7 g7)
    | (go_at_call 14; refine qq14.mono ?_; clear qq14 q14; rintro e x8 ⟨AX, cX, AY, cY, X, Y, rfl, hXY, oX, oY, apXY, bM⟩; have g8 := g7.trans (bM.mono g7.size); obtain ⟨y80, y81, y82, y83, y84⟩ := hc4 x8 g8; have qq15 := q15 x8 g8)
    | (go_at_call 15; refine qq15.mono ?_; clear qq15 q15; rintro e x9 ⟨AP, cP, AQ, cQ, P, Q, rfl, hPQ, oP, oQ, bQ⟩; obtain ⟨rfl, rfl⟩ : P = X ∧ Q = Y := by (have := hPQ.trans hXY.symm; simpa using this)))
  have j8 : Below x8.heap.size x8 x9 := bQ
  have j7 : Below x7.heap.size x7 x9 := bM.trans (j8.mono bM.size)
  have j6 : Below x6.heap.size x6 x9 := bC.trans (j7.mono bC.size)
  have j5 : Below x5.heap.size x5 x9 := bB.trans (j6.mono bB.size)
  have g9 : Below x4.heap.size x4 x9 := g5.trans (j5.mono g5.size)
  have iN : ∀ k, blkOf AN = some k → x4.heap.size ≤ k ∧ k < x5.heap.size := fun k hk => oN.lt k (by rw [ownBlock_slice]; exact hk)
  have iB : ∀ k, blkOf AB = some k → x5.heap.size ≤ k ∧ k < x6.heap.size := fun k hk => oB.lt k (by rw [ownBlock_slice]; exact hk)
  have iX : ∀ k, blkOf AX = some k → x7.heap.size ≤ k ∧ k < x8.heap.size := fun k hk => oX.lt k (by rw [ownBlock_slice]; exact hk)
  have iY : ∀ k, blkOf AY = some k → x7.heap.size ≤ k ∧ k < x8.heap.size := fun k hk => oY.lt k (by rw [ownBlock_slice]; exact hk)
  have z5 : x4.heap.size ≤ x5.heap.size := g5.size
  have z6 : x5.heap.size ≤ x6.heap.size := bB.size
  have z7 : x6.heap.size ≤ x7.heap.size := bC.size
  replace oN := own_mono (own_fr oN (Fr.of_new (S := noB) j5) (fun _ _ h => h)) (base' := 0) (Nat.zero_le _)
  replace oB := own_mono (own_fr oB (Fr.of_new (S := noB) j6) (fun _ _ h => h)) (base' := 0) (Nat.zero_le _)
  replace oC := own_mono (own_fr oC (Fr.of_new (S := noB) j7) (fun _ _ h => h)) (base' := 0) (Nat.zero_le _)
  replace oX := own_mono (own_fr oX (Fr.of_new (S := noB) j8) (fun _ _ h => h)) (base' := 0) (Nat.zero_le _)
  replace oY := own_mono (own_fr oY (Fr.of_new (S := noB) j8) (fun _ _ h => h)) (base' := 0) (Nat.zero_le _)
  have smC : Small mC := by
    rw [hmC]
    cases hx : behN a with
    | none => intro c hc; simp at hc
    | some m => exact behN_small s1 hx
  have lmC : mC.length ≤ 140737488351232 := by
    have := hmC
    rw [hmC]
    cases hx : behN a with
    | none => simp
    | some m =>
      unfold behN at hx
      split at hx
      · cases hx
      · injection hx with hx
        have h1 := L1.out
        have h2 := cutK_le a a.length
        subst hx
        simp
        omega
  have smXY : Small P ∧ Small Q ∧ P.length ≤ 140737488351232 ∧ Q.length ≤ 140737488351232 := by
    have h1 := L1.out
    have h2 := L2.out
    have h3 := L3.out
    have h4 := L4.out
    have e : P = ((meetN a b c d).getD ([], [])).1 ∧ Q = ((meetN a b c d).getD ([], [])).2 := by rw [← hPQ]; exact ⟨rfl, rfl⟩
    rw [e.1, e.2]
    unfold meetN
    split
    · exact ⟨fun c hc => by simp at hc, fun c hc => by simp at hc, by simp, by simp⟩
    · show Small (meetA a c) ∧ Small (meetB b d) ∧ (meetA a c).length ≤ _ ∧ (meetB b d).length ≤ _
      refine ⟨?_, ?_, ?_, ?_⟩
      · unfold meetA; split
        · exact s3
        · exact s1
      · unfold meetB; split
        · exact s4
        · exact s2
      · unfold meetA; split <;> omega
      · unfold meetB; split <;> omega
  obtain ⟨smP, smQ, lmP, lmQ⟩ := smXY
  have xsz : x7.heap.size ≤ x9.heap.size := j7.size
  subst hmC
  clear j5 j6 j7 j8 hPQ y60 y61 y62 y63 y64 y80 y81 y82 y83 y84 bB bC bM bQ g6 g7 g8
  generalize behN a = bo at oB oC smC lmC ⊢
  generalize meetN a b c d = mo
  obtain ⟨y0, y1, y2, y3, y4⟩ := hc4 x9 g9
  have hp0 := p0 x9 g9
  have hp1 := p1 x9 g9
  have hp2 := p2 x9 g9
  obtain ⟨ha0, ha1, ha2, ha3, ha4⟩ := rds4 x9 g9
  go_cut [131] from 69 to 170 (fun v wx => v = .bool false ∧ ∃ q, wx = x9.drewN q)
  case first =>
    have w0' : ∀ m, (x9.drewN m).cell? ⟨w.heap.size, 0, none⟩ = some (.slice A0 n0 c0) := fun _ => y0
    have w1' : ∀ m, (x9.drewN m).cell? ⟨w.heap.size, 1, none⟩ = some (.slice A1 n1 c1) := fun _ => y1
    have w2' : ∀ m, (x9.drewN m).cell? ⟨w.heap.size, 2, none⟩ = some (.slice A2 n2 c2) := fun _ => y2
    have sN : Small (k ++ [0]) := s0.append (fun c hc => by simp at hc; omega)
    obtain ⟨Z, hZ⟩ : ∃ Z, strN k ++ { data := #[0] } = Z := ⟨_, rfl⟩
    have eN : strN (k ++ [0]) = strN k ++ { data := #[0] } := strN_add k [0]
    have tN := fun m : Nat => run_str (P := Try.prog) (src := 22) (dst := 9) (c := cN) rfl rfl rfl ((Reads.of_own oN).drewN m) sN
    simp only [eN, hZ] at tN
    have hadd := fun W : World => run_string_add_sum (P := Try.prog) W (strN k) { data := #[0] } (by rw [strN_sz, show ({ data := #[0] } : ByteArray).size = 1 from rfl, L0.out]; omega)
    simp only [hZ] at hadd
    have tk := fun m : Nat => run_str (P := Try.prog) (src := 22) (dst := 9) (c := c0) rfl rfl rfl (ha0.drewN m) s0
    have tB := fun m : Nat => run_str (P := Try.prog) (src := 22) (dst := 9) (c := (bo.getD []).length) rfl rfl rfl ((Reads.of_own oB).drewN m) smC
    have tC := fun m : Nat => run_str (P := Try.prog) (src := 22) (dst := 9) (c := cC) rfl rfl rfl ((Reads.of_own oC).drewN m) smC
    have tX := fun m : Nat => run_str (P := Try.prog) (src := 22) (dst := 9) (c := P.length) rfl rfl rfl ((Reads.of_own oX).drewN m) smP
    have tP := fun m : Nat => run_str (P := Try.prog) (src := 22) (dst := 9) (c := cP) rfl rfl rfl ((Reads.of_own oP).drewN m) smP
    have tY := fun m : Nat => run_str (P := Try.prog) (src := 22) (dst := 9) (c := Q.length) rfl rfl rfl ((Reads.of_own oY).drewN m) smQ
    have tQ := fun m : Nat => run_str (P := Try.prog) (src := 22) (dst := 9) (c := cQ) rfl rfl rfl ((Reads.of_own oQ).drewN m) smQ
    have h17 := fun m : Nat => refCmp_any (x9.drewN m) (c1 := c1) (c2 := c2) (ha1.drewN m) s1 (ha2.drewN m) s2 r1 r2
    have h19 := fun m : Nat => refIn_any (x9.drewN m) (ck := c0) (cf := c1) (ct := c2) (ha0.drewN m) s0 (ha1.drewN m) s1 (ha2.drewN m) s2 r0 r1 r2
    have h16 := fun m : Nat => cmp_q (c1 := d1) (c2 := d2) m hp1 s1 hp2 s2
    have h18 := fun m : Nat => in_q (ck := d0) (cf := d1) (ct := d2) m hp0 s0 hp1 s1 hp2 s2
    clear hZ eN oN oB oC oX oY oP oQ t0 t1 t2 t3 t4 iN iB iX iY apXY p0 p1 p2 p3 p4 hc4 rds4 ha0 ha1 ha2 ha3 ha4 hp0 hp1 hp2 y0 y1 y2 y3 y4
    go_quiet (first
      | (go_at_call 16; exact Calls.quiet_of (h16 _))
      | (go_at_call 17; exact Calls.quiet_of (h17 _))
      | (go_at_call 18; exact Calls.quiet_of (h18 _))
      | (go_at_call 19; exact Calls.quiet_of (h19 _)))
    go_wp2
    go_meet
    exact ⟨rfl, _, rfl⟩
  case rest =>
    obtain ⟨rfl, qz, hwc⟩ := hcut
    subst hwc
    have fz : Fr noB x9 (x9.drewN qz) := (Fr.refl noB x9).drewN qz
    have gz : Below x4.heap.size x4 (x9.drewN qz) := below_drewN g9 qz
    replace oN := own_fr oN fz (fun _ _ h => h)
    replace oB := own_fr oB fz (fun _ _ h => h)
    replace oX := own_fr oX fz (fun _ _ h => h)
    replace oY := own_fr oY fz (fun _ _ h => h)
    have xsz2 : x7.heap.size ≤ (x9.drewN qz).heap.size := xsz
    clear fz oC oP oQ hp0 hp1 hp2 ha0 ha1 ha2 ha3 ha4 y0 y1 y2 y3 y4 g9 xsz p0 p1 p2 p3 p4
    generalize x9.drewN qz = xz at gz oN oB oX oY xsz2 ⊢
    have hs1 := spoil_any xz 0 AN (n0 + 1) cN cN (k ++ [0]) oN (.inl rfl) (Nat.zero_le _) (by omega)
    go_upto_region 13 with (first
      | (go_at_call 20; refine hs1.mono ?_; clear hs1; rintro e x10 ⟨rfl, f1⟩; replace oB := own_fr oB f1 (fun k hk h => by have := iN k h; have := iB k (bk_of hk); omega); have hs2 := spoil_any x10 0 AB _ cB (bo.getD []).length _ oB (.inr rfl) (Nat.zero_le _) (by omega))
      | (go_at_call 20; refine hs2.mono ?_; clear hs2; rintro e x11 ⟨rfl, f2⟩; replace oX := own_fr (own_fr oX f1 (fun k hk h => by have := iN k h; have := iX k (bk_of hk); omega)) f2 (fun k hk h => by have := iB k h; have := iX k (bk_of hk); omega); have hs3 := spoil_any x11 0 AX _ cX P.length _ oX (.inr rfl) (Nat.zero_le _) (by omega))
      | (go_at_call 20; refine hs3.mono ?_; clear hs3; rintro e x12 ⟨rfl, f3⟩; replace oY := own_fr (own_fr (own_fr oY f1 (fun k hk h => by have := iN k h; have := iY k (bk_of hk); omega)) f2 (fun k hk h => by have := iB k h; have := iY k (bk_of hk); omega)) f3 (fun k hk h => apXY k h (bk_of hk)); have hs4 := spoil_any x12 0 AY _ cY Q.length _ oY (.inr rfl) (Nat.zero_le _) (by omega))
      | (go_at_call 20; refine hs4.mono ?_; clear hs4; rintro e x13 ⟨rfl, f4⟩))
    have w1 : Below x4.heap.size xz x10 := f1.below (fun k hk => by have := iN k hk; omega) gz.size
    have w2 : Below x4.heap.size x10 x11 := f2.below (fun k hk => by have := iB k hk; omega) (Nat.le_trans gz.size w1.size)
    have w3 : Below x4.heap.size x11 x12 := f3.below (fun k hk => by have := iX k hk; omega) (Nat.le_trans (Nat.le_trans gz.size w1.size) w2.size)
    have w4 : Below x4.heap.size x12 x13 := f4.below (fun k hk => by have := iY k hk; omega) (Nat.le_trans (Nat.le_trans (Nat.le_trans gz.size w1.size) w2.size) w3.size)
    have G : Below x4.heap.size x4 x13 := ((((gz.trans w1).trans w2).trans w3).trans w4)
    clear w1 w2 w3 w4 f1 f2 f3 f4 oN oB oX oY iN iB iX iY apXY gz
    have ql : ∀ (W : World) (M A : Option Addr) (n cm cc base : Nat) (l : List Nat), Below x4.heap.size x4 W → Lent x4 base M n cm l → Reads W w.heap.size 1 A n (byts l) → Small l → n ≤ 140737488355300 →
        Calls Try.prog 21 #[.slice M n cm, .slice A n cc] W fun e w' => e = .returned (.bool true) ∧ Below x4.heap.size x4 w' ∧ w'.cell? ⟨w.heap.size, 0, none⟩ = some (.slice A0 n0 c0) ∧ w'.cell? ⟨w.heap.size, 1, none⟩ = some (.slice A1 n1 c1) ∧ w'.cell? ⟨w.heap.size, 2, none⟩ = some (.slice A2 n2 c2) ∧ w'.cell? ⟨w.heap.size, 3, none⟩ = some (.slice A3 n3 c3) ∧ w'.cell? ⟨w.heap.size, 4, none⟩ = some (.slice A4 n4 c4) := by
      intro W M A n cm cc base l hW ht hr hs hn
      have ht' := ht.fr (Fr.of_new (S := noB) hW) (fun _ _ h => h)
      refine (left_any W W.heap.size w.heap.size M A n cm cc l (Reads.of_own ht') (own_cap ht').1 hr hs hn).mono ?_
      rintro e w' ⟨rfl, q, rfl⟩
      have hb := below_drewN hW q
      exact ⟨rfl, hb, hc4 _ hb⟩
    have b0 := fun (W : World) (hW : Below x4.heap.size x4 W) => ql W M0 A0 n0 d0 c0 _ k hW t0 (rds4 W hW).1 s0 (by omega)
    have b1 := fun (W : World) (hW : Below x4.heap.size x4 W) => ql W M1 A1 n1 d1 c1 _ a hW t1 (rds4 W hW).2.1 s1 (by omega)
    have b2 := fun (W : World) (hW : Below x4.heap.size x4 W) => ql W M2 A2 n2 d2 c2 _ b hW t2 (rds4 W hW).2.2.1 s2 (by omega)
    have b3 := fun (W : World) (hW : Below x4.heap.size x4 W) => ql W M3 A3 n3 d3 c3 _ c hW t3 (rds4 W hW).2.2.2.1 s3 (by omega)
    have b4 := fun (W : World) (hW : Below x4.heap.size x4 W) => ql W M4 A4 n4 d4 c4 _ d hW t4 (rds4 W hW).2.2.2.2 s4 (by omega)
    obtain ⟨y0, y1, y2, y3, y4⟩ := hc4 _ G
    clear ql t0 t1 t2 t3 t4
    go_wp2_with (first
      | (go_at_call 21; refine (b0 _ G).mono ?_; clear b0; rintro e z0 ⟨rfl, G0, v00, v01, v02, v03, v04⟩)
      | (go_at_call 21; refine (b1 _ G0).mono ?_; clear b1; rintro e z1 ⟨rfl, G1, v10, v11, v12, v13, v14⟩)
      | (go_at_call 21; refine (b2 _ G1).mono ?_; clear b2; rintro e z2 ⟨rfl, G2, v20, v21, v22, v23, v24⟩)
      | (go_at_call 21; refine (b3 _ G2).mono ?_; clear b3; rintro e z3 ⟨rfl, G3, v30, v31, v32, v33, v34⟩)
      | (go_at_call 21; refine (b4 _ G3).mono ?_; clear b4; rintro e z4 ⟨rfl, G4, v40, v41, v42, v43, v44⟩)
      | (go_at_call 22; refine (knownN _).mono ?_; rintro e z9 ⟨rfl, G9⟩))
    go_ret
    have := G4.trans (G9.mono G4.size)
    exact ⟨rfl, bw4.trans (this.mono bw4.size)⟩

end Go.Proofs.Ytnghfnpmbjnjeaa
