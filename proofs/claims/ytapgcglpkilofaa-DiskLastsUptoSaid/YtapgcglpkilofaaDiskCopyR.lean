/- Copy and Stop of the document's disk. Conditions: those that each states. -/
import Derived.Test.YtapgcglpkilofaaDiskCopy
namespace Go.Proofs.Ytapgcglpkilofaa
open Go.RowKit

theorem RD.made {wr : World} {q H M : Nat} {Ac B0 B1 : Option Addr} {nl cc n0 e0 n1 e1 : Nat} (s2 : DS) (ok : s2.Ok)
    (blk : Blk wr q 61 #[.int .i64 s2.cap, .slice Ac nl cc, .int .i64 s2.sure, .slice B0 n0 e0, .slice B1 n1 e1, .bool s2.h0, .bool s2.h1, .int .i64 s2.last, .int .i64 s2.steps]) (hq : H ≤ q)
    (ol : wr.ownsRow H 5 1 (.slice Ac nl cc) nl (byts s2.log)) (low : ∀ k, blkOf Ac = some k → k < M) (o0 : wr.ownsRow M 5 1 (.slice B0 n0 e0) n0 (byts s2.d0)) (o1 : wr.ownsRow M 5 1 (.slice B1 n1 e1) n1 (byts s2.d1)) (hM : H ≤ M) :
    ∃ S', RD wr q S' s2 ∧ (∀ k, S' k → H ≤ k) := by
  refine ⟨fun k => H ≤ k, ⟨ok, Ac, nl, cc, B0, n0, e0, B1, n1, e1, ⟨blk, own_mono ol (Nat.zero_le _), own_mono o0 (Nat.zero_le _), own_mono o1 (Nat.zero_le _), fun k hk h2 => ?_, fun k hk h2 => ?_⟩, ⟨hq, fun k hk => ?_, fun k hk => ?_, fun k hk => ?_⟩⟩, fun k hk => hk⟩
  · have h3 := low k hk
    have h4 := (o0.lt k (by rw [ownBlock_slice]; exact h2)).1
    omega
  · have h3 := low k hk
    have h4 := (o1.lt k (by rw [ownBlock_slice]; exact h2)).1
    omega
  · exact (ol.lt k (by rw [ownBlock_slice]; exact hk)).1
  · have h4 := (o0.lt k (by rw [ownBlock_slice]; exact hk)).1
    show H ≤ k
    omega
  · have h4 := (o1.lt k (by rw [ownBlock_slice]; exact hk)).1
    show H ≤ k
    omega

def MadeR (w : World) (s : DS) (e : Ending) (w' : World) : Prop := ∃ q S', e = .returned (.pointer (some ⟨q, 0, none⟩)) ∧ RD w' q S' s ∧ (∀ k, S' k → w.heap.size ≤ k) ∧ Below w.heap.size w w'
section
variable (w : World) (p : Nat) (S : Nat → Prop) (s : DS)
set_option maxHeartbeats 4000000 in
set_option maxRecDepth 100000 in
theorem copyR (h : RD w p S s) : Calls Try.prog 39 #[.pointer (some ⟨p, 0, none⟩)] w fun e w' => MadeR w s e w' := by
  obtain ⟨ok, Al, nl, cl, A0, n0, c0, A1, n1, c1, hx, hh⟩ := h
  have hp : p < w.heap.size := hx.blk.lt
  have x0 := hx.x0
  have x1 := hx.x1
  have x2 := hx.x2
  have x3 := hx.x3
  have x4 := hx.x4
  have x5 := hx.x5
  have x6 := hx.x6
  have x7 := hx.x7
  have x8 := hx.x8
  have hcl := fun W (hb : Below w.heap.size w W) => copyR_any W w.heap.size Al nl cl s.log ((Reads.of_own hx.rl).below hb) hb.size (by rw [← hx.len]; exact ok.nl)
  have hc0 := fun W (hb : Below w.heap.size w W) => copyR_any W w.heap.size A0 n0 c0 s.d0 ((Reads.of_own hx.r0).below hb) hb.size (by rw [← hx.len0]; exact ok.n0)
  have hc1 := fun W (hb : Below w.heap.size w W) => copyR_any W w.heap.size A1 n1 c1 s.d1 ((Reads.of_own hx.r1).below hb) hb.size (by rw [← hx.len1]; exact ok.n1)
  obtain ⟨v0, h0⟩ : ∃ v, s.cap = v := ⟨_, rfl⟩
  obtain ⟨v2, h2⟩ : ∃ v, s.sure = v := ⟨_, rfl⟩
  obtain ⟨v4, h4⟩ : ∃ v, s.h0 = v := ⟨_, rfl⟩
  obtain ⟨v6, h6⟩ : ∃ v, s.h1 = v := ⟨_, rfl⟩
  obtain ⟨v7, h7⟩ : ∃ v, s.last = v := ⟨_, rfl⟩
  obtain ⟨v8, h8⟩ : ∃ v, s.steps = v := ⟨_, rfl⟩
  rw [h0] at x0
  rw [h2] at x2
  rw [h4] at x5
  rw [h6] at x6
  rw [h7] at x7
  rw [h8] at x8
  have H := Lib.hid (And.intro ok (And.intro hx (And.intro hh (And.intro h0 (And.intro h2 (And.intro h4 (And.intro h6 (And.intro h7 h8))))))))
  clear hx hh ok h0 h2 h4 h6 h7 h8
  go_enter Try.func39, Try.ntmps39
  go_wp2_with (go_at_call 25; refine (hcl _ ((Below.refl _ w).alloc (Nat.le_refl _) _)).mono ?_; rintro e w1 ⟨Ac, cc, rfl, oc, m1⟩; have hq := (Blk.new w 61 _).below m1 (by simp); have nw : Below w.heap.size w w1 := ((Below.refl _ w).alloc (Nat.le_refl _) _).trans (m1.mono (by simp)); have g1 := (hq.cell 1).trans rfl; have gf := hq.frozen)
  have hq2 := hq.set_ 1 (.slice Ac nl cc)
  have n2 : Below w.heap.size w (w1.setCell ⟨w.heap.size, 1, none⟩ (.slice Ac nl cc)) := nw.setCell (p := ⟨w.heap.size, 1, none⟩) (Nat.le_refl _) _
  have o2 := own_setCell (p := ⟨w.heap.size, 1, none⟩) (own_mono oc (show w.heap.size + 1 ≤ _ by simp)) (fun e => by have := (oc.lt _ e).1; simp at this; omega) (.slice Ac nl cc)
  clear hcl m1 g1 gf oc nw hq
  generalize w1.setCell ⟨w.heap.size, 1, none⟩ (.slice Ac nl cc) = W at *
  have hdW : Below w.heap.size w W.drew := n2.drew
  have y3 : W.drew.cell? ⟨p, 3, none⟩ = some (.slice A0 n0 c0) := (n2.cell (p := ⟨p, 3, none⟩) hp).trans x3
  have y4 : W.drew.cell? ⟨p, 4, none⟩ = some (.slice A1 n1 c1) := (n2.cell (p := ⟨p, 4, none⟩) hp).trans x4
  have hlt := hq2.lt
  have FIN : ∀ (w3 : World) (Ba Bb : Option Addr) (ea eb : Nat), w3.ownsRow W.heap.size 5 1 (.slice Ba n0 ea) n0 (byts s.d0) → w3.ownsRow W.heap.size 5 1 (.slice Bb n1 eb) n1 (byts s.d1) → Below W.heap.size W w3 →
      w3.cell? ⟨w.heap.size, 3, none⟩ = some (.slice A0 n0 c0) ∧ w3.cell? ⟨w.heap.size, 4, none⟩ = some (.slice A1 n1 c1) ∧ w3.frozen? ⟨w.heap.size, 3, none⟩ = false ∧ w3.frozen? ⟨w.heap.size, 4, none⟩ = false ∧
        MadeR w s (.returned (.pointer (some ⟨w.heap.size, 0, none⟩))) ((w3.setCell ⟨w.heap.size, 3, none⟩ (.slice Ba n0 ea)).setCell ⟨w.heap.size, 4, none⟩ (.slice Bb n1 eb)) := by
    intro w3 Ba Bb ea eb oa ob hb
    have hb3 := hq2.below hb hlt
    obtain ⟨ok, hx, hh, rfl, rfl, rfl, rfl, rfl, rfl⟩ := H.out
    have hne : ∀ (b n : Nat) (X : World) (v : Value) (xs : List Value), w.heap.size < b → X.ownsRow b 5 1 v n xs → ∀ j x, (X.setCell ⟨w.heap.size, j, none⟩ x).ownsRow b 5 1 v n xs := fun b n X v xs hb hX j x =>
      own_setCell (p := ⟨w.heap.size, j, none⟩) hX (fun e => by have := (hX.lt _ e).1; simp at this; omega) x
    have ol : w3.ownsRow (w.heap.size + 1) 5 1 (.slice Ac nl cc) nl (byts s.log) := own_fr (S := noB) o2 (Fr.of_new hb) fun _ _ e => e
    refine ⟨(hb3.cell 3).trans rfl, (hb3.cell 4).trans rfl, hb3.frozen 3, hb3.frozen 4, ?_⟩
    obtain ⟨S', h1, h2⟩ := RD.made (q := w.heap.size) (H := w.heap.size) (M := W.heap.size) s ok ((hb3.set_ 3 (.slice Ba n0 ea)).set_ 4 (.slice Bb n1 eb)) (Nat.le_refl _) (own_mono (hne _ _ _ _ _ (by omega) (hne _ _ _ _ _ (by omega) ol 3 (.slice Ba n0 ea)) 4 (.slice Bb n1 eb)) (Nat.le_succ _)) (fun k hk => (o2.lt k (by rw [ownBlock_slice]; exact hk)).2) (hne _ _ _ _ _ hlt (hne _ _ _ _ _ hlt oa 3 _) 4 _) (hne _ _ _ _ _ hlt (hne _ _ _ _ _ hlt ob 3 _) 4 _) (by omega)
    exact ⟨_, S', rfl, h1, h2, ((n2.trans (hb.mono (by omega))).setCell (p := ⟨w.heap.size, 3, none⟩) (Nat.le_refl _) _).setCell (p := ⟨w.heap.size, 4, none⟩) (Nat.le_refl _) _⟩
  replace FIN := Lib.hid FIN
  clear hq2 o2 H
  have hpW : Below W.heap.size W W.drew := (Below.refl _ W).drew
  go_region_law (first
    | (go_simp; go_at_call_of 25 (Value.slice A0 n0 c0); refine (hc0 _ (by assumption)).mono ?_; clear hc0; rintro e wa ⟨Ba, ea, rfl, oa, ma⟩; have na : Below w.heap.size w wa := (by first | exact hdW.trans (ma.mono hdW.size) | exact nb.trans (ma.mono nb.size)); have pa : Below W.heap.size W wa := (by first | exact hpW.trans (ma.mono hpW.size) | exact pb.trans (ma.mono pb.size)); have ya := (na.cell (p := ⟨p, 4, none⟩) hp).trans x4; try (revert pb; intro pb; obtain ⟨z1, z2, z3, z4, hM⟩ := FIN.out wa Ba Bb ea eb (own_mono oa pb.size) (own_fr (S := noB) (own_mono ob hpW.size) (Fr.of_new ma) fun _ _ e => e) pa; have HM := Lib.hid hM; clear hM))
    | (go_simp; go_at_call_of 25 (Value.slice A1 n1 c1); refine (hc1 _ (by assumption)).mono ?_; clear hc1; rintro e wb ⟨Bb, eb, rfl, ob, mb⟩; have nb : Below w.heap.size w wb := (by first | exact hdW.trans (mb.mono hdW.size) | exact na.trans (mb.mono na.size)); have pb : Below W.heap.size W wb := (by first | exact hpW.trans (mb.mono hpW.size) | exact pa.trans (mb.mono pa.size)); have yb := (nb.cell (p := ⟨p, 3, none⟩) hp).trans x3; try (revert pa; intro pa; obtain ⟨z1, z2, z3, z4, hM⟩ := FIN.out wb Ba Bb ea eb (own_fr (S := noB) (own_mono oa hpW.size) (Fr.of_new mb) fun _ _ e => e) (own_mono ob pa.size) pb; have HM := Lib.hid hM; clear hM)))
  all_goals
    go_wp2
    go_ret
    exact HM.out

set_option maxHeartbeats 4000000 in
set_option maxRecDepth 100000 in
theorem stopR (h : RD w p S s) (keep : Int) (hk : -9223372036854775808 ≤ keep ∧ keep ≤ 9223372036854775807) : Calls Try.prog 38 #[.pointer (some ⟨p, 0, none⟩), .int .i64 keep] w fun e w' => MadeR w (s.stopS keep) e w' := by
  have hcp := copyR w p S s h
  obtain ⟨ok, Al, nl, cl, A0, n0, c0, A1, n1, c1, hx, hh⟩ := h
  have x1 := hx.x1
  have x2 := hx.x2
  have hl := hx.len
  have b2 := ok.nl
  have b3 := ok.sure
  have hL := DS.left_le ok keep
  have okS := ok.stopS keep
  unfold DS.left at hL
  rw [hl] at b2 b3 hL
  obtain ⟨L, hLL⟩ : ∃ L, s.left keep = L := ⟨_, rfl⟩
  obtain ⟨su, hsu⟩ : ∃ v, s.sure = v := ⟨_, rfl⟩
  have eL : L = su + min keep.toNat (nl - su) := by rw [← hLL, ← hsu]; unfold DS.left; rw [hl]
  rw [hsu] at x2 b3 hL
  rw [← eL] at hL
  have fin : ∀ w1 e, MadeR w s e w1 → ∃ q A1 c1, e = .returned (.pointer (some ⟨q, 0, none⟩)) ∧ nl ≤ c1 ∧ w1.cell? ⟨q, 1, none⟩ = some (.slice A1 nl c1) ∧ (∃ v, w1.cell? ⟨q, 2, none⟩ = some v) ∧ (∃ v, w1.cell? ⟨q, 8, none⟩ = some v) ∧ (∀ j, w1.frozen? ⟨q, j, none⟩ = false) ∧
      MadeR w (s.stopS keep) e (((w1.setCell ⟨q, 1, none⟩ (.slice A1 L c1)).setCell ⟨q, 2, none⟩ (.int .i64 L)).setCell ⟨q, 8, none⟩ (.int .i64 0)) := by
    rintro w1 e ⟨q, S', rfl, ⟨ok1, Al1, nl1, cl1, A01, n01, c01, A11, n11, c11, hx1, hh1⟩, hS, hb⟩
    have hn1 : nl1 = nl := by have := hx1.len; omega
    subst hn1
    refine ⟨q, Al1, cl1, rfl, (own_cap hx1.rl).1, hx1.x1, ⟨_, hx1.x2⟩, ⟨_, hx1.x8⟩, hx1.blk.frozen, q, S', rfl, ⟨okS, Al1, L, cl1, A01, n01, c01, A11, n11, c11, ⟨?_, ?_, ?_, ?_, hx1.ne0, hx1.ne1⟩, hh1⟩, hS, ?_⟩
    · have hb3 := ((hx1.blk.set_ 1 (.slice Al1 L cl1)).set_ 2 (.int .i64 L)).set_ 8 (.int .i64 0)
      rw [← hLL] at hb3 ⊢
      exact hb3
    · show World.ownsRow _ 0 5 1 (.slice Al1 L cl1) L (byts (s.log.take (s.left keep)))
      rw [hLL, byts_take]
      have o := own_take hx1.rl (k := L) (by omega)
      have hne : ∀ X : World, X.ownsRow 0 5 1 (.slice Al1 L cl1) L ((byts s.log).take L) → ∀ j x, (X.setCell ⟨q, j, none⟩ x).ownsRow 0 5 1 (.slice Al1 L cl1) L ((byts s.log).take L) := fun X hX j x =>
        own_setCell (p := ⟨q, j, none⟩) hX (fun e => hx1.nel q (by rw [ownBlock_slice] at e ⊢; exact e) rfl) x
      exact hne _ (hne _ (hne _ o 1 _) 2 _) 8 _
    · exact own_fr hx1.r0 (fr_more (fr_more (fr_one w1 q 1 (.slice Al1 L cl1)) 2 (.int .i64 L)) 8 (.int .i64 0)) hx1.nep0
    · exact own_fr hx1.r1 (fr_more (fr_more (fr_one w1 q 1 (.slice Al1 L cl1)) 2 (.int .i64 L)) 8 (.int .i64 0)) hx1.nep1
    · have hqn := hS q hh1.p
      exact ((hb.setCell (p := ⟨q, 1, none⟩) hqn _).setCell (p := ⟨q, 2, none⟩) hqn _).setCell (p := ⟨q, 8, none⟩) hqn _
  have FIN := Lib.hid fin
  have EL := Lib.hid eL
  clear fin hx hh ok okS hl hLL hsu eL
  go_enter Try.func38, Try.ntmps38
  go_wp2
  go_loopw [5] (fun iv wr => ∃ k : Nat, su ≤ k ∧ k ≤ L ∧ iv = .int .i64 k ∧ wr = w) (fun iv _ => L - (intOf iv).toNat)
  case atStart => exact ⟨su, Nat.le_refl _, by have := EL.out; omega, rfl, rfl⟩
  case round =>
    obtain ⟨k, h1, h2, rfl, rfl⟩ := hrel
    have eL := EL.out
    obtain ⟨j, hj⟩ : ∃ j, k - su = j := ⟨_, rfl⟩
    have u1 : IntKind.i64.wrap ((k : Int) - (su : Int)) = (j : Int) := by rw [IntWalk.i64_in _ (by omega)]; omega
    have u2 : IntKind.i64.wrap ((k : Int) + 1) = ((k + 1 : Nat) : Int) := by rw [IntWalk.i64_in _ (by omega)]; omega
    by_cases hlt : k < L
    · have q1 : decide ((k : Int) < (nl : Int)) = true := decide_eq_true (by omega)
      have q2 : decide ((j : Int) < keep) = true := decide_eq_true (by omega)
      have q1' : k < nl := by omega
      have q2' : (j : Int) < keep := by omega
      clear eL
      go_wp2
      go_roundw
      case rel => exact ⟨k + 1, by omega, by omega, by first | rfl | trivial, by first | rfl | trivial⟩
      case measure => simp [intOf]; omega
    · obtain rfl : k = L := by omega
      by_cases hfull : k < nl
      · have q1 : decide ((k : Int) < (nl : Int)) = true := decide_eq_true (by omega)
        have q2 : decide ((j : Int) < keep) = false := decide_eq_false (by omega)
        have q2' : ¬ (j : Int) < keep := by omega
        clear eL EL
        go_wp2_with (go_at_call 39; refine hcp.mono ?_; clear hcp; rintro e w1 hM; obtain ⟨q, A2, c2, rfl, hnc, z1, ⟨_, z2⟩, ⟨_, z8⟩, zf, hF⟩ := FIN.out w1 e hM; have HF := Lib.hid hF; clear hM hF FIN; have q5 : (k : Int) ≤ (c2 : Int) := (by omega); have q6 : (0 : Int) ≤ (k : Int) := (by omega))
        go_ret
        exact HF.out
      · have q1 : decide ((k : Int) < (nl : Int)) = false := decide_eq_false (by omega)
        clear eL EL
        go_wp2_with (go_at_call 39; refine hcp.mono ?_; clear hcp; rintro e w1 hM; obtain ⟨q, A2, c2, rfl, hnc, z1, ⟨_, z2⟩, ⟨_, z8⟩, zf, hF⟩ := FIN.out w1 e hM; have HF := Lib.hid hF; clear hM hF FIN; have q5 : (k : Int) ≤ (c2 : Int) := (by omega); have q6 : (0 : Int) ≤ (k : Int) := (by omega))
        go_ret
        exact HF.out
end
end Go.Proofs.Ytapgcglpkilofaa
