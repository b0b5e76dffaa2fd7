/- frame.All: what a going over tells. Conditions: those that each states. -/
import Derived.Test.YtpnagblbhlglhaaFrameWalk2
import Derived.Test.YtpnagblbhlglhaaFrameScan
import Derived.Test.YtpnagblbhlglhaaRangeG2
namespace Go.Proofs.Ytpnagblbhlglhaa
open Go.RowKit Go.Shelf
attribute [local go_sem] Oper.semAt_some

/-- What may turn at the end: what the going over laid itself. -/
def finA (V W1 W' : World) : Prop := Fr (fun k => V.heap.size ≤ k ∧ ((∃ cs, Blk W1 k 47 cs) ∨ ∃ o : Obj, W1.heap[k]? = some o ∧ o.isCells = false)) W1 W'
theorem finA_grown {V W1 W W' : World} {row : Option Nat} (h : finA V W1 W) (hg : W.grownBy W' row) (hr : ∀ r, row = some r → V.heap.size ≤ r ∧ ∃ o : Obj, W.heap[r]? = some o ∧ o.isCells = false) : finA V W1 W' := by
  refine Fr.grown h hg (fun k hk e => ?_)
  obtain ⟨h1, o, h2, h3⟩ := hr k e
  refine ⟨h1, ?_⟩
  by_cases hS : (V.heap.size ≤ k ∧ ((∃ cs, Blk W1 k 47 cs) ∨ ∃ o : Obj, W1.heap[k]? = some o ∧ o.isCells = false))
  · exact hS.2
  · have := h.block k hk hS
    rw [this] at h2
    exact .inr ⟨o, h2, h3⟩

/-- What a round of the going over begins with. -/
structure AllR (J : List FrT → World → Prop) (b : List Nat) (A : Option Addr) (n c : Nat) (L v0 : Nat) (Bn : Nat) (pre : List FrT) (x : FrT) (a' : Act) (W : World) : Prop where
  from_ : ∃ W0, J pre W0 ∧ Below W0.heap.size W0 W ∧ GF b pre x W0.heap.size W
  yield : Blk W v0 135 #[.func (.yield L) #[] #[]]
  why : Blk W (v0 + 1) 47 #[.int .i64 0]
  act : ∃ g, Blk W g 94 #[.int .i64 (x.kind : Nat), .slice x.A x.body.length x.c] ∧ a' = { tmps := #[.func (.yield L) #[] #[], .pointer (some ⟨Bn, 0, none⟩), .pointer (some ⟨v0, 0, none⟩), .pointer (some ⟨v0 + 1, 0, none⟩), .int .i64 (x.at_ : Nat), .pointer (some ⟨g, 0, none⟩), Value.slice A n c,
      .func (.func 90) #[] #[.pointer (some ⟨v0 + 2, 0, none⟩), .pointer (some ⟨v0 + 3, 0, none⟩)], .int .i64 (x.at_ : Nat), x.val, undef, undef, undef, undef, undef], defers := [] }
theorem AllR.turn {J : List FrT → World → Prop} {b : List Nat} {A : Option Addr} {n c : Nat} {L v0 Bn B : Nat} {pre : List FrT} {x : FrT} {a' : Act} {W W' : World} {row : Option Nat} (hJ : OwnFrom B J) (h : AllR J b A n c L v0 Bn pre x a' W) (hg : W.grownBy W' row)
    (hr : ∀ r, row = some r → B ≤ r ∧ ∃ o : Obj, W.heap[r]? = some o ∧ o.isCells = false) : AllR J b A n c L v0 Bn pre x a' W' := by
  have hr' := fun r e => (hr r e).2
  obtain ⟨g, h1, h2⟩ := h.act
  obtain ⟨W0, hj, hb, hG⟩ := h.from_
  refine ⟨?_, h.yield.turn hg hr', h.why.turn hg hr', g, h1.turn hg hr', h2⟩
  have hG2 : ∀ m, GF b pre x m W → GF b pre x m W' := fun m hG => ⟨hG.1, hG.2.1, own_turn hG.2.2 hg hr'⟩
  cases row with
  | none => exact ⟨W0, hj, ⟨hg.os.trans hb.os, hg.tape.trans hb.tape, hg.output.trans hb.output, Nat.le_trans hb.size hg.size, fun k hk => (hg.block k (by have := hb.size; omega) (fun e => by cases e)).trans (hb.block k hk)⟩, hG2 _ hG⟩
  | some r =>
    obtain ⟨hB, o, ho, hc⟩ := hr r rfl
    by_cases hrW : r < W0.heap.size
    · have hW0r : W0.heap[r]? = some o := (hb.block r hrW).symm.trans ho
      obtain ⟨o', ho'⟩ : ∃ o', W'.heap[r]? = some o' := ⟨_, Array.getElem?_eq_getElem (by have := hb.size; have := hg.size; omega)⟩
      refine ⟨W0.putObj r o', hJ pre W0 (W0.putObj r o') (some r) hj (grownBy_putObj' W0 r o') (fun r' e => by cases e; exact ⟨hB, o, hW0r, hc⟩), ?_, ?_⟩
      · refine ⟨hg.os.trans hb.os, hg.tape.trans hb.tape, hg.output.trans hb.output, by simp; have := hb.size; have := hg.size; omega, fun k hk => ?_⟩
        rw [World.putObj_size] at hk
        by_cases e : k = r
        · subst e
          rw [World.putObj_heap_same hrW]
          exact ho'
        · rw [World.putObj_heap_other e]
          exact (hg.block k (by have := hb.size; omega) (fun e' => by injection e' with e'; exact e e')).trans (hb.block k hk)
      · rw [World.putObj_size]
        exact hG2 _ hG
    · refine ⟨W0, hj, ⟨hg.os.trans hb.os, hg.tape.trans hb.tape, hg.output.trans hb.output, Nat.le_trans hb.size hg.size, fun k hk => (hg.block k (by have := hb.size; omega) (fun e => by injection e with e; omega)).trans (hb.block k hk)⟩, hG2 _ hG⟩

set_option maxHeartbeats 4000000 in
set_option maxRecDepth 100000 in
theorem allSeq (w : World) (n₀ Bn : Nat) (A : Option Addr) (n c : Nat) (b : List Nat) (hB : Blk w Bn 24 #[.slice A n c]) (h : Reads w n₀ 1 A n (byts b)) (hs : Small b) (hn0 : n₀ ≤ w.heap.size) (hn : n ≤ 1000000000000) (hc : n ≤ c) (d : Nat) :
    SeqG d Try.prog 81 #[.pointer (some ⟨Bn, 0, none⟩)] encF (KpW n₀) (GF b) (fun xs => xs.map FrT.abs = scanL b) (fun pre => pre.map FrT.abs <+: scanL b) finA w := by
  intro L J Jx V hV hJ hJx hYi h0
  have hBV := hB.below hV hB.lt
  have hrV := h.below (hV.mono hn0)
  have hszV : n₀ ≤ V.heap.size := Nat.le_trans hn0 hV.size
  obtain ⟨v0, hv0⟩ : ∃ v0, V.heap.size = v0 := ⟨_, rfl⟩
  obtain ⟨Wa, hWa⟩ : ∃ W, (V.alloc (.cells #[.func (.yield L) #[] #[]] 135)).alloc (.cells #[.int .i64 0] 47) = W := ⟨_, rfl⟩
  have ea : Wa.heap.size = v0 + 2 := by rw [← hWa]; simp [hv0]
  have ba : Below V.heap.size V Wa := by rw [← hWa]; exact ((Below.refl _ V).alloc (Nat.le_refl _) _).alloc (by simp) _
  have k0 : Blk Wa v0 135 #[.func (.yield L) #[] #[]] := by rw [← hWa, ← hv0]; exact (Blk.new V 135 _).alloc _
  have k1 : Blk Wa (v0 + 1) 47 #[.int .i64 0] := by
    have := Blk.new (V.alloc (.cells #[.func (.yield L) #[] #[]] 135)) 47 #[.int .i64 0]
    rw [World.size_alloc, hWa, hv0] at this
    exact this
  obtain ⟨W1, hW1⟩ : ∃ W, Wa.setCell ⟨v0 + 1, 0, none⟩ (.int .i64 0) = W := ⟨_, rfl⟩
  have e1 : W1.heap.size = v0 + 2 := by rw [← hW1]; simp [World.setCell, ea]
  have b1 : Below V.heap.size V W1 := by rw [← hW1]; exact ba.setCell (p := ⟨v0 + 1, 0, none⟩) (by simp; omega) _
  have j0 : Blk W1 v0 135 #[.func (.yield L) #[] #[]] := by rw [← hW1]; exact k0.far (by simp) _
  have j1 : Blk W1 (v0 + 1) 47 #[.int .i64 0] := by rw [← hW1]; exact k1.set_ 0 _
  have y0 : W1.cell? ⟨Bn, 0, none⟩ = some (.slice A n c) := ((hBV.below b1 hBV.lt).cell 0).trans rfl
  have x1 := (k1.cell 0).trans rfl
  have xf := k1.frozen 0
  have c79 := walk_any W1 A n c (some ⟨v0 + 1, 0, none⟩)
  rw [e1] at c79
  obtain ⟨W2, hW2⟩ : ∃ W2, (W1.alloc (.cells #[.slice A n c] 24)).alloc (.cells #[.pointer (some ⟨v0 + 1, 0, none⟩)] 132) = W2 := ⟨_, rfl⟩
  rw [hW2] at c79
  have e2 : W2.heap.size = v0 + 4 := by rw [← hW2]; simp [e1]
  have b2 : Below V.heap.size V W2 := by rw [← hW2]; exact (b1.alloc (by omega) _).alloc (by simp; omega) _
  have k3 : Blk W2 (v0 + 2) 24 #[.slice A n c] := by
    have := (Blk.new W1 24 #[.slice A n c]).alloc (.cells #[.pointer (some ⟨v0 + 1, 0, none⟩)] 132)
    rw [e1, hW2] at this
    exact this
  have k4 : Blk W2 (v0 + 3) 132 #[.pointer (some ⟨v0 + 1, 0, none⟩)] := by
    have := Blk.new (W1.alloc (.cells #[.slice A n c] 24)) 132 #[.pointer (some ⟨v0 + 1, 0, none⟩)]
    rw [World.size_alloc, e1, hW2] at this
    exact this
  have up : ∀ {g t cs}, Blk W1 g t cs → Blk W2 g t cs := fun h => by rw [← hW2]; exact (h.alloc _).alloc _
  have hI0 : J [] W2 ∧ Blk W2 v0 135 #[.func (.yield L) #[] #[]] ∧ Blk W2 (v0 + 1) 47 #[.int .i64 0] := ⟨ownFrom_below hJ h0 b2, up j0, up j1⟩
  have hsq := walkSeq W2 n₀ (v0 + 2) (v0 + 3) (v0 + 1) A n c b k3 k4 hI0.2.2 (hrV.below (b2.mono hszV)) hs (Nat.le_trans hszV b2.size) (by omega) hc (d - 1)
  have HH := Lib.hid hI0
  have HQ := Lib.hid hsq
  have HY := Lib.hid hYi
  clear hI0 hsq up k0 k1 k3 k4 b1 b2 ba hrV hBV h hB hYi h0 hV j0 j1 hW2 ea
  refine callsIn_of_wp_marks Try.func81 rfl trivial ?_ rfl
  simp only [Try.ntmps81, List.size_toArray, List.length_cons, List.length_nil, Nat.reduceAdd, Nat.reduceSub, Array.replicate_succ, Array.replicate_zero, List.push_toArray, List.append_toArray, List.nil_append, List.cons_append]
  gi_wp2_with (refine ⟨trivial, fun h => (by cases h), ?_⟩; gi_at_call 79; refine (callsIn_wide.2 c79).mono ?_; clear c79; rintro e w' ⟨rfl, rfl⟩)
  clear x1 xf hW1 hWa y0 e1
  refine range_seqG2 (gf := 90) (lb := #[.pointer (some ⟨v0 + 2, 0, none⟩), .pointer (some ⟨v0 + 3, 0, none⟩)]) rfl (enters_of Try.func90 (by kernel_rfl) rfl) HQ.out (fun h k => KpW.t h k) (fun W l o o' h hc => KpW.b W l o o' h hc) (Below.refl _ _) (fun _ => rfl)
    (fun pre W => J pre W ∧ Blk W v0 135 #[.func (.yield L) #[] #[]] ∧ Blk W (v0 + 1) 47 #[.int .i64 0]) (fun xs W => ∃ W1, J xs W1 ∧ finA V W1 W) (fun c pre W => c = .ret ∧ Jx pre W)
    (fun pre W W' row hs hg hr => ⟨hJ pre W W' row hs.1 hg (fun r e => ⟨by have := (hr r e).1; omega, (hr r e).2⟩), hs.2.1.turn hg (fun r e => (hr r e).2), hs.2.2.turn hg (fun r e => (hr r e).2)⟩)
    (fun pre W W' row hs hg hr => by
      obtain ⟨W1, h1, h2⟩ := hs
      exact ⟨W1, h1, finA_grown h2 hg (fun r e => ⟨by have := (hr r e).1; omega, (hr r e).2⟩)⟩)
    (fun c pre W W' row hs hg hr => ⟨hs.1, hJx pre W W' row hs.2 hg (fun r e => ⟨by have := (hr r e).1; omega, (hr r e).2⟩)⟩)
    HH.out
    (AllR J b A n c L v0 Bn)
    ?R ?assign ?body ?fin ?done ?stop
  case R =>
    intro pre x a' _ W W' row hs hg hr
    exact hs.turn hJ hg (fun r e => ⟨by have := (hr r e).1; omega, (hr r e).2⟩)
  case assign =>
    intro L2 pre x W0 W K hI hb hG hK
    have hal : Below W.heap.size W (W.alloc (.cells #[.int .i64 (x.kind : Nat), .slice x.A x.body.length x.c] 94)) := (Below.refl _ W).alloc (Nat.le_refl _) _
    have hbb := hb.trans (hal.mono hb.size)
    have HK := Lib.hid (fun a' hact => hK a' (W.alloc (.cells #[.int .i64 (x.kind : Nat), .slice x.A x.body.length x.c] 94)) (keepsFrom_new hal) (KpW.below hal) ⟨⟨W0, hI.1, hbb, hG.1, hG.2.1, hG.2.2.alloc _⟩, (hI.2.1.below hb hI.2.1.lt).alloc _, (hI.2.2.below hb hI.2.2.lt).alloc _, W.heap.size, Blk.new W 94 _, hact⟩)
    clear hK hI hG hb hal hbb HH HQ HY
    simp only [encF, FrT.val]
    gi_wp2
    exact HK.out _ rfl
  case body =>
    rintro L2 pre x a' W hR
    obtain ⟨W0, hj, hb, hG⟩ := hR.from_
    obtain ⟨g, hg, rfl⟩ := hR.act
    have v1 := (hR.yield.cell 0).trans rfl
    have z0 := (hg.cell 0).trans rfl
    have z1 := (hg.cell 1).trans rfl
    have hy0 := yieldAt_any (F := Fence.wide) rfl (d - 1 - 1 - 1) (HY.out pre x W0 W hj hb hG)
    unfold encF FrT.val at hy0
    obtain ⟨fn, tmps, assign, body, hy, hRd⟩ := hy0
    have HW := Lib.hid (And.intro hR.yield (And.intro hR.why hG.2.1))
    clear HH HQ HY hR hj hb hG hg
    gi_wp2
    refine ⟨fun h => (by cases h), ?_⟩
    refine RoundIn.mono (show RoundIn (Fence.wide.inRound L2) (d - 1 - 1 - 1) Try.prog L fn tmps assign body W _ from hRd) ?_
    clear hy hRd z0 z1 v1
    rintro e W' (⟨rfl, hj, hkp, hkf⟩ | ⟨rfl, hj, hkf⟩)
    · gi_wp2
      exact ⟨⟨hkf.size, fun k o hk ho hc => hkf.same k o (by omega) ho hc⟩, hkp, hj, HW.out.1.kpw hkp (.inr (.inr (.inr (.inr rfl)))), HW.out.2.1.kpw hkp (.inr (.inr (.inr (.inl rfl))))⟩
    · gi_wp2
      exact ⟨⟨hkf.size, fun k o hk ho hc => hkf.same k o (by omega) ho hc⟩, rfl, hj⟩
  case fin =>
    intro xs W V1 V2 hsz hS hI hF
    unfold finF at hF
    by_cases hE : scanE b = 0
    · rw [if_pos hE] at hF
      subst hF
      exact ⟨⟨_, hI.1, Fr.refl _ _⟩, fun k o _ _ h _ => h⟩
    · rw [if_neg hE] at hF
      subst hF
      refine ⟨⟨V1, hI.1, (Fr.refl _ V1).setCell (p := ⟨v0 + 1, 0, none⟩) (fun _ => ⟨by show V.heap.size ≤ v0 + 1; omega, .inl ⟨_, hI.2.2⟩⟩) _⟩, fun k o _ _ h hc => (keepsFrom_set (B := 0) (p := ⟨v0 + 1, 0, none⟩) hI.2.2 _).same k o (Nat.zero_le _) h hc⟩
  case done =>
    intro D xs W hD hS hI hK
    obtain ⟨W1, h1, h2⟩ := hI
    have HP := Lib.hid (show ∃ xs W1, xs.map FrT.abs = scanL b ∧ J xs W1 ∧ finA V W1 (W.putObj D (.deferred none)) from ⟨xs, W1, hS, h1, finA_grown h2 (grownBy_putObj' W D _) (fun r e => by cases e; exact ⟨by omega, _, hK, rfl⟩)⟩)
    clear h1 h2 HH HQ HY
    gi_wp2
    refine ⟨by simp, .inl ⟨_, _, rfl, run_takeDeferred hK, ?_⟩⟩
    exact ⟨_, results_none rfl _ _ _, ⟨_, rfl⟩, .inl HP.out⟩
  case stop =>
    rintro D cc pre W hD hSp ⟨rfl, hjx⟩ hK
    have HP := Lib.hid (show ∃ pre, pre.map FrT.abs <+: scanL b ∧ Jx pre (W.putObj D (.deferred none)) from ⟨pre, hSp, hJx pre W _ (some D) hjx (grownBy_putObj' W D _) (fun r e => by cases e; exact ⟨by omega, _, hK, rfl⟩)⟩)
    clear hjx HH HQ HY
    gi_wp2
    refine ⟨by simp, .inl ⟨_, _, rfl, run_takeDeferred hK, ?_⟩⟩
    exact ⟨_, results_none rfl _ _ _, ⟨_, rfl⟩, .inr HP.out⟩
end Go.Proofs.Ytpnagblbhlglhaa
