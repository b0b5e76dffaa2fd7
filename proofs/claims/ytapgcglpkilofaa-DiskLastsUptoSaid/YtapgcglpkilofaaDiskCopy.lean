/- Copy and Stop of the program's disk. Conditions: those that each states. -/
import Derived.Test.YtapgcglpkilofaaDiskPut
namespace Go.Proofs.Ytapgcglpkilofaa
open Go.RowKit

/-- A copy under way: its block is new, k of its places are its own. -/
structure CR (w W wr : World) (v0 : Nat) (Ac : Option Addr) (nl cc v2 : Nat) (n0 : Nat) (v4 : Bool) (n1 : Nat) (v6 : Bool) (v7 v8 : Int) (lg l0 l1 : List Nat) (k : Nat) (B0 B1 : Option Addr) (e0 e1 : Nat) : Prop where
  blk : Blk wr w.heap.size 54 #[.int .i64 v0, .slice Ac nl cc, .int .i64 v2, .slice B0 n0 e0, .bool v4, .slice B1 n1 e1, .bool v6, .int .i64 v7, .int .i64 v8]
  log : wr.ownsRow (w.heap.size + 1) 5 1 (.slice Ac nl cc) nl (byts lg)
  low : ∀ k, blkOf Ac = some k → k < W.heap.size
  own0 : 1 ≤ k → wr.ownsRow W.heap.size 5 1 (.slice B0 n0 e0) n0 (byts l0)
  own1 : 2 ≤ k → wr.ownsRow W.heap.size 5 1 (.slice B1 n1 e1) n1 (byts l1)
  below : Below w.heap.size w wr
  size : W.heap.size ≤ wr.heap.size
  past : w.heap.size < W.heap.size
namespace CR
variable {w W wr w2 : World} {v0 : Nat} {Ac : Option Addr} {nl cc v2 : Nat} {n0 : Nat} {v4 : Bool} {n1 : Nat} {v6 : Bool} {v7 v8 : Int} {lg l0 l1 : List Nat} {B0 B1 A2 : Option Addr} {e0 e1 c2 : Nat} {o : Obj}
theorem step0 (h : CR w W wr v0 Ac nl cc v2 n0 v4 n1 v6 v7 v8 lg l0 l1 0 B0 B1 e0 e1) (o2 : w2.ownsRow (wr.alloc o).heap.size 5 1 (.slice A2 n0 c2) n0 (byts l0)) (m2 : Below (wr.alloc o).heap.size (wr.alloc o) w2) :
    CR w W (w2.setCell ⟨w.heap.size, 3, none⟩ (.slice A2 n0 c2)) v0 Ac nl cc v2 n0 v4 n1 v6 v7 v8 lg l0 l1 1 A2 B1 c2 e1 := by
  have l2 := h.blk.lt
  have hs : (wr.alloc o).heap.size = wr.heap.size + 1 := by simp
  have hsz := h.size
  have hpast := h.past
  rw [hs] at o2 m2
  have ms := m2.size
  refine ⟨((h.blk.alloc o).below m2 (by omega)).set_ 3 _, ?_, h.low, fun _ => ?_, fun e => absurd e (by omega), ?_, ?_, hpast⟩
  · refine own_setCell (own_fr (own_fr h.log (S := noB) ((Fr.refl _ _).alloc o) fun _ _ e => e) (Fr.of_new (S := noB) (m2.mono (Nat.le_of_eq (by simp)))) ?_) (fun e => ?_) _
    · exact fun _ _ e => e
    · have := (h.log.lt _ e).1
      simp at this
      omega
  · refine own_setCell (own_mono o2 (by omega)) (fun e => ?_) _
    have := (o2.lt _ e).1
    simp at this
    omega
  · exact ((h.below.alloc h.below.size o).trans (m2.mono (by omega))).setCell (p := ⟨w.heap.size, 3, none⟩) (Nat.le_refl _) _
  · simp
    omega
theorem step1 (h : CR w W wr v0 Ac nl cc v2 n0 v4 n1 v6 v7 v8 lg l0 l1 1 B0 B1 e0 e1) (o2 : w2.ownsRow (wr.alloc o).heap.size 5 1 (.slice A2 n1 c2) n1 (byts l1)) (m2 : Below (wr.alloc o).heap.size (wr.alloc o) w2) :
    CR w W (w2.setCell ⟨w.heap.size, 5, none⟩ (.slice A2 n1 c2)) v0 Ac nl cc v2 n0 v4 n1 v6 v7 v8 lg l0 l1 2 B0 A2 e0 c2 := by
  have l2 := h.blk.lt
  have hs : (wr.alloc o).heap.size = wr.heap.size + 1 := by simp
  have hsz := h.size
  have hpast := h.past
  rw [hs] at o2 m2
  have ms := m2.size
  have keep : ∀ {base n : Nat} {v : Value} {xs : List Value}, wr.ownsRow base 5 1 v n xs → w.heap.size < base → (w2.setCell ⟨w.heap.size, 5, none⟩ (.slice A2 n1 c2)).ownsRow base 5 1 v n xs := by
    intro base n v xs hv hb
    refine own_setCell (own_fr (own_fr hv (S := noB) ((Fr.refl _ _).alloc o) fun _ _ e => e) (Fr.of_new (S := noB) (m2.mono (Nat.le_of_eq (by simp)))) ?_) (fun e => ?_) _
    · exact fun _ _ e => e
    · have := (hv.lt _ e).1
      simp at this
      omega
  refine ⟨((h.blk.alloc o).below m2 (by omega)).set_ 5 _, keep h.log (by omega), h.low, fun _ => keep (h.own0 (by omega)) hpast, fun _ => ?_, ?_, ?_, hpast⟩
  · refine own_setCell (own_mono o2 (by omega)) (fun e => ?_) _
    have := (o2.lt _ e).1
    simp at this
    omega
  · exact ((h.below.alloc h.below.size o).trans (m2.mono (by omega))).setCell (p := ⟨w.heap.size, 5, none⟩) (Nat.le_refl _) _
  · simp
    omega
theorem done (s2 : DS) (ok : s2.Ok) (h : CR w W wr s2.cap Ac nl cc s2.sure n0 s2.h0 n1 s2.h1 s2.last s2.steps s2.log s2.d0 s2.d1 2 B0 B1 e0 e1) : ∃ S', PD wr w.heap.size S' s2 ∧ (∀ k, S' k → w.heap.size ≤ k) := by
  have hpast := h.past
  refine ⟨fun k => w.heap.size ≤ k, ⟨ok, Ac, nl, cc, B0, n0, e0, B1, n1, e1, ⟨h.blk, own_mono h.log (Nat.zero_le _), own_mono (h.own0 (by omega)) (Nat.zero_le _), own_mono (h.own1 (Nat.le_refl _)) (Nat.zero_le _), fun k hk h2 => ?_, fun k hk h2 => ?_⟩, ⟨Nat.le_refl _, fun k hk => ?_, fun k hk => ?_, fun k hk => ?_⟩⟩, fun k hk => hk⟩
  · have h3 := h.low k hk
    have h4 := ((h.own0 (by omega)).lt k (by rw [ownBlock_slice]; exact h2)).1
    omega
  · have h3 := h.low k hk
    have h4 := ((h.own1 (by omega)).lt k (by rw [ownBlock_slice]; exact h2)).1
    omega
  · have h4 := (h.log.lt k (by rw [ownBlock_slice]; exact hk)).1
    show w.heap.size ≤ k
    omega
  · have h4 := ((h.own0 (by omega)).lt k (by rw [ownBlock_slice]; exact hk)).1
    show w.heap.size ≤ k
    omega
  · have h4 := ((h.own1 (by omega)).lt k (by rw [ownBlock_slice]; exact hk)).1
    show w.heap.size ≤ k
    omega
end CR

/-- A disk made anew stands there. -/
def MadeP (w : World) (s : DS) (e : Ending) (w' : World) : Prop := ∃ q S', e = .returned (.pointer (some ⟨q, 0, none⟩)) ∧ PD w' q S' s ∧ (∀ k, S' k → w.heap.size ≤ k) ∧ Below w.heap.size w w'
section
variable (w : World) (p : Nat) (S : Nat → Prop) (s : DS)

set_option maxHeartbeats 4000000 in
set_option maxRecDepth 100000 in
theorem copyP (h : PD w p S s) : Calls Try.prog 23 #[.pointer (some ⟨p, 0, none⟩)] w fun e w' => MadeP w s e w' := by
  obtain ⟨ok, Al, nl, cl, A0, n0, c0, A1, n1, c1, hx, hh⟩ := h
  have ht := thereYes w p s.cap ok.cap1 hx.x0
  have hp : p < w.heap.size := hx.blk.lt
  have x0 := hx.x0
  have x1 := hx.x1
  have x2 := hx.x2
  have x3 := hx.x3
  have x4 := hx.x4
  have x5 := hx.x5
  have x6 := hx.x6
  have x7 := hx.x7
  have x8 := hx.x8
  have hcl := fun W (hb : Below w.heap.size w W) => clone_any W w.heap.size Al nl cl s.log ((Reads.of_own hx.rl).below hb) hb.size (by rw [← hx.len]; exact ok.nl)
  have hc0 := fun W (hb : Below w.heap.size w W) => clone_any W w.heap.size A0 n0 c0 s.d0 ((Reads.of_own hx.r0).below hb) hb.size (by rw [← hx.len0]; exact ok.n0)
  have hc1 := fun W (hb : Below w.heap.size w W) => clone_any W w.heap.size A1 n1 c1 s.d1 ((Reads.of_own hx.r1).below hb) hb.size (by rw [← hx.len1]; exact ok.n1)
  obtain ⟨v0, h0⟩ : ∃ v, s.cap = v := ⟨_, rfl⟩
  obtain ⟨v2, h2⟩ : ∃ v, s.sure = v := ⟨_, rfl⟩
  obtain ⟨v4, h4⟩ : ∃ v, s.h0 = v := ⟨_, rfl⟩
  obtain ⟨v6, h6⟩ : ∃ v, s.h1 = v := ⟨_, rfl⟩
  obtain ⟨v7, h7⟩ : ∃ v, s.last = v := ⟨_, rfl⟩
  obtain ⟨v8, h8⟩ : ∃ v, s.steps = v := ⟨_, rfl⟩
  rw [h0] at x0
  rw [h2] at x2
  rw [h4] at x4
  rw [h6] at x6
  rw [h7] at x7
  rw [h8] at x8
  have H := Lib.hid (And.intro ok (And.intro hx (And.intro hh (And.intro h0 (And.intro h2 (And.intro h4 (And.intro h6 (And.intro h7 h8))))))))
  clear hx hh ok h0 h2 h4 h6 h7 h8
  go_enter Try.func23, Try.ntmps23
  go_wp2_with (first
    | (go_at_call 41; refine ht.mono ?_; clear ht; rintro e w' ⟨rfl, rfl⟩)
    | (go_at_call 24; refine (hcl _ ((Below.refl _ w).alloc (Nat.le_refl _) _)).mono ?_; rintro e w1 ⟨Ac, cc, rfl, oc, m1⟩; have hq := (Blk.new w 54 _).below m1 (by simp); have nw : Below w.heap.size w w1 := ((Below.refl _ w).alloc (Nat.le_refl _) _).trans (m1.mono (by simp)); have g1 := (hq.cell 1).trans rfl; have g3 := (hq.cell 3).trans rfl; have g4 := (hq.cell 4).trans rfl; have g5 := (hq.cell 5).trans rfl; have g6 := (hq.cell 6).trans rfl; have gf := hq.frozen))
  have hq2 := hq.set_ 1 (.slice Ac nl cc)
  have n2 : Below w.heap.size w (w1.setCell ⟨w.heap.size, 1, none⟩ (.slice Ac nl cc)) := nw.setCell (p := ⟨w.heap.size, 1, none⟩) (Nat.le_refl _) _
  have o2 := own_setCell (p := ⟨w.heap.size, 1, none⟩) (own_mono oc (show w.heap.size + 1 ≤ _ by simp)) (fun e => by have := (oc.lt _ e).1; simp at this; omega) (.slice Ac nl cc)
  have hlt := hq2.lt
  have HC : CR w (w1.setCell ⟨w.heap.size, 1, none⟩ (.slice Ac nl cc)) (w1.setCell ⟨w.heap.size, 1, none⟩ (.slice Ac nl cc)) v0 Ac nl cc v2 n0 v4 n1 v6 v7 v8 s.log s.d0 s.d1 0 A0 A1 c0 c1 :=
    ⟨hq2, o2, fun k hk => (o2.lt k (by rw [ownBlock_slice]; exact hk)).2, fun h => absurd h (by omega), fun h => absurd h (by omega), n2, Nat.le_refl _, hlt⟩
  replace HC := Lib.hid HC
  clear hcl m1 g1 g3 g4 g5 g6 gf oc nw hq hq2 n2 o2 hlt
  generalize w1.setCell ⟨w.heap.size, 1, none⟩ (.slice Ac nl cc) = W at *
  go_loopw [20] (fun iv wr => ∃ (k : Nat) (B0 B1 : Option Addr) (e0 e1 : Nat), k ≤ 2 ∧ iv = .int .i64 k ∧ CR w W wr v0 Ac nl cc v2 n0 v4 n1 v6 v7 v8 s.log s.d0 s.d1 k B0 B1 e0 e1) (fun iv _ => 2 - (intOf iv).toNat)
  case atStart => exact ⟨0, A0, A1, c0, c1, by omega, rfl, HC.out⟩
  case round =>
    clear HC
    have i0 : ∀ w, (Instr.index 52 (.agg #[.slice A0 n0 c0, .bool v4, .slice A1 n1 c1, .bool v6]) (.int .i64 0)).run Try.prog w = .ok (.agg #[.slice A0 n0 c0, .bool v4]) w := fun _ => by kernel_rfl
    have i1 : ∀ w, (Instr.index 52 (.agg #[.slice A0 n0 c0, .bool v4, .slice A1 n1 c1, .bool v6]) (.int .i64 1)).run Try.prog w = .ok (.agg #[.slice A1 n1 c1, .bool v6]) w := fun _ => by kernel_rfl
    obtain ⟨k, B0, B1, e0, e1, hk, rfl, hC⟩ := hrel
    have g3 := (hC.blk.cell 3).trans rfl
    have g5 := (hC.blk.cell 5).trans rfl
    have gf := hC.blk.frozen
    have hbw := hC.below
    have HR := Lib.hid hC
    clear hC
    obtain rfl | rfl | rfl : k = 0 ∨ k = 1 ∨ k = 2 := by omega
    · go_wp2_with (go_at_call 24; refine (hc0 _ (hbw.alloc hbw.size _)).mono ?_; rintro e w2 ⟨A2, c2, rfl, o2, m2⟩; have l2 := HR.out.blk.lt; have d3 := (m2.cell (p := ⟨w.heap.size, 3, none⟩) (by simp; omega)).trans ((World.cell?_alloc_lt _ _ ⟨w.heap.size, 3, none⟩ (by simpa using l2)).trans g3); have df := m2.frozen (p := ⟨w.heap.size, 3, none⟩) (by simp; omega))
      go_roundw
      case rel => exact ⟨1, _, _, _, _, by omega, rfl, HR.out.step0 o2 m2⟩
      case measure => simp [intOf]
    · go_wp2_with (go_at_call 24; refine (hc1 _ (hbw.alloc hbw.size _)).mono ?_; rintro e w2 ⟨A2, c2, rfl, o2, m2⟩; have l2 := HR.out.blk.lt; have d3 := (m2.cell (p := ⟨w.heap.size, 5, none⟩) (by simp; omega)).trans ((World.cell?_alloc_lt _ _ ⟨w.heap.size, 5, none⟩ (by simpa using l2)).trans g5); have df := m2.frozen (p := ⟨w.heap.size, 5, none⟩) (by simp; omega))
      go_roundw
      case rel => exact ⟨2, _, _, _, _, by omega, rfl, HR.out.step1 o2 m2⟩
      case measure => simp [intOf]
    · go_wp2
      go_ret
      obtain ⟨ok, hx, hh, V⟩ := H.out
      obtain ⟨rfl, rfl, rfl, rfl, rfl, rfl⟩ := V
      obtain ⟨S', h1, h2⟩ := HR.out.done s ok
      exact ⟨_, S', rfl, h1, h2, hbw⟩

set_option maxHeartbeats 4000000 in
set_option maxRecDepth 100000 in
theorem stopP (h : PD w p S s) (keep : Int) : Calls Try.prog 14 #[.pointer (some ⟨p, 0, none⟩), .int .i64 keep] w fun e w' => MadeP w (s.stopS keep) e w' := by
  obtain ⟨ok, Al, nl, cl, A0, n0, c0, A1, n1, c1, hx, hh⟩ := h
  have ht := thereYes w p s.cap ok.cap1 hx.x0
  have hp : p < w.heap.size := hx.blk.lt
  have x0 := hx.x0
  have x1 := hx.x1
  have x2 := hx.x2
  have x3 := hx.x3
  have x4 := hx.x4
  have x5 := hx.x5
  have x6 := hx.x6
  have x7 := hx.x7
  have x8 := hx.x8
  have hl := hx.len
  have hcap := own_cap hx.rl
  have b2 := ok.nl
  have b3 := ok.sure
  have hL := DS.left_le ok keep
  unfold DS.left at hL
  rw [hl] at b2 b3 hL
  obtain ⟨kt, hkt⟩ : ∃ kt, keep.toNat = kt := ⟨_, rfl⟩
  obtain ⟨rs, hrs⟩ : ∃ rs, nl - s.sure = rs := ⟨_, rfl⟩
  obtain ⟨L, hLL⟩ : ∃ L, s.sure + min kt rs = L := ⟨_, rfl⟩
  have eL : s.left keep = L := by unfold DS.left; rw [hl, hkt, hrs, hLL]
  rw [hkt, hrs, hLL] at hL
  have hcl := fun W (hb : Below w.heap.size w W) => clone_any W w.heap.size Al L cl (s.log.take L) (by have := (Reads.of_own (own_take hx.rl hL)).below hb; rwa [← byts_take] at this) hb.size (by omega)
  have hc0 := fun W (hb : Below w.heap.size w W) => clone_any W w.heap.size A0 n0 c0 s.d0 ((Reads.of_own hx.r0).below hb) hb.size (by rw [← hx.len0]; exact ok.n0)
  have hc1 := fun W (hb : Below w.heap.size w W) => clone_any W w.heap.size A1 n1 c1 s.d1 ((Reads.of_own hx.r1).below hb) hb.size (by rw [← hx.len1]; exact ok.n1)
  obtain ⟨v0, h0⟩ : ∃ v, s.cap = v := ⟨_, rfl⟩
  obtain ⟨v2, h2⟩ : ∃ v, s.sure = v := ⟨_, rfl⟩
  obtain ⟨v4, h4⟩ : ∃ v, s.h0 = v := ⟨_, rfl⟩
  obtain ⟨v6, h6⟩ : ∃ v, s.h1 = v := ⟨_, rfl⟩
  obtain ⟨v7, h7⟩ : ∃ v, s.last = v := ⟨_, rfl⟩
  rw [h0] at x0
  rw [h2] at x2 b3 hrs hLL
  rw [h4] at x4
  rw [h6] at x6
  rw [h7] at x7
  have u1 : IntKind.i64.wrap ((nl : Int) - (v2 : Int)) = (rs : Int) := by rw [IntWalk.i64_in _ (by omega)]; omega
  have hmm : ∃ d : Nat, v2 + d = L ∧ ((0 ≤ keep ∧ keep ≤ (rs : Int) ∧ keep = d) ∨ (0 ≤ keep ∧ ¬ keep ≤ (rs : Int) ∧ rs = d) ∨ (¬ 0 ≤ keep ∧ d = 0)) := ⟨min kt rs, hLL, by omega⟩
  obtain ⟨d, hd, hcase⟩ := hmm
  have u2 : IntKind.i64.wrap ((v2 : Int) + (d : Int)) = (L : Int) := by rw [IntWalk.i64_in _ (by omega)]; omega
  have q5 : (L : Int) ≤ (cl : Int) := by omega
  have q6 : (0 : Int) ≤ (L : Int) := by omega
  have H := Lib.hid (And.intro ok (And.intro hx (And.intro hh (And.intro h0 (And.intro h4 (And.intro h6 (And.intro h7 eL)))))))
  clear hx hh ok h0 h2 h4 h6 h7 hkt hrs hLL eL hd hl b2
  go_enter Try.func14, Try.ntmps14
  go_wp2_with (go_at_call 41; refine ht.mono ?_; clear ht; rintro e w' ⟨rfl, rfl⟩)
  go_cut [5] from 12 to 30 (fun v wx => v = .int .i64 L ∧ ∃ n, wx = w.drewN n)
  case first =>
    rcases hcase with ⟨a1, a2, rfl⟩ | ⟨a1, a2, rfl⟩ | ⟨a1, rfl⟩
    · go_quiet (fail)
      go_wp2
      go_meet
      exact ⟨rfl, _, rfl⟩
    · go_quiet (fail)
      go_wp2
      go_meet
      exact ⟨rfl, _, rfl⟩
    · have u3 : IntKind.i64.wrap (v2 : Int) = (L : Int) := by simpa using u2
      go_quiet (fail)
      go_wp2
      go_meet
      exact ⟨rfl, _, rfl⟩
  case rest =>
  obtain ⟨rfl, nq, rfl⟩ := hcut
  clear hcase u2 u1
  have hD : ∀ W, Below (w.drewN nq).heap.size (w.drewN nq) W → Below w.heap.size w W := fun W hb => (below_drewN (Below.refl _ w) nq).trans (hb.mono (by simp))
  have hM : ∀ e w', MadeP (w.drewN nq) (s.stopS keep) e w' → MadeP w (s.stopS keep) e w' := fun e w' ⟨q, S', h1, h2, h3, h4⟩ => ⟨q, S', h1, h2, fun k hk => by have := h3 k hk; simpa using this, hD _ h4⟩
  have y0 : (w.drewN nq).cell? ⟨p, 0, none⟩ = some (.int .i64 v0) := x0
  have y1 : (w.drewN nq).cell? ⟨p, 1, none⟩ = some (.slice Al nl cl) := x1
  have y2 : (w.drewN nq).cell? ⟨p, 2, none⟩ = some (.int .i64 v2) := x2
  have y3 : (w.drewN nq).cell? ⟨p, 3, none⟩ = some (.slice A0 n0 c0) := x3
  have y4 : (w.drewN nq).cell? ⟨p, 4, none⟩ = some (.bool v4) := x4
  have y5 : (w.drewN nq).cell? ⟨p, 5, none⟩ = some (.slice A1 n1 c1) := x5
  have y6 : (w.drewN nq).cell? ⟨p, 6, none⟩ = some (.bool v6) := x6
  have y7 : (w.drewN nq).cell? ⟨p, 7, none⟩ = some (.int .i64 v7) := x7
  have y8 : (w.drewN nq).cell? ⟨p, 8, none⟩ = some (.int .i64 s.steps) := x8
  have hpu : p < (w.drewN nq).heap.size := by simpa using hp
  replace hcl := fun W (hb : Below (w.drewN nq).heap.size (w.drewN nq) W) => hcl W (hD W hb)
  replace hc0 := fun W (hb : Below (w.drewN nq).heap.size (w.drewN nq) W) => hc0 W (hD W hb)
  replace hc1 := fun W (hb : Below (w.drewN nq).heap.size (w.drewN nq) W) => hc1 W (hD W hb)
  clear x0 x1 x2 x3 x4 x5 x6 x7 x8 hp hD
  generalize w.drewN nq = u at *
  go_wp2_with (go_at_call 24; refine (hcl _ ((Below.refl _ u).alloc (Nat.le_refl _) _)).mono ?_; rintro e w1 ⟨Ac, cc, rfl, oc, m1⟩; have hq := (Blk.new u 54 _).below m1 (by simp); have nw : Below u.heap.size u w1 := ((Below.refl _ u).alloc (Nat.le_refl _) _).trans (m1.mono (by simp)); have g1 := (hq.cell 1).trans rfl; have g2 := (hq.cell 2).trans rfl; have g3 := (hq.cell 3).trans rfl; have g4 := (hq.cell 4).trans rfl; have g5 := (hq.cell 5).trans rfl; have g6 := (hq.cell 6).trans rfl; have g8 := (hq.cell 8).trans rfl; have gf := hq.frozen)
  have hq2 := ((hq.set_ 1 (.slice Ac L cc)).set_ 2 (.int .i64 L)).set_ 8 (.int .i64 0)
  have n2 := ((nw.setCell (p := ⟨u.heap.size, 1, none⟩) (Nat.le_refl _) (.slice Ac L cc)).setCell (p := ⟨u.heap.size, 2, none⟩) (Nat.le_refl _) (.int .i64 L)).setCell (p := ⟨u.heap.size, 8, none⟩) (Nat.le_refl _) (.int .i64 0)
  have oc' := own_mono oc (show u.heap.size + 1 ≤ _ by simp)
  have hne : ∀ W : World, W.ownsRow (u.heap.size + 1) 5 1 (.slice Ac L cc) L (byts (s.log.take L)) → ∀ j x, (W.setCell ⟨u.heap.size, j, none⟩ x).ownsRow (u.heap.size + 1) 5 1 (.slice Ac L cc) L (byts (s.log.take L)) := fun W hW j x =>
    own_setCell (p := ⟨u.heap.size, j, none⟩) hW (fun e => by have := (hW.lt _ e).1; simp at this; omega) x
  have o2 := hne _ (hne _ (hne _ oc' 1 (.slice Ac L cc)) 2 (.int .i64 L)) 8 (.int .i64 0)
  have hlt := hq2.lt
  have HC : CR u (((w1.setCell ⟨u.heap.size, 1, none⟩ (.slice Ac L cc)).setCell ⟨u.heap.size, 2, none⟩ (.int .i64 L)).setCell ⟨u.heap.size, 8, none⟩ (.int .i64 0)) (((w1.setCell ⟨u.heap.size, 1, none⟩ (.slice Ac L cc)).setCell ⟨u.heap.size, 2, none⟩ (.int .i64 L)).setCell ⟨u.heap.size, 8, none⟩ (.int .i64 0)) v0 Ac L cc L n0 v4 n1 v6 v7 0 (s.log.take L) s.d0 s.d1 0 A0 A1 c0 c1 :=
    ⟨hq2, o2, fun k hk => (o2.lt k (by rw [ownBlock_slice]; exact hk)).2, fun h => absurd h (by omega), fun h => absurd h (by omega), n2, Nat.le_refl _, hlt⟩
  replace HC := Lib.hid HC
  clear hcl m1 g1 g2 g3 g4 g5 g6 g8 gf oc nw hq hq2 n2 o2 hlt hne oc'
  generalize ((w1.setCell ⟨u.heap.size, 1, none⟩ (.slice Ac L cc)).setCell ⟨u.heap.size, 2, none⟩ (.int .i64 L)).setCell ⟨u.heap.size, 8, none⟩ (.int .i64 0) = W at *
  go_loopw [46] (fun iv wr => ∃ (k : Nat) (B0 B1 : Option Addr) (e0 e1 : Nat), k ≤ 2 ∧ iv = .int .i64 k ∧ CR u W wr v0 Ac L cc L n0 v4 n1 v6 v7 0 (s.log.take L) s.d0 s.d1 k B0 B1 e0 e1) (fun iv _ => 2 - (intOf iv).toNat)
  case atStart => exact ⟨0, A0, A1, c0, c1, by omega, rfl, HC.out⟩
  case round =>
    clear HC
    have i0 : ∀ w, (Instr.index 52 (.agg #[.slice A0 n0 c0, .bool v4, .slice A1 n1 c1, .bool v6]) (.int .i64 0)).run Try.prog w = .ok (.agg #[.slice A0 n0 c0, .bool v4]) w := fun _ => by kernel_rfl
    have i1 : ∀ w, (Instr.index 52 (.agg #[.slice A0 n0 c0, .bool v4, .slice A1 n1 c1, .bool v6]) (.int .i64 1)).run Try.prog w = .ok (.agg #[.slice A1 n1 c1, .bool v6]) w := fun _ => by kernel_rfl
    obtain ⟨k, B0, B1, e0, e1, hk, rfl, hC⟩ := hrel
    have g3 := (hC.blk.cell 3).trans rfl
    have g5 := (hC.blk.cell 5).trans rfl
    have gf := hC.blk.frozen
    have hbw := hC.below
    have HR := Lib.hid hC
    clear hC
    obtain rfl | rfl | rfl : k = 0 ∨ k = 1 ∨ k = 2 := by omega
    · go_wp2_with (go_at_call 24; refine (hc0 _ (hbw.alloc hbw.size _)).mono ?_; rintro e w2 ⟨A2, c2, rfl, o2, m2⟩; have l2 := HR.out.blk.lt; have d3 := (m2.cell (p := ⟨u.heap.size, 3, none⟩) (by simp; omega)).trans ((World.cell?_alloc_lt _ _ ⟨u.heap.size, 3, none⟩ (by simpa using l2)).trans g3); have df := m2.frozen (p := ⟨u.heap.size, 3, none⟩) (by simp; omega))
      go_roundw
      case rel => exact ⟨1, _, _, _, _, by omega, rfl, HR.out.step0 o2 m2⟩
      case measure => simp [intOf]
    · go_wp2_with (go_at_call 24; refine (hc1 _ (hbw.alloc hbw.size _)).mono ?_; rintro e w2 ⟨A2, c2, rfl, o2, m2⟩; have l2 := HR.out.blk.lt; have d3 := (m2.cell (p := ⟨u.heap.size, 5, none⟩) (by simp; omega)).trans ((World.cell?_alloc_lt _ _ ⟨u.heap.size, 5, none⟩ (by simpa using l2)).trans g5); have df := m2.frozen (p := ⟨u.heap.size, 5, none⟩) (by simp; omega))
      go_roundw
      case rel => exact ⟨2, _, _, _, _, by omega, rfl, HR.out.step1 o2 m2⟩
      case measure => simp [intOf]
    · go_wp2
      go_ret
      obtain ⟨ok, hx, hh, V⟩ := H.out
      obtain ⟨rfl, rfl, rfl, rfl, eL⟩ := V
      have ok2 := ok.stopS keep
      have hr := HR.out
      rw [← eL] at hr
      obtain ⟨S', h1, h2⟩ := CR.done (s.stopS keep) ok2 hr
      exact hM _ _ ⟨_, S', rfl, h1, h2, hbw⟩
end
end Go.Proofs.Ytapgcglpkilofaa
