/- The walk of wicketlaw01.WireBack: it answers true where the bytes that come in are as many as a memory holds. Conditions: those that it states. -/
import Derived.Test.YtpnagblbhlglhaaWireKnown
import Derived.Test.YtpnagblbhlglhaaWireBackLaw
namespace Go.Proofs.Ytpnagblbhlglhaa
open Go.RowKit

/-- Four pieces told before, joined. -/
theorem join4 (W : World) (A1 A2 A3 A4 : Option Addr) (c1 c2 c3 c4 : Nat) (l1 l2 l3 l4 : List Nat) (h1 : Reads W W.heap.size 1 A1 l1.length (byts l1)) (h2 : Reads W W.heap.size 1 A2 l2.length (byts l2)) (h3 : Reads W W.heap.size 1 A3 l3.length (byts l3)) (h4 : Reads W W.heap.size 1 A4 l4.length (byts l4))
    (s1 : Small l1) (s2 : Small l2) (s3 : Small l3) (s4 : Small l4) (hl : (l1 ++ (l2 ++ (l3 ++ l4))).length ≤ 140737488355318) :
    Calls Try.prog 25 #[.slice (some ⟨W.heap.size, 0, none⟩) 4 4] (W.alloc (.cells #[.slice A1 l1.length c1, .slice A2 l2.length c2, .slice A3 l3.length c3, .slice A4 l4.length c4] 24)) fun e w' =>
      ∃ A c, e = .returned (.slice A (l1 ++ (l2 ++ (l3 ++ l4))).length c) ∧ w'.ownsRow W.heap.size 5 1 (.slice A (l1 ++ (l2 ++ (l3 ++ l4))).length c) (l1 ++ (l2 ++ (l3 ++ l4))).length (byts (l1 ++ (l2 ++ (l3 ++ l4)))) ∧ Below W.heap.size W w' := by
  have hl' := hl
  simp only [List.length_append] at hl'
  have hbk := Blk.new W 24 #[.slice A1 l1.length c1, .slice A2 l2.length c2, .slice A3 l3.length c3, .slice A4 l4.length c4]
  have hr : Reads2 (W.alloc (.cells #[.slice A1 l1.length c1, .slice A2 l2.length c2, .slice A3 l3.length c3, .slice A4 l4.length c4] 24)) (W.heap.size + 1) (some ⟨W.heap.size, 0, none⟩) 4 [l1, l2, l3, l4] := by
    refine ⟨rfl, fun k hk => ?_⟩
    rcases (show k = 0 ∨ k = 1 ∨ k = 2 ∨ k = 3 by simp at hk; omega) with rfl | rfl | rfl | rfl
    · exact ⟨_, A1, c1, rfl, by simp, (hbk.cell 0).trans rfl, (h1.alloc (Nat.le_refl _) _).more (by omega), s1, by show l1.length ≤ _; omega⟩
    · exact ⟨_, A2, c2, rfl, by simp, by rw [addr_add]; exact (hbk.cell 1).trans rfl, (h2.alloc (Nat.le_refl _) _).more (by omega), s2, by show l2.length ≤ _; omega⟩
    · exact ⟨_, A3, c3, rfl, by simp, by rw [addr_add]; exact (hbk.cell 2).trans rfl, (h3.alloc (Nat.le_refl _) _).more (by omega), s3, by show l3.length ≤ _; omega⟩
    · exact ⟨_, A4, c4, rfl, by simp, by rw [addr_add]; exact (hbk.cell 3).trans rfl, (h4.alloc (Nat.le_refl _) _).more (by omega), s4, by show l4.length ≤ _; omega⟩
  have e : [l1, l2, l3, l4].flatten = l1 ++ (l2 ++ (l3 ++ l4)) := by simp
  have hj := join_tells _ _ _ 4 4 _ hr (by simp) (by omega) (by rw [e]; exact hl)
  rw [e] at hj
  refine hj.mono ?_
  rintro e w' ⟨A, c, rfl, ho, hb⟩
  have hb0 : Below W.heap.size W (W.alloc (.cells #[.slice A1 l1.length c1, .slice A2 l2.length c2, .slice A3 l3.length c3, .slice A4 l4.length c4] 24)) := (Below.refl _ W).alloc (Nat.le_refl _) _
  exact ⟨A, c, rfl, own_mono ho (by simp), hb0.trans (hb.mono (by simp))⟩

set_option maxHeartbeats 4000000 in
set_option maxRecDepth 100000 in
theorem wireBack_walk (w : World) (N : Nat) (S : Int) (F : Bool) (A0 A1 : Option Addr) (n0 c0 n1 c1 : Nat) (bs b : List Nat) (hN : N < 18446744073709551616) (hS0 : -9223372036854775808 ≤ S) (hS1 : S ≤ 9223372036854775807)
    (h0 : Reads w w.heap.size 1 A0 n0 (byts bs)) (hs0 : Small bs) (hn0 : n0 ≤ 140737488351232) (h1 : Reads w w.heap.size 1 A1 n1 (byts b)) (hs1 : Small b) (hn1 : n1 ≤ 140737488351232) (hcap1 : n1 ≤ c1) :
    Calls Try.prog 6 #[.agg #[.int .u64 N, .int .i64 S, .bool F, .slice A0 n0 c0], .slice A1 n1 c1] w fun e w' => e = .returned (.bool true) ∧ Below w.heap.size w w' := by
  obtain ⟨w0, hw0⟩ : ∃ w0, w.alloc (.cells #[.int .u64 N, .int .i64 S, .bool F, .slice A0 n0 c0] 37) = w0 := ⟨_, rfl⟩
  have hb0 : Below w.heap.size w w0 := by subst hw0; exact (Below.refl _ w).alloc (Nat.le_refl _) _
  have hbk : Blk w0 w.heap.size 37 #[.int .u64 N, .int .i64 S, .bool F, .slice A0 n0 c0] := by subst hw0; exact Blk.new w 37 _
  have hlb : bs.length = n0 := by have := h0.1; rw [byts_length] at this; omega
  have hfl : Small (flagF F) ∧ (flagF F).length = 1 := by cases F <;> exact ⟨small_of (by decide), rfl⟩
  have hback := back_of N S F n0 bs hN (zig_lt hS0 hS1) hlb (by omega) hs0 hfl.1 hfl.2
  obtain ⟨k1, hk1⟩ : ∃ k, (numF N).length = k := ⟨_, rfl⟩
  obtain ⟨k2, hk2⟩ : ∃ k, (numF (zig S)).length = k := ⟨_, rfl⟩
  obtain ⟨k3, hk3⟩ : ∃ k, (numF n0).length = k := ⟨_, rfl⟩
  rw [hk1, hk2, hk3] at hback
  clear hk1 hk2 hk3 hfl
  obtain ⟨L1, hL1⟩ : ∃ L, numF N = L := ⟨_, rfl⟩
  obtain ⟨L2, hL2⟩ : ∃ L, numF (zig S) = L := ⟨_, rfl⟩
  obtain ⟨L3, hL3⟩ : ∃ L, numF n0 ++ bs = L := ⟨_, rfl⟩
  obtain ⟨L4, hL4⟩ : ∃ L, flagF F = L := ⟨_, rfl⟩
  rw [hL1, hL2, hL3, hL4] at hback
  have z1 : Small L1 ∧ L1.length ≤ 10 := by subst hL1; exact ⟨numF_small N, numF_le N hN⟩
  have z2 : Small L2 ∧ L2.length ≤ 10 := by subst hL2; exact ⟨numF_small _, numF_le _ (zig_lt hS0 hS1)⟩
  have z3 : Small L3 ∧ L3.length ≤ 140737488351242 := by subst hL3; exact ⟨(numF_small n0).append hs0, by rw [List.length_append]; have := numF_le n0 (by omega); omega⟩
  have z4 : Small L4 ∧ L4.length ≤ 1 := by subst hL4; cases F <;> exact ⟨small_of (by decide), Nat.le_refl _⟩
  have hcell : ∀ W, Below w0.heap.size w0 W → W.cell? ⟨w.heap.size, 0, none⟩ = some (.int .u64 N) ∧ W.cell? ⟨w.heap.size, 1, none⟩ = some (.int .i64 S) ∧ W.cell? ⟨w.heap.size, 2, none⟩ = some (.bool F) ∧ W.cell? ⟨w.heap.size, 3, none⟩ = some (.slice A0 n0 c0) := by
    intro W hW
    have y := hbk.below hW hbk.lt
    exact ⟨(y.cell 0).trans rfl, (y.cell 1).trans rfl, (y.cell 2).trans rfl, (y.cell 3).trans rfl⟩
  have lift : ∀ (W : World) (f : FuncId) (args : Array Value) (L : List Nat), Below w0.heap.size w0 W → Tells W f args L →
      Calls Try.prog f args W fun e w' => ∃ A c, e = .returned (.slice A L.length c) ∧ w'.ownsRow W.heap.size 5 1 (.slice A L.length c) L.length (byts L) ∧ Below W.heap.size W w' ∧ Below w0.heap.size w0 w' ∧ w'.cell? ⟨w.heap.size, 0, none⟩ = some (.int .u64 N) ∧ w'.cell? ⟨w.heap.size, 1, none⟩ = some (.int .i64 S) ∧ w'.cell? ⟨w.heap.size, 2, none⟩ = some (.bool F) ∧ w'.cell? ⟨w.heap.size, 3, none⟩ = some (.slice A0 n0 c0) := by
    intro W f args L hW ht
    refine Calls.mono ht ?_
    rintro e w' ⟨A, c, rfl, ho, hb⟩
    have hb' := hW.trans (hb.mono hW.size)
    exact ⟨A, c, rfl, ho, hb, hb', hcell w' hb'⟩
  have q24 := fun (W : World) (hW : Below w0.heap.size w0 W) => lift W 24 _ L1 hW (by rw [← hL1]; exact number_tells W N hN)
  have q28 := fun (W : World) (hW : Below w0.heap.size w0 W) => lift W 28 _ L2 hW (by rw [← hL2]; exact signed_tells W S hS0 hS1)
  have q23 := fun (W : World) (hW : Below w0.heap.size w0 W) => lift W 23 _ L3 hW (by rw [← hL3]; exact bytes_tells W w.heap.size A0 n0 c0 bs ((h0.below hb0).below (hW.mono hb0.size)) (by have := hW.size; have := hb0.size; omega) (by omega))
  have q30 := fun (W : World) (hW : Below w0.heap.size w0 W) => lift W 30 _ L4 hW (by rw [← hL4]; exact flag_tells W F)
  have bel0 : Below w0.heap.size w0 w0.drew := (Below.refl _ w0).drew
  obtain ⟨d0, d1, d2, d3⟩ := hcell _ bel0
  obtain ⟨LL, hLL⟩ : ∃ LL, L1 ++ (L2 ++ (L3 ++ L4)) = LL := ⟨_, rfl⟩
  rw [hLL] at hback
  clear hL1 hL2 hL3 hL4 lift
  go_enter Try.func6, Try.ntmps6
  go_wp2
  clear hw0
  go_region_held3 (fun w' => w'.cell? ⟨w.heap.size, 0, none⟩ = some (.int .u64 N) ∧ w'.cell? ⟨w.heap.size, 1, none⟩ = some (.int .i64 S) ∧ w'.cell? ⟨w.heap.size, 2, none⟩ = some (.bool F) ∧ w'.cell? ⟨w.heap.size, 3, none⟩ = some (.slice A0 n0 c0)) (first | (refine ⟨?_, ?_, ?_, ?_⟩ <;> assumption) | go_keep) (first
    | (go_at_call 24; refine (q24 _ (by assumption)).mono ?_; rintro e w1 ⟨B1, b1, rfl, o1, m1, g1, x10, x11, x12, x13⟩)
    | (go_at_call 28; refine (q28 _ (by assumption)).mono ?_; rintro e w2 ⟨B2, b2, rfl, o2, m2, g2, x20, x21, x22, x23⟩)
    | (go_at_call 23; refine (q23 _ (by assumption)).mono ?_; rintro e w3 ⟨B3, b3, rfl, o3, m3, g3, x30, x31, x32, x33⟩)
    | (go_at_call 30; refine (q30 _ (by assumption)).mono ?_; rintro e w4 ⟨B4, b4, rfl, o4, m4, g4, x40, x41, x42, x43⟩; have r1 := (((((Reads.of_own o1).below m2).more m2.size).below m3).more m3.size).below m4; have r2 := (((Reads.of_own o2).below m3).more m3.size).below m4; have r3 := (Reads.of_own o3).below m4; have hj := join4 w4 B1 B2 B3 B4 b1 b2 b3 b4 L1 L2 L3 L4 (r1.more m4.size) (r2.more m4.size) (r3.more m4.size) (Reads.of_own o4) z1.1 z2.1 z3.1 z4.1 (by simp only [List.length_append]; omega); rw [hLL] at hj)
    | (go_at_call 25; refine hj.mono ?_; rintro e w5 ⟨B5, b5, rfl, o5, m5⟩; obtain ⟨x50, x51, x52, x53⟩ := hcell w5 (g4.trans (m5.mono g4.size))))
  have zs := hback.small
  have zl : LL.length ≤ 140737488351300 := by have := hback.len; have := hback.le; omega
  clear hLL q24 q28 q23 q30 x10 x11 x12 x13 x20 x21 x22 x23 x30 x31 x32 x33 x40 x41 x42 x43 d0 d1 d2 d3 z1 z2 z3 z4 r1 r2 r3 o1 o2 o3 o4 bel0
  have bw5 : Below w0.heap.size w0 w5 := g4.trans (m5.mono g4.size)
  have bww5 : Below w.heap.size w w5 := hb0.trans (bw5.mono hb0.size)
  have o34 := open_any w5 _ B5 _ b5 LL (Reads.of_own o5) zs (Nat.le_refl _) (by omega)
  clear m5 g4 g3 g2 g1 m2 m3 m4 o5
  go_wp2_with (go_at_call 34; refine o34.mono ?_; clear o34; rintro e w6 ⟨rg, RA, rc, rfl, hR, hrg, hRA, m6⟩)
  -- the reader: r = rg; everything of it lies at or behind w5's end
  have hfr : ∀ W W' : World, Fr (fun k => k = rg) W W' → Below w5.heap.size w5 W → Below w5.heap.size w5 W' := fun W W' hf hW => hW.trans (hf.below (fun k hk => by omega) hW.size)
  have r1 := rdnum_any w6 rg RA rc LL 0 hR
  rw [List.drop_zero, hback.p1.1, hback.p1.2.1, hback.p1.2.2, Nat.zero_add] at r1
  go_wp2_with (go_at_call 35; refine r1.mono ?_; clear r1; rintro e w7 ⟨rfl, hR7, f7⟩)
  have m7 := hfr _ _ f7 m6
  have r2 := rdsigned_any w7 rg RA rc LL k1 hR7
  rw [hback.p2.1, hback.p2.2.1, hback.p2.2.2, unzig_zig] at r2
  clear hR hR7 f7
  have hcell5 := fun (W : World) (hW : Below w5.heap.size w5 W) => hcell W (bw5.trans (hW.mono bw5.size))
  go_wp2_with (first
    | (go_at_call 36; refine r2.mono ?_; clear r2; rintro e w8 ⟨rfl, hR8, f8⟩; have m8 := hfr _ _ f8 m7; obtain ⟨y0, y1, y2, y3⟩ := hcell5 w8 m8; have r3 := rdbytes_ok w8 rg RA rc LL (k1 + k2) n0 (by omega) hR8 hback.p4; rw [hback.p3.1, hback.p3.2, hback.p5] at r3)
    | (go_at_call 37; refine r3.mono ?_; clear r3; rintro e w9 ⟨B9, b9, rfl, o9, hR9, f9⟩; have m9 := hfr _ _ f9 m8; have hw9 : ∀ k, (Value.slice B9 n0 b9).ownBlock = some k → ¬ k = rg := (fun k hk h => by have := own_base o9 k hk; have := hR8.lt; omega); have r4 := rdflag_any w9 rg RA rc LL (k1 + k2 + k3 + n0) hR9; rw [hback.p6.1, hback.p6.2, if_pos rfl] at r4)
    | (go_at_call 38; refine r4.mono ?_; clear r4; rintro e wA ⟨rfl, hRA', fA⟩; have mA := hfr _ _ fA m9; obtain ⟨y0, y1, y2, y3⟩ := hcell5 wA mA; have hAA := own_fr o9 fA (fun k hk h => hw9 k hk h); have t1 := run_str (P := Try.prog) (src := 24) (dst := 9) (c := b9) rfl rfl rfl (Reads.of_own hAA) hs0; have t2 := run_str (P := Try.prog) (src := 24) (dst := 9) (c := c0) rfl rfl rfl ((h0.below bww5).below (mA.mono bww5.size)) hs0; have e5 := end_any wA rg RA rc LL _ hRA'; rw [if_neg (by have := hback.len; omega)] at e5)
    | (go_at_call 39; refine (num_any _ _).mono ?_; rintro e w' ⟨rfl, rfl⟩)
    | (go_at_call 40; refine e5.mono ?_; clear e5; rintro e wB ⟨rfl, mB, rfl⟩))
  have mC : Below w.heap.size w (wA.drewN mB) := below_drewN (bww5.trans (mA.mono bww5.size)) mB
  generalize hwx : wA.drewN mB = wC at mC ⊢
  clear hwx t1 t2 y0 y1 y2 y3 hAA hw9 o9 hR9 hR8 hRA' fA f9 f8 hcell5 hcell hfr mA m9 m8 m7 m6 bw5 bww5 hback hbk
  have hlb1 : b.length = n1 := by have := h1.1; rw [byts_length] at this; omega
  have o34 := open_any wC _ A1 n1 c1 b (h1.below mC) hs1 mC.size (by omega)
  go_wp2_with (go_at_call 34; refine o34.mono ?_; clear o34; rintro e w2 ⟨r2, R2, q2, rfl, hR2, hr2, hR2b, m2⟩)
  have hfr2 : ∀ W W' : World, Fr (fun k => k = r2) W W' → Below w.heap.size w W → Below w.heap.size w W' := fun W W' hf hW => hW.trans (hf.below (fun k hk => by have := mC.size; omega) hW.size)
  have mD : Below w.heap.size w w2 := mC.trans (m2.mono mC.size)
  by_cases hE : bytE b 0 n1 = 0
  · have hb63 : b.length < 18446744073709551616 := by omega
    obtain ⟨V, K, y, hrd⟩ := read_of b hs1 hb63 (by rw [hlb1]; exact hE)
    have r37 := rdbytes_ok w2 r2 R2 q2 b 0 n1 (by omega) hR2 hE
    rw [List.drop_zero, hrd.v, Nat.zero_add, hrd.k, hrd.yes] at r37
    have hle := hrd.le
    have hpos := hrd.pos
    have hylen := hrd.ylen
    have hform := hrd.form
    rw [hlb1] at hle
    obtain ⟨s, hs⟩ : ∃ s, numF V ++ y = s := ⟨_, rfl⟩
    obtain ⟨L, hL⟩ : ∃ L, K + V = L := ⟨_, rfl⟩
    have hsl : s.length = L := by rw [← hs, List.length_append, hform, hylen, hL]
    have hss : Small s := by rw [← hs]; exact (numF_small V).append hrd.ysmall
    have hback2 := hrd.back
    have hshort := hrd.short
    rw [hs, hL] at hback2 hshort
    rw [hlb1] at hshort
    have s39 := fun (W : World) (hW : Below w.heap.size w W) (B : Option Addr) (bb : Nat) (h : Reads W W.heap.size 1 B V (byts y)) => bytes_tells W W.heap.size B V bb y h (Nat.le_refl _) (by omega)
    simp only [hs, Tells, hsl] at s39
    rw [hL] at r37 hle
    have hL1 : 1 ≤ L := by omega
    have hLm : L ≤ 140737488351232 := by omega
    clear hrd hform hE hs
    obtain ⟨ad1, had1⟩ : ∃ ad, A1 = some ad := by
      obtain ⟨_, hx⟩ := h1
      obtain ⟨ad, e, _⟩ := hx (by omega)
      exact ⟨ad, e⟩
    go_wp2_with (first
      | (go_at_call 37; refine r37.mono ?_; clear r37; rintro e w3 ⟨B3, b3, rfl, o3, hR3, f3⟩; have m3 := hfr2 _ _ f3 mD; have t23 := s39 w3 m3 B3 b3 (Reads.of_own o3))
      | (go_at_call 39; refine (num_any _ _).mono ?_; rintro e w' ⟨rfl, rfl⟩)
      | (go_at_call 23; refine Calls.mono t23 ?_; clear t23 s39; rintro e w4 ⟨B4, b4, rfl, o4, m4⟩))
    have hR4 : RdI w4 r2 R2 q2 b L := hR3.fr (Fr.of_new (S := noB) m4) id id
    have m4w : Below w.heap.size w w4 := m3.trans (m4.mono m3.size)
    have hh5 := h1.below m4w
    have hl := fun m => left_any (w4.drewN m) r2 R2 q2 b L (hR4.drewN m)
    simp only [hlb1] at hl
    have hcap4 := own_cap o4
    have o4r := Reads.of_own o4
    obtain ⟨ad4, rfl, _⟩ := o4r.2 (by omega)
    have s1 := fun m : Nat => run_str (P := Try.prog) (src := 24) (dst := 9) (c := b4) rfl rfl rfl (o4r.drewN m) hss
    have hsub : ∀ m, Reads (w4.drewN m) w.heap.size 1 (some ad1) L (byts s) := by
      intro m
      have := (hh5.drewN m).upto (k := L) hle
      rw [Nat.mul_one, ← byts_take, ← hback2, had1] at this
      exact this
    have s2 := fun m : Nat => run_str (P := Try.prog) (src := 24) (dst := 9) (c := c1) rfl rfl rfl (hsub m) hss
    obtain ⟨D, hD⟩ : ∃ D, n1 - L = D := ⟨_, rfl⟩
    have u1 : IntKind.i64.wrap ((n1 : Int) - (D : Int)) = (L : Int) := by rw [IntWalk.i64_in _ (by omega)]; omega
    have u2 : (0 : Int) ≤ (L : Int) := by omega
    have u3 : (L : Int) ≤ (c1 : Int) := by omega
    have u4 : ((L : Int) != (L : Int)) = false := by simp
    simp only [hD] at hl
    clear hD hsub hh5 hR3 f3 mD hfr2 hlb1 mC m2 hb0 hL hpos hylen
    subst had1
    go_quiet ((go_at_call 41; exact Calls.quiet_of (hl _)))
    have m5 : Below w.heap.size w (w4.drewN nq) := below_drewN m4w nq
    have o5 := (o4r.drewN nq).upto (k := L - 1) (by omega)
    rw [Nat.mul_one, ← byts_take] at o5
    have hsz5 : (w4.drewN nq).heap.size = w4.heap.size := rfl
    rw [← hsz5] at o5
    clear hl s1 s2 hR4 m4w o4r o4 m4 hsz5
    generalize w4.drewN nq = w5 at m5 o5 ⊢
    have v1 : IntKind.i64.wrap ((L : Int) - 1) = ((L - 1 : Nat) : Int) := by rw [IntWalk.i64_in _ (by omega)]; omega
    have o34 := open_any w5 w5.heap.size (some ad4) (L - 1) b4 (s.take (L - 1)) o5 (hss.take _) (Nat.le_refl _) (by omega)
    have v2 : (0 : Int) ≤ ((L - 1 : Nat) : Int) := by omega
    have v3 : ((L - 1 : Nat) : Int) ≤ (b4 : Int) := by omega
    go_wp2_with (go_at_call 34; refine o34.mono ?_; clear o34; rintro e w6 ⟨r3, R3, q3, rfl, hR6, hr3, hR3b, m6⟩)
    have m6w := m5.trans (m6.mono m5.size)
    have e37 := rdbytes_err w6 r3 R3 q3 _ 0 n1 (by omega) hR6 (by rw [hshort]; decide)
    rw [hshort] at e37
    have hfr6 : ∀ W W' : World, Fr (fun k => k = r3) W W' → Below w.heap.size w W → Below w.heap.size w W' := fun W W' hf hW => hW.trans (hf.below (fun k hk => by have := m5.size; omega) hW.size)
    clear m6 m5 hshort
    go_wp2_with (first
      | (go_at_call 37; refine e37.mono ?_; clear e37; rintro e w7 ⟨rfl, hR7, f7⟩; have m7 := hfr6 _ _ f7 m6w)
      | (go_at_call 39; refine (num_any _ _).mono ?_; rintro e w' ⟨rfl, rfl⟩)
      | (go_at_call 33; refine (knownWire _).mono ?_; rintro e w8 ⟨rfl, mF⟩))
    go_ret
    exact ⟨rfl, m7.trans (mF.mono m7.size)⟩
  · have e37 := rdbytes_err w2 r2 R2 q2 b 0 n1 (by omega) hR2 hE
    have hE34 : bytE b 0 n1 = 3 ∨ bytE b 0 n1 = 4 := by
      revert hE
      unfold bytE cntE
      split <;> (try split) <;> (try split) <;> simp_all
    have e41 := fun (W : World) (h : RdI W r2 R2 q2 b 0) => left_any W r2 R2 q2 b 0 h
    simp only [Nat.sub_zero, hlb1] at e41
    have HB := Lib.hid hlb1
    rcases hE34 with h3 | h3
    · rw [h3] at e37
      clear hE h3 hlb1
      go_wp2_with (first
        | (go_at_call 37; refine e37.mono ?_; clear e37; rintro e w3 ⟨rfl, hR3, f3⟩; have m3 := hfr2 _ _ f3 mD; have e41' := e41 w3 hR3)
        | (go_at_call 39; refine (num_any _ _).mono ?_; rintro e w' ⟨rfl, rfl⟩)
        | (go_at_call 41; refine e41'.mono ?_; clear e41'; rintro e w4 ⟨rfl, m4, rfl⟩; have mE := below_drewN m3 m4)
        | (go_at_call 33; refine (knownWire _).mono ?_; rintro e w6 ⟨rfl, mF⟩))
      go_ret
      exact ⟨rfl, mE.trans (mF.mono mE.size)⟩
    · rw [h3] at e37
      clear hE h3 hlb1
      go_wp2_with (first
        | (go_at_call 37; refine e37.mono ?_; clear e37; rintro e w3 ⟨rfl, hR3, f3⟩; have m3 := hfr2 _ _ f3 mD; have e41' := e41 w3 hR3)
        | (go_at_call 39; refine (num_any _ _).mono ?_; rintro e w' ⟨rfl, rfl⟩)
        | (go_at_call 41; refine e41'.mono ?_; clear e41'; rintro e w4 ⟨rfl, m4, rfl⟩; have mE := below_drewN m3 m4)
        | (go_at_call 33; refine (knownWire _).mono ?_; rintro e w6 ⟨rfl, mF⟩))
      go_ret
      exact ⟨rfl, mE.trans (mF.mono mE.size)⟩

end Go.Proofs.Ytpnagblbhlglhaa
