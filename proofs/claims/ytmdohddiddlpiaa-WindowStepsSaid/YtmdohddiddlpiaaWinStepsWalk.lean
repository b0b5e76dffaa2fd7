/- The walk of wicketlaw17.WindowSteps. Conditions: those that it states. -/
import Derived.Test.YtmdohddiddlpiaaWinSteps
import Derived.Test.YtmdohddiddlpiaaTurnDraw
namespace Go.Proofs.Ytmdohddiddlpiaa
open Go.RowKit Go.Shelf Go.Sort

attribute [local irreducible] wpQuiet
set_option maxHeartbeats 8000000 in
set_option maxRecDepth 100000 in
theorem windowSteps_walk (w : World) (z : Int) (A1 : Option Addr) (n1 c1 : Nat) (R : Nat → List Value) (h1 : RowsAt w w.heap.size A1 n1 3 R) (hR : ∀ i, i < n1 → ∃ (K N : Int) (T : ByteArray), R i = [.int .i64 K, .int .i64 N, .string T]) (hn1 : n1 ≤ 9223372036854775807) :
    Calls Try.prog 4 #[.int .i64 z, .slice A1 n1 c1] w fun e w' => e = .returned (.bool true) ∧ Below w.heap.size w w' := by
  have hk := fun V => knownWin V
  by_cases hz : 1 ≤ z ∧ z ≤ 64
  · obtain ⟨n, rfl⟩ : ∃ n : Nat, z = n := ⟨z.toNat, by omega⟩
    have p1 : 1 ≤ n := by omega
    have p64 : n ≤ 64 := by omega
    have q1 : ¬ (n : Int) < 1 := by omega
    have q2 : ¬ (64 : Int) < (n : Int) := by omega
    have hnw := newYesS w n p1 p64
    have hn := fun V => num_any V
    clear hz
    go_enter Try.func4, Try.ntmps4
    go_wp2_with (first
      | (go_at_call 15; refine hnw.mono ?_; clear hnw; rintro e w2 ⟨p, rfl, g, hRW, hp, hg, b2⟩)
      | (go_at_call 10; refine (hn _ _).mono ?_; rintro e w' ⟨rfl, rfl⟩))
    have hC := Cur.first hRW hp hg b2 p64
    have hO : Old w (w2.alloc (.cells #[.int .i64 n, .slice none 0 0, .slice none 0 0] 45)) n p g w2.heap.size none none 0 (.pointer none) (.pointer none) := .inl ⟨rfl, rfl⟩
    have HCO := Lib.hid (And.intro hC hO)
    clear hRW hp hg b2 hC hO q1 q2
    go_loopw [5, 7, 8, 9, 10] (fun wv rv ov sv iv wr => ∃ (i p g q : Nat) (A B : Option Addr), i ≤ n1 ∧ i ≤ 200 ∧ wv = .pointer (some ⟨p, 0, none⟩) ∧ rv = .pointer (some ⟨q, 0, none⟩) ∧ iv = .int .i64 i ∧ Hid (Cur w wr n p g q A B i ∧ Old w wr n p g q A B i ov sv)) (fun _ _ _ _ iv _ => n1 - (intOf iv).toNat)
    case atStart => exact ⟨0, _, _, _, _, _, by omega, by omega, rfl, rfl, rfl, HCO⟩
    case round =>
      clear HCO
      obtain ⟨i, p, g, q, A, B, hi1, hi2, rfl, rfl, rfl, HCO⟩ := hrel
      have hB := HCO.out.1.2.2
      by_cases hlt : i < n1 ∧ i < 200
      · obtain ⟨hlt1, hlt2⟩ := hlt
        have y1 : (i : Int) < (n1 : Int) := by omega
        have y2 : (i : Int) < 200 := by omega
        have y3 : (0 : Int) ≤ (i : Int) := by omega
        obtain ⟨ad, rfl, hab, _, hcell⟩ := h1 i hlt1
        obtain ⟨K, N, T, hRi⟩ := hR i hlt1
        have cN := fun (V : World) (hb : Below w.heap.size w V) (j : Nat) (v : Value) (hj : (R i)[j]? = some v) => (hb.cell (p := (ad.add (i * 3)).add j) (by rw [block_of_add, block_of_add]; exact hab)).trans (hcell j v hj)
        rw [hRi] at cN
        have cM : ∀ V, Below w.heap.size w V → V.cell? (ad.add (i * 3)) = some (.int .i64 K) ∧ V.cell? ((ad.add (i * 3)).add 1) = some (.int .i64 N) ∧ V.cell? ((ad.add (i * 3)).add 2) = some (.string T) ∧
            V.cell? ⟨(ad.add (i * 3)).block, (ad.add (i * 3)).off + 1, none⟩ = some (.int .i64 N) ∧ V.cell? ⟨(ad.add (i * 3)).block, (ad.add (i * 3)).off + 2, none⟩ = some (.string T) := fun V hb => ⟨cN V hb 0 _ rfl, cN V hb 1 _ rfl, cN V hb 2 _ rfl, cN V hb 1 _ rfl, cN V hb 2 _ rfl⟩
        obtain ⟨x0, x1, x2, x4, x5⟩ := cM wr hB
        have CM := Lib.hid cM
        clear cN cM hcell hRi hB
        by_cases hK : K = 6
        · have cp := HCO.out.1.1.copy HCO.out.1.2.2.size
          go_wp2_with (first
            | (go_at_call 16; refine cp.mono ?_; clear cp; rintro e w4 ⟨p2, rfl, cq⟩)
            | (go_at_call 17; refine cq.mono ?_; clear cq; rintro e w5 ⟨q2, rfl, g2, A2, B2, hP2, hP1, hnw, b5⟩))
          have HS := Lib.hid (HCO.out.1.copied hP2 hP1 hnw b5)
          clear hP2 hP1 hnw b5 HCO x0 x1 x2 x4 x5
          obtain ⟨hC, hO⟩ := HS.out
          replace hC := hC.new (Below.refl _ _).drew
          replace hO := hO.new (Below.refl _ _).drew
          obtain ⟨x0, x1, x2, x4, x5⟩ := CM.out _ hC.2.2
          have hdo := do_any hC.1 hC.2.2.size (by omega) K N T
          have HC := Lib.hid (And.intro hC hO)
          clear hC hO HS hK
          refine wp_region_any (by kernel_rfl) ?_
          change wpAny _ _ _ _ _ _ _ (World.drew _)
          refine wpAny_take (i := 0) (v := ?v1) rfl (by kernel_rfl) (by kernel_rfl) (by kernel_rfl) (fun _ _ _ h => h) (Or.inl ⟨by rfl, ?hy1⟩) ?_
          case hy1 => (intro w; go_simp; try with_reducible rfl)
          try simp only [Act.put, List.setIfInBounds_toArray, List.set_cons_zero, List.set_cons_succ]
          refine wpAny_take (i := 1) (v := ?v2) rfl (by kernel_rfl) (by kernel_rfl) (by kernel_rfl) (fun _ _ _ h => h) (Or.inl ⟨by rfl, ?hy2⟩) ?_
          case hy2 => (intro w; go_simp; try with_reducible rfl)
          try simp only [Act.put, List.setIfInBounds_toArray, List.set_cons_zero, List.set_cons_succ]
          refine wpAny_take (i := 2) (v := ?v3) rfl (by kernel_rfl) (by kernel_rfl) (by kernel_rfl) (fun _ _ _ h => h) (Or.inl ⟨by rfl, ?hy3⟩) ?_
          case hy3 => (intro w; go_simp; try with_reducible rfl)
          try simp only [Act.put, List.setIfInBounds_toArray, List.set_cons_zero, List.set_cons_succ]
          refine wpAny_take (i := 3) (v := ?v4) rfl (by kernel_rfl) (by kernel_rfl) (by kernel_rfl) (fun _ _ _ h => h) (Or.inl ⟨by rfl, ?hy4⟩) ?_
          case hy4 => (intro w; go_simp; try with_reducible rfl)
          try simp only [Act.put, List.setIfInBounds_toArray, List.set_cons_zero, List.set_cons_succ]
          refine wpAny_take (i := 4) (v := ?v5) rfl (by kernel_rfl) (by kernel_rfl) (by kernel_rfl) (fun _ _ _ h => h) (Or.inl ⟨by rfl, ?hy5⟩) ?_
          case hy5 => (intro w; go_simp; try with_reducible rfl)
          try simp only [Act.put, List.setIfInBounds_toArray, List.set_cons_zero, List.set_cons_succ]
          refine wpAny_one (i := 5) (by kernel_rfl) rfl (fun KK hKK => ?_)
          go_simp
          refine hKK _ _ ?_
          clear hKK KK
          try simp only [Act.put, List.setIfInBounds_toArray, List.set_cons_zero, List.set_cons_succ]
          refine wpAny_one (i := 6) (by kernel_rfl) rfl (fun KK hKK => ?_)
          go_simp
          refine hdo.mono ?_
          clear hdo
          rintro e w6 hdp
          obtain ⟨rfl, A3, B3, hC3, hO3⟩ := HC.out.1.step HC.out.2 hdp
          clear hdp HC
          obtain ⟨m, l, L, l1, l2, l3, hal⟩ := hC3.1.alike
          obtain ⟨At, at_, d6⟩ := (hal w6 (Below.refl _ _)).things
          have d7 := fun d os => cell_regrown d6 d os
          have a19 := fun d os => regrown_same (hal _ (below_regrown w6 d os)).mark
          have a20 := fun d os => regrown_same (hal _ (below_regrown w6 d os)).mark2
          have a21 := fun d os => regrown_same (hal _ (below_regrown w6 d os)).last
          have a22 := fun d os => Calls.regrown_of (hal _ (below_regrown w6 d os)).len
          have a23 := fun d os => regrown_same (hal _ (below_regrown w6 d os)).len2
          have a24 := fun d os => regrown_drewN (hal _ (below_regrown w6 d os)).room
          have HC3 := Lib.hid (And.intro hC3 hO3)
          have u1 : IntKind.i64.wrap ((n : Int) - (l : Int)) = (n : Int) - (l : Int) := IntWalk.i64_in _ (by omega)
          have u2 : IntKind.i64.wrap ((n : Int) - (l : Int) + (m : Int)) = (n : Int) - (l : Int) + (m : Int) := IntWalk.i64_in _ (by omega)
          clear hC3 hO3 hal x0 x1 x2 x4 x5 d6
          refine hKK _ _ ?_
          clear hKK KK
          try simp only [Act.put, List.setIfInBounds_toArray, List.set_cons_zero, List.set_cons_succ]
          refine wpAny_tail7 rfl (by kernel_rfl) (by kernel_rfl) ?_
          repeat (quiet_step (first | (go_at_call 19; exact a19 _ _) | (go_at_call 20; exact a20 _ _) | (go_at_call 21; exact a21 _ _) | (go_at_call 22; exact a22 _ _) | (go_at_call 23; exact a23 _ _) | (go_at_call 24; exact a24 _ _)))
          refine wpQuiet_nil ?_
          intro _ hw'
          obtain ⟨⟨dq, osq⟩, hw''⟩ := hw'
          subst hw''
          have b7 := below_regrown w6 dq osq
          clear d7 a19 a20 a21 a22 a23 a24
          obtain ⟨w7, hw7⟩ : ∃ w7, grow (redrawn w6 dq) osq = w7 := ⟨_, rfl⟩
          rw [hw7] at b7 ⊢
          clear hw7
          have HC7 := Lib.hid (And.intro (HC3.out.1.new b7) (HC3.out.2.new b7))
          clear b7 HC3 u1 u2
          go_wp2
          go_roundw
          case rel => exact ⟨i + 1, _, _, _, _, _, by omega, by omega, rfl, rfl, by go_num, HC7⟩
          case measure => simp [intOf]; omega
        · have HS := HCO
          go_wp2
          clear HCO x0 x1 x2 x4 x5
          obtain ⟨hC, hO⟩ := HS.out
          replace hC := hC.new (Below.refl _ _).drew
          replace hO := hO.new (Below.refl _ _).drew
          obtain ⟨x0, x1, x2, x4, x5⟩ := CM.out _ hC.2.2
          have hdo := do_any hC.1 hC.2.2.size (by omega) K N T
          have HC := Lib.hid (And.intro hC hO)
          clear hC hO HS hK
          refine wp_region_any (by kernel_rfl) ?_
          change wpAny _ _ _ _ _ _ _ (World.drew _)
          refine wpAny_take (i := 0) (v := ?v6) rfl (by kernel_rfl) (by kernel_rfl) (by kernel_rfl) (fun _ _ _ h => h) (Or.inl ⟨by rfl, ?hy6⟩) ?_
          case hy6 => (intro w; go_simp; try with_reducible rfl)
          try simp only [Act.put, List.setIfInBounds_toArray, List.set_cons_zero, List.set_cons_succ]
          refine wpAny_take (i := 1) (v := ?v7) rfl (by kernel_rfl) (by kernel_rfl) (by kernel_rfl) (fun _ _ _ h => h) (Or.inl ⟨by rfl, ?hy7⟩) ?_
          case hy7 => (intro w; go_simp; try with_reducible rfl)
          try simp only [Act.put, List.setIfInBounds_toArray, List.set_cons_zero, List.set_cons_succ]
          refine wpAny_take (i := 2) (v := ?v8) rfl (by kernel_rfl) (by kernel_rfl) (by kernel_rfl) (fun _ _ _ h => h) (Or.inl ⟨by rfl, ?hy8⟩) ?_
          case hy8 => (intro w; go_simp; try with_reducible rfl)
          try simp only [Act.put, List.setIfInBounds_toArray, List.set_cons_zero, List.set_cons_succ]
          refine wpAny_take (i := 3) (v := ?v9) rfl (by kernel_rfl) (by kernel_rfl) (by kernel_rfl) (fun _ _ _ h => h) (Or.inl ⟨by rfl, ?hy9⟩) ?_
          case hy9 => (intro w; go_simp; try with_reducible rfl)
          try simp only [Act.put, List.setIfInBounds_toArray, List.set_cons_zero, List.set_cons_succ]
          refine wpAny_take (i := 4) (v := ?v10) rfl (by kernel_rfl) (by kernel_rfl) (by kernel_rfl) (fun _ _ _ h => h) (Or.inl ⟨by rfl, ?hy10⟩) ?_
          case hy10 => (intro w; go_simp; try with_reducible rfl)
          try simp only [Act.put, List.setIfInBounds_toArray, List.set_cons_zero, List.set_cons_succ]
          refine wpAny_one (i := 5) (by kernel_rfl) rfl (fun KK hKK => ?_)
          go_simp
          refine hKK _ _ ?_
          clear hKK KK
          try simp only [Act.put, List.setIfInBounds_toArray, List.set_cons_zero, List.set_cons_succ]
          refine wpAny_one (i := 6) (by kernel_rfl) rfl (fun KK hKK => ?_)
          go_simp
          refine hdo.mono ?_
          clear hdo
          rintro e w6 hdp
          obtain ⟨rfl, A3, B3, hC3, hO3⟩ := HC.out.1.step HC.out.2 hdp
          clear hdp HC
          obtain ⟨m, l, L, l1, l2, l3, hal⟩ := hC3.1.alike
          obtain ⟨At, at_, d6⟩ := (hal w6 (Below.refl _ _)).things
          have d7 := fun d os => cell_regrown d6 d os
          have a19 := fun d os => regrown_same (hal _ (below_regrown w6 d os)).mark
          have a20 := fun d os => regrown_same (hal _ (below_regrown w6 d os)).mark2
          have a21 := fun d os => regrown_same (hal _ (below_regrown w6 d os)).last
          have a22 := fun d os => Calls.regrown_of (hal _ (below_regrown w6 d os)).len
          have a23 := fun d os => regrown_same (hal _ (below_regrown w6 d os)).len2
          have a24 := fun d os => regrown_drewN (hal _ (below_regrown w6 d os)).room
          have HC3 := Lib.hid (And.intro hC3 hO3)
          have u1 : IntKind.i64.wrap ((n : Int) - (l : Int)) = (n : Int) - (l : Int) := IntWalk.i64_in _ (by omega)
          have u2 : IntKind.i64.wrap ((n : Int) - (l : Int) + (m : Int)) = (n : Int) - (l : Int) + (m : Int) := IntWalk.i64_in _ (by omega)
          clear hC3 hO3 hal x0 x1 x2 x4 x5 d6
          refine hKK _ _ ?_
          clear hKK KK
          try simp only [Act.put, List.setIfInBounds_toArray, List.set_cons_zero, List.set_cons_succ]
          refine wpAny_tail7 rfl (by kernel_rfl) (by kernel_rfl) ?_
          repeat (quiet_step (first | (go_at_call 19; exact a19 _ _) | (go_at_call 20; exact a20 _ _) | (go_at_call 21; exact a21 _ _) | (go_at_call 22; exact a22 _ _) | (go_at_call 23; exact a23 _ _) | (go_at_call 24; exact a24 _ _)))
          refine wpQuiet_nil ?_
          intro _ hw'
          obtain ⟨⟨dq, osq⟩, hw''⟩ := hw'
          subst hw''
          have b7 := below_regrown w6 dq osq
          clear d7 a19 a20 a21 a22 a23 a24
          obtain ⟨w7, hw7⟩ : ∃ w7, grow (redrawn w6 dq) osq = w7 := ⟨_, rfl⟩
          rw [hw7] at b7 ⊢
          clear hw7
          have HC7 := Lib.hid (And.intro (HC3.out.1.new b7) (HC3.out.2.new b7))
          clear b7 HC3 u1 u2
          go_wp2
          go_roundw
          case rel => exact ⟨i + 1, _, _, _, _, _, by omega, by omega, rfl, rfl, by go_num, HC7⟩
          case measure => simp [intOf]; omega
      · obtain ⟨m, l, L, l1, l2, l3, hal⟩ := HCO.out.1.1.alike
        have a25 := fun d os => Calls.regrown_of (hal _ (below_regrown wr d os)).goes
        have a6 := fun d os => Calls.regrown_of (hk (grow (redrawn wr d) os))
        have HB := Lib.hid hB
        clear hal hB
        rcases HCO.out.2 with ⟨rfl, rfl⟩ | ⟨p', g', q', A', B', rfl, rfl, hP, _⟩
        · clear HCO
          by_cases hl1 : i < n1
          · have y1 : (i : Int) < (n1 : Int) := by omega
            have y2 : ¬ (i : Int) < 200 := by omega
            go_wp2
            refine wp_region_quiet_below (by kernel_rfl) (by kernel_rfl) ?_
            repeat (quiet_step (first | (go_at_call 6; exact a6 _ _) | (go_at_call 25; exact a25 _ _)))
            refine wpQuiet_nil ?_
            intro _ hw'
            obtain ⟨⟨dq, osq⟩, hw''⟩ := hw'
            subst hw''
            have b7 := below_regrown wr dq osq
            obtain ⟨w7, hw7⟩ : ∃ w7, grow (redrawn wr dq) osq = w7 := ⟨_, rfl⟩
            rw [hw7] at b7 ⊢
            clear hw7
            go_wp2
            go_ret
            exact ⟨rfl, HB.out.trans (b7.mono HB.out.size)⟩
          · have y1 : ¬ (i : Int) < (n1 : Int) := by omega
            go_wp2
            refine wp_region_quiet_below (by kernel_rfl) (by kernel_rfl) ?_
            repeat (quiet_step (first | (go_at_call 6; exact a6 _ _) | (go_at_call 25; exact a25 _ _)))
            refine wpQuiet_nil ?_
            intro _ hw'
            obtain ⟨⟨dq, osq⟩, hw''⟩ := hw'
            subst hw''
            have b7 := below_regrown wr dq osq
            obtain ⟨w7, hw7⟩ : ∃ w7, grow (redrawn wr dq) osq = w7 := ⟨_, rfl⟩
            rw [hw7] at b7 ⊢
            clear hw7
            go_wp2
            go_ret
            exact ⟨rfl, HB.out.trans (b7.mono HB.out.size)⟩
        · obtain ⟨m', l', L', _, _, _, hal'⟩ := hP.alike
          obtain ⟨At, at_, d6⟩ := (hal' wr (Below.refl _ _)).things
          have d7 := fun d os => cell_regrown d6 d os
          have b25 := fun d os => Calls.regrown_of (hal' _ (below_regrown wr d os)).goes
          have b21 := fun d os => regrown_same (hal' _ (below_regrown wr d os)).last
          clear hal' hP d6 HCO
          by_cases hl1 : i < n1
          · have y1 : (i : Int) < (n1 : Int) := by omega
            have y2 : ¬ (i : Int) < 200 := by omega
            go_wp2
            refine wp_region_quiet_below (by kernel_rfl) (by kernel_rfl) ?_
            repeat (quiet_step (first | (go_at_call 6; exact a6 _ _) | (go_at_call 25; with_reducible exact a25 _ _) | (go_at_call 25; with_reducible exact b25 _ _) | (go_at_call 21; exact b21 _ _)))
            refine wpQuiet_nil ?_
            intro _ hw'
            obtain ⟨⟨dq, osq⟩, hw''⟩ := hw'
            subst hw''
            have b7 := below_regrown wr dq osq
            obtain ⟨w7, hw7⟩ : ∃ w7, grow (redrawn wr dq) osq = w7 := ⟨_, rfl⟩
            rw [hw7] at b7 ⊢
            clear hw7
            go_wp2
            go_ret
            exact ⟨rfl, HB.out.trans (b7.mono HB.out.size)⟩
          · have y1 : ¬ (i : Int) < (n1 : Int) := by omega
            go_wp2
            refine wp_region_quiet_below (by kernel_rfl) (by kernel_rfl) ?_
            repeat (quiet_step (first | (go_at_call 6; exact a6 _ _) | (go_at_call 25; with_reducible exact a25 _ _) | (go_at_call 25; with_reducible exact b25 _ _) | (go_at_call 21; exact b21 _ _)))
            refine wpQuiet_nil ?_
            intro _ hw'
            obtain ⟨⟨dq, osq⟩, hw''⟩ := hw'
            subst hw''
            have b7 := below_regrown wr dq osq
            obtain ⟨w7, hw7⟩ : ∃ w7, grow (redrawn wr dq) osq = w7 := ⟨_, rfl⟩
            rw [hw7] at b7 ⊢
            clear hw7
            go_wp2
            go_ret
            exact ⟨rfl, HB.out.trans (b7.mono HB.out.size)⟩
  · have hz2 : z < 1 ∨ 64 < z := by omega
    have hn := fun V => num_any V
    rcases hz2 with q1 | q1
    · go_enter Try.func4, Try.ntmps4
      go_wp2_with (first
        | (go_at_call 6; refine (hk _).mono ?_; clear hk; rintro e w1 ⟨rfl, b1⟩)
        | (go_at_call 10; refine (hn _ _).mono ?_; rintro e w' ⟨rfl, rfl⟩)
        | (go_at_call 15; refine (newNoS _ z (.inl q1)).mono ?_; rintro e w2 ⟨rfl, rfl⟩))
      go_ret
      exact ⟨rfl, b1⟩
    · have q2 : ¬ z < 1 := by omega
      go_enter Try.func4, Try.ntmps4
      go_wp2_with (first
        | (go_at_call 6; refine (hk _).mono ?_; clear hk; rintro e w1 ⟨rfl, b1⟩)
        | (go_at_call 10; refine (hn _ _).mono ?_; rintro e w' ⟨rfl, rfl⟩)
        | (go_at_call 15; refine (newNoS _ z (.inr q1)).mono ?_; rintro e w2 ⟨rfl, rfl⟩))
      go_ret
      exact ⟨rfl, b1⟩
end Go.Proofs.Ytmdohddiddlpiaa
