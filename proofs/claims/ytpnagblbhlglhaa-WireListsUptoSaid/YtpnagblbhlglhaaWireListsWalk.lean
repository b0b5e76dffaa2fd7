/- The walk of wicketlaw01.WireLists. Conditions: those that it states. -/
import Derived.Test.YtpnagblbhlglhaaWireListsEq
import Derived.Test.YtpnagblbhlglhaaWireKnown
import Derived.Deep.RegionLaw
namespace Go.Proofs.Ytpnagblbhlglhaa
open Go.RowKit

set_option maxHeartbeats 4000000 in
set_option maxRecDepth 100000 in
theorem wireLists_walk (w : World) (A0 : Option Addr) (n0 c0 : Nat) (L : List Nat) (h0 : Reads w w.heap.size 2 A0 n0 (wrds L)) (hL : ∀ x ∈ L, x < 18446744073709551616) (hc0 : n0 ≤ c0) (hn0 : n0 ≤ 1048576)
    (cut : Int) :
    Calls Try.prog 7 #[.slice A0 n0 c0, .int .i64 cut] w fun e w' => e = .returned (.bool true) ∧ Below w.heap.size w w' := by
  obtain ⟨i0, hi, hz0, hz1, hz2⟩ := info_parts Try.info61w
  obtain ⟨j0, hj, hy0, hy1, hy2⟩ := info_parts Try.info5w
  have hll : L.length = 2 * n0 := by have := h0.1; rw [wrds_length] at this; omega
  have ho0 : w.ownsRow w.heap.size 61 2 (.slice none 0 0) 0 [] := World.ownsRow_nil _ _ _ _
  obtain ⟨F, hF⟩ : ∃ F, numF n0 ++ formsN L = F := ⟨_, rfl⟩
  have hFs : Small F := by rw [← hF]; exact (numF_small n0).append (formsN_small L)
  have hFl : F.length ≤ 20971530 := by
    rw [← hF, List.length_append]
    have := numF_le n0 (by omega)
    have := (formsN_len L hL).2
    omega
  obtain ⟨n1, hn1⟩ : ∃ n1, n0 + 1 = n1 := ⟨_, rfl⟩
  have HLL := Lib.hid hll
  have hne := fun (W : World) (a b : Int) => pair_neq W a b
  have z0 : (0 : Int) ≤ (n0 : Int) := by omega
  clear hll
  go_enter Try.func7, Try.ntmps7
  go_wp2_with (first
    | (at_builtin; refine wpList_append_any _ rfl _ _ 60 rfl w.heap.size 61 i0 (.agg #[.int .u64 0, .int .u64 0]) 2 16 Try.underlying60 hi hz0 hz1 hz2 rfl (by decide) _ _ _ rfl ho0 w.heap.size A0 n0 _ _ rfl h0 (wrds_one _) (by unfold maxLen; omega) (by omega) (Nat.le_refl _) ?_; intro v1 w1 p1 g1 _; clear ho0; rw [Nat.zero_add, List.nil_append] at p1; obtain ⟨B1, b1, rfl⟩ := own_shape p1; have g1' : Below w.heap.size w w1 := (Below.refl _ w).grown g1 (Nat.le_refl _) (fun k hk => by cases hk); clear g1; have p1' := p1.alloc (.cells #[.int .u64 7, .int .u64 71] 61); have r1 := reads_pair w1 7 71; have s1 := g1'.size; have g1a := g1'.alloc s1 (.cells #[.int .u64 7, .int .u64 71] 61))
    | (at_builtin; refine wpList_append_any _ rfl _ _ 60 rfl w.heap.size 61 i0 (.agg #[.int .u64 0, .int .u64 0]) 2 16 Try.underlying60 hi hz0 hz1 hz2 rfl (by decide) _ _ _ rfl p1' _ _ 1 _ _ rfl r1 (wrds_one _) (by unfold maxLen; omega) (by omega) (by first | omega | (simp; omega)) ?_; intro v2 w2 p2 g2 _; have g2' : Below w.heap.size w w2 := g1a.grown g2 g1a.size (fun k hk => own_base p1 k hk); clear g2 g1a g1'; obtain ⟨B2, b2, rfl⟩ := own_shape p2; have cp2 := (own_cap p2).1; have z2 : (n0 : Int) ≤ (b2 : Int) := (by omega); have z3 : (n0 : Int) + 1 ≤ (b2 : Int) := (by omega); rw [← wrds_append] at p2; have pm := Reads.of_own p2; have pr : Reads w2 w2.heap.size 2 B2 n0 (wrds L) := (by have := pm.upto (k := n0) (by omega); rw [show (wrds (L ++ [7, 71])).take (n0 * 2) = wrds L by rw [wrds_append]; exact List.take_left' (by rw [wrds_length, HLL.out]; omega)] at this; exact this); rw [hn1] at pm; obtain ⟨ad, rfl, had, hmc⟩ := pm.2 (by omega); have z4 : (n0 : Int) < (n1 : Int) := (by omega); have z5 : (n1 : Int) ≤ (b2 : Int) := (by omega); have rp := put_any w2 w2.heap.size (some ad) n0 b2 L pr (Nat.le_refl _) hL hn0; rw [hF] at rp)
    | (go_at_call 42; go_must (refine rp.mono ?_); clear rp; rintro e w3 ⟨B3, b3, rfl, p3, m3⟩; have hmc3 : ∀ j u, (wrds (L ++ [7, 71]))[j]? = some u → w3.cell? (ad.add j) = some u := (fun j u hu => (m3.cell (p := ad.add j) (by rw [block_of_add]; exact had)).trans (hmc j u hu)); have e0 := hmc3 (n0 * 2) (.int .u64 7) (by rw [wrds_append, List.getElem?_append_right (by rw [wrds_length, HLL.out]; omega), wrds_length, HLL.out, show n0 * 2 - 2 * n0 = 0 by omega]; rfl); have e1 := hmc3 (n0 * 2 + 1) (.int .u64 71) (by rw [wrds_append, List.getElem?_append_right (by rw [wrds_length, HLL.out]; omega), wrds_length, HLL.out, show n0 * 2 + 1 - 2 * n0 = 1 by omega]; rfl); rw [← add_of_add, add_one_at] at e1; have HM := Lib.hid hmc3; clear hmc3)
    | (go_at_call 27; refine (refNumber_any _ n0 (by omega)).mono ?_; rintro e w4 ⟨B4, b4, rfl, p4, m4⟩)
    | (go_at_call 39; refine (num_any _ _).mono ?_; rintro e w' ⟨rfl, rfl⟩))
  have m3w : Below w.heap.size w w3 := g2'.trans (m3.mono g2'.size)
  have s3w := m3w.size
  have s23 := m3.size
  go_loopw [8, 9] (fun bv iv wr => ∃ (i : Nat) (G : Option Addr) (g : Nat) (Y : List Nat), i ≤ n0 ∧ iv = .int .i64 i ∧ bv = .slice G Y.length g ∧ Y = numF n0 ++ formsN (L.take (2 * i)) ∧ wr.ownsRow w3.heap.size 5 1 (.slice G Y.length g) Y.length (byts Y) ∧ Below w3.heap.size w3 wr) (fun _ iv _ => n0 - (intOf iv).toNat)
  case atStart => exact ⟨0, B4, b4, numF n0, by omega, rfl, rfl, by simp [formsN], p4, m4⟩
  case round =>
    clear p4 m4
    obtain ⟨i, G, g, Y, hi1, rfl, rfl, hY, ho, hb⟩ := hrel
    have hsz := hb.size
    have HY := Lib.hid hY
    clear hY
    have x0 : (0 : Int) ≤ (i : Int) := by omega
    by_cases hlt : i < n0
    · have x1 : (i : Int) < (n0 : Int) := by omega
      have x2 : (i : Int) < (n1 : Int) := by omega
      have hle2 : 2 * i + 1 < L.length := by have := HLL.out; omega
      have hYl : Y.length ≤ 20971540 := by
        rw [HY.out, List.length_append]
        have := (formsN_len (L.take (2 * i)) (fun x hx => hL x (List.mem_of_mem_take hx))).2
        rw [List.length_take] at this
        have := numF_le n0 (by omega)
        omega
      have hbw : Below w.heap.size w wr := m3w.trans (hb.mono s3w)
      obtain ⟨a0, rfl, hab, hcell⟩ := (h0.below hbw).2 (by omega)
      have c0 := hcell (2 * i) (.int .u64 (L[2 * i]'(by omega) : Nat)) (by simp [wrds, show 2 * i < L.length by omega])
      have c1 := hcell (2 * i + 1) (.int .u64 (L[2 * i + 1]'hle2 : Nat)) (by simp [wrds, hle2])
      have d0 := (hb.cell (p := ad.add (2 * i)) (by rw [block_of_add]; omega)).trans (HM.out (2 * i) (.int .u64 (L[2 * i]'(by omega) : Nat)) (by simp [wrds, show 2 * i < L.length by omega, List.getElem?_append]))
      have d1 := (hb.cell (p := ad.add (2 * i + 1)) (by rw [block_of_add]; omega)).trans (HM.out (2 * i + 1) (.int .u64 (L[2 * i + 1]'hle2 : Nat)) (by simp [wrds, hle2, List.getElem?_append]))
      have ha := hL L[2 * i] (List.getElem_mem _)
      have hb2 := hL L[2 * i + 1] (List.getElem_mem _)
      have hstep : formsN (L.take (2 * (i + 1))) = formsN (L.take (2 * i)) ++ (numF L[2 * i] ++ numF L[2 * i + 1]) := by
        rw [show 2 * (i + 1) = 2 * i + 1 + 1 by omega, List.take_succ_eq_append_getElem hle2, List.take_succ_eq_append_getElem (by omega), formsN_append, formsN_append, List.append_assoc]
        simp [formsN]
      obtain ⟨x, hx⟩ : ∃ x, L[2 * i] = x := ⟨_, rfl⟩
      obtain ⟨y, hy⟩ : ∃ y, L[2 * i + 1] = y := ⟨_, rfl⟩
      rw [hx] at c0 d0 ha hstep
      rw [hy] at c1 d1 hb2 hstep
      rw [Nat.mul_comm 2 i] at c0 c1 d0 d1
      rw [← add_of_add, add_one_at] at c1 d1
      clear hcell
      have lx := numF_le x ha
      have ly := numF_le y hb2
      have hcs : ∀ W : World, Below w3.heap.size w3 W → W.cell? (a0.add (i * 2)) = some (.int .u64 x) ∧ W.cell? ⟨(a0.add (i * 2)).block, (a0.add (i * 2)).off + 1, none⟩ = some (.int .u64 y) := by
        intro W h2
        obtain ⟨a1, e1, _, hcell⟩ := (h0.below (m3w.trans (h2.mono s3w))).2 (by omega)
        injection e1 with e1
        subst e1
        have t0 := hcell (2 * i) (.int .u64 (L[2 * i]'(by omega) : Nat)) (by simp [wrds, show 2 * i < L.length by omega])
        have t1 := hcell (2 * i + 1) (.int .u64 (L[2 * i + 1]'hle2 : Nat)) (by simp [wrds, hle2])
        rw [hx, Nat.mul_comm 2 i] at t0
        rw [hy, Nat.mul_comm 2 i, ← add_of_add, add_one_at] at t1
        exact ⟨t0, t1⟩
      have lift : ∀ (W : World) (v : Nat), v < 18446744073709551616 → Below w3.heap.size w3 W → Calls Try.prog 27 #[.int .u64 v] W fun e w' => ∃ A c, e = .returned (.slice A (numF v).length c) ∧ w'.ownsRow W.heap.size 5 1 (.slice A (numF v).length c) (numF v).length (byts (numF v)) ∧ Below W.heap.size W w' ∧
          Below w3.heap.size w3 w' ∧ w'.cell? (a0.add (i * 2)) = some (.int .u64 x) ∧ w'.cell? ⟨(a0.add (i * 2)).block, (a0.add (i * 2)).off + 1, none⟩ = some (.int .u64 y) := by
        intro W v hv hW
        refine Calls.mono (refNumber_tells W v hv) ?_
        rintro e w' ⟨A, c, rfl, ho, hm⟩
        have h2 := hW.trans (hm.mono hW.size)
        exact ⟨A, c, rfl, ho, hm, h2, (hcs _ h2).1, (hcs _ h2).2⟩
      have qa := fun (W : World) hW => lift W x ha hW
      have qb := fun (W : World) hW => lift W y hb2 hW
      obtain ⟨Fx, hFx⟩ : ∃ Fx, numF x = Fx := ⟨_, rfl⟩
      obtain ⟨Fy, hFy⟩ : ∃ Fy, numF y = Fy := ⟨_, rfl⟩
      simp only [hFx] at qa
      simp only [hFy] at qb
      rw [hFx] at lx hstep
      rw [hFy] at ly hstep
      have HS := Lib.hid hstep
      clear hstep hx hy hFx hFy lift
      go_wp2
      go_quiet (fail)
      go_wp2
      go_region_held_law (fun w' => w'.cell? (a0.add (i * 2)) = some (.int .u64 x) ∧ w'.cell? ⟨(a0.add (i * 2)).block, (a0.add (i * 2)).off + 1, none⟩ = some (.int .u64 y)) (first | (refine ⟨?_, ?_⟩ <;> assumption) | go_keep) (first
        | (go_at_call 27; refine (qa _ (by first | exact below_drewN hb _ | exact (below_drewN hb _).drew)).mono ?_; clear qa; rintro e w5 ⟨A5, c5, rfl, o5, m5, n5, t0, t1⟩; have ho5 := own_fr ho (Fr.of_new (S := noB) (Below.trans (by first | exact below_drewN (Below.refl _ wr) _ | exact (below_drewN (Below.refl _ wr) _).drew) m5)) (fun _ _ h => h))
        | (refine step_append_any _ rfl _ _ 24 rfl w3.heap.size 5 j0 (.int .u8 0) 1 1 Try.underlying24 hj hy0 hy1 hy2 rfl (by decide) _ _ _ rfl ho5 _ _ _ _ _ rfl (Reads.of_own o5) (byts_one _) (by unfold maxLen; omega) (by omega) n5.size ?_; intro v6 w6 o6 g6 _; obtain ⟨A6, c6, rfl⟩ := own_shape o6; have n6 := n5.grown g6 n5.size (own_base ho5); have t4 := (hcs _ n6).1; have t5 := (hcs _ n6).2)
        | (go_at_call 27; refine (qb _ (by assumption)).mono ?_; clear qb; rintro e w7 ⟨A7, c7, rfl, o7, m7, n7, t2, t3⟩; have ho7 := own_fr o6 (Fr.of_new (S := noB) m7) (fun _ _ h => h))
        | (refine step_append_any _ rfl _ _ 24 rfl w3.heap.size 5 j0 (.int .u8 0) 1 1 Try.underlying24 hj hy0 hy1 hy2 rfl (by decide) _ _ _ rfl ho7 _ _ _ _ _ rfl (Reads.of_own o7) (byts_one _) (by unfold maxLen; omega) (by omega) n7.size ?_; intro v8 w8 o8 g8 _; obtain ⟨A8, c8, rfl⟩ := own_shape o8; have n8 := n7.grown g8 n7.size (own_base ho7); have t6 := (hcs _ n8).1; have t7 := (hcs _ n8).2))
      rw [← byts_append, ← byts_append] at o8
      have HO := Lib.hid (And.intro o8 n8)
      clear o8 o7 o6 o5 ho5 ho7 m5 m7 n5 n6 n7 n8 g6 g8 t0 t1 t2 t3 t4 t5 t6 t7 hcs
      simp only [List.getElem_toArray, List.getElem_cons_succ, List.getElem_cons_zero, Act.put]
      go_wp2
      go_roundw
      case rel => exact ⟨i + 1, A8, c8, Y ++ Fx ++ Fy, by omega, by go_num, by simp only [List.length_append], by rw [HY.out, HS.out]; simp only [List.append_assoc], by simp only [List.length_append]; exact HO.out.1, HO.out.2⟩
      case measure => simp [intOf]; omega
    · have x1 : ¬ (i : Int) < (n0 : Int) := by omega
      have hYF : Y = F := by rw [HY.out, List.take_of_length_le (by have := HLL.out; omega), hF]
      have HF := Lib.hid hF
      clear hF
      subst hYF
      have p3r := own_fr p3 (Fr.of_new (S := noB) hb) (fun _ _ h => h)
      have hbw : Below w.heap.size w wr := m3w.trans (hb.mono s3w)
      have hop := open_any wr wr.heap.size B3 Y.length b3 Y (Reads.of_own p3r) hFs (Nat.le_refl _) (by omega)
      have t1 := run_str (P := Try.prog) (src := 24) (dst := 9) (c := b3) rfl rfl rfl (Reads.of_own p3r) hFs
      have t2 := run_str (P := Try.prog) (src := 24) (dst := 9) (c := g) rfl rfl rfl (Reads.of_own ho) hFs
      go_upto_if 95 with (first
        | (go_at_call 34; go_must (refine hop.mono ?_); clear hop; rintro e w5 ⟨r, RA, rc, rfl, hR, hrg, hRA, m5⟩; have t3 := run_str (P := Try.prog) (src := 24) (dst := 9) (c := b3) rfl rfl rfl (Reads.of_own (own_fr p3r (Fr.of_new (S := noB) m5) (fun _ _ h => h))) hFs; have t4 := run_str (P := Try.prog) (src := 24) (dst := 9) (c := g) rfl rfl rfl (Reads.of_own (own_fr ho (Fr.of_new (S := noB) m5) (fun _ _ h => h))) hFs))
      clear t1 t2 t3 t4
      have hRl := hR.lt
      have p35 := own_fr p3r (Fr.of_new (S := noB) m5) (fun _ _ h => h)
      have hY0 : 0 < Y.length := by
        have := numF_pos n0
        rw [HY.out, List.length_append]
        omega
      have hfw := lists_fewer n0 L (by omega)
      have hwh := lists_whole n0 L HLL.out (by omega) hL
      have hct := lists_cut n0 L HLL.out (by omega) hL
      rw [HF.out] at hfw hwh hct
      go_cut [11, 12] from 95 to 118 (fun _ _ wx => RdI wx r RA rc Y 0 ∧ Fr (fun k => k = r) w5 wx)
      case first =>
        by_cases h0n : 0 < n0
        · have x3 : (0 : Int) < (n0 : Int) := by omega
          have htk := takeP_any w5 r RA rc Y 0 (n0 - 1) (by omega) hR (by omega)
          obtain ⟨e1, e2⟩ := hfw h0n
          rw [List.drop_zero, e1, e2, show ((n0 - 1 : Nat) : Int) = (n0 : Int) - 1 by omega] at htk
          simp only [Option.getD_none, Nat.add_zero, List.length_nil] at htk
          clear hfw hwh hct e1 e2 m5 p35 hR
          go_wp2_with (first
            | (go_at_call 44; go_must (refine htk.mono ?_); clear htk; rintro e w6 ⟨A6, n6, c6, rfl, hn6, _, hR6, f6⟩; obtain rfl : n6 = 0 := (by omega); clear hn6; have hlf := left_any w6 r RA rc Y 0 hR6; rw [Nat.sub_zero] at hlf)
            | (go_at_call 41; go_must (refine hlf.mono ?_); clear hlf; rintro e w7 ⟨rfl, m, rfl⟩)
            | (go_at_call 39; refine (num_any _ _).mono ?_; rintro e w' ⟨rfl, rfl⟩))
          go_meet
          exact ⟨hR6.drewN m, f6.drewN m⟩
        · have x3 : ¬ (0 : Int) < (n0 : Int) := by omega
          clear hfw hwh hct m5 p35
          go_wp2
          go_meet
          exact ⟨hR, Fr.refl _ _⟩
      case rest =>
        obtain ⟨hRc, fc⟩ := hcut
        clear hR hfw
        have m5c : Below wr.heap.size wr wc := m5.trans (fc.below (fun k hk => by omega) m5.size)
        have p3c := own_fr p3r (Fr.of_new (S := noB) m5c) (fun _ _ h => h)
        have hbc : Below w.heap.size w wc := hbw.trans (m5c.mono hbw.size)
        have htk := takeP_any wc r RA rc Y 0 n0 (by omega) hRc (by omega)
        obtain ⟨e1, e2⟩ := hwh
        rw [List.drop_zero, e1, e2] at htk
        simp only [Option.getD_some, Nat.zero_add] at htk
        clear e1 e2 p35 fc m5 hRc
        go_wp2_with (first
            | (go_at_call 44; go_must (refine htk.mono ?_); clear htk; rintro e w6 ⟨A6, n6, c6, rfl, hn6, ho6, hR6, f6⟩; obtain rfl : n6 = n0 := (by have := HLL.out; omega); clear hn6; have hlf := left_any w6 r RA rc Y _ hR6; rw [Nat.sub_self] at hlf)
            | (go_at_call 41; go_must (refine hlf.mono ?_); clear hlf; rintro e w7 ⟨rfl, m, rfl⟩)
            | (go_at_call 39; refine (num_any _ _).mono ?_; rintro e w' ⟨rfl, rfl⟩))
        have rr6 := Reads.of_own ho6
        have hrc : wr.heap.size ≤ r := hrg
        have h6c : Below w.heap.size w w6 := hbc.trans (f6.below (fun k hk => by omega) hbc.size)
        have p36 := own_fr p3c f6 (fun k hk e => by have := (p3r.lt k hk).2; omega)
        have cp3 := (own_cap p3).1
        have s6 := h6c.size
        clear ho6 hR6 f6 p3c hbc m5c p3r ho hRA hrg hb hbw p3 m3w m3
        obtain ⟨wo, rfl⟩ : ∃ wo : World, wo = wr := ⟨_, rfl⟩
        go_loopw [15] (fun kv wx => ∃ k : Nat, k ≤ n6 ∧ kv = .int .i64 k ∧ Below w6.heap.size w6 wx) (fun kv _ => n6 - (intOf kv).toNat)
        case atStart => exact ⟨0, by omega, rfl, below_drewN (Below.refl _ _) _⟩
        case round =>
          obtain ⟨k, hk, rfl, hbx⟩ := hrel
          have x5 : (0 : Int) ≤ (k : Int) := by omega
          have hwx : Below w.heap.size w wr := h6c.trans (hbx.mono s6)
          by_cases hkl : k < n6
          · have x6 : (k : Int) < (n6 : Int) := by omega
            have hle2 : 2 * k + 1 < L.length := by have := HLL.out; omega
            obtain ⟨a0, rfl, hab, hcell⟩ := (h0.below hwx).2 (by omega)
            obtain ⟨a6, rfl, hab6, hcell6⟩ := (rr6.below hbx).2 (by omega)
            have c0 := hcell (2 * k) (.int .u64 (L[2 * k]'(by omega) : Nat)) (by simp [wrds, show 2 * k < L.length by omega])
            have c1 := hcell (2 * k + 1) (.int .u64 (L[2 * k + 1]'hle2 : Nat)) (by simp [wrds, hle2])
            have d0 := hcell6 (2 * k) (.int .u64 (L[2 * k]'(by omega) : Nat)) (by simp [wrds, show 2 * k < L.length by omega])
            have d1 := hcell6 (2 * k + 1) (.int .u64 (L[2 * k + 1]'hle2 : Nat)) (by simp [wrds, hle2])
            obtain ⟨x, hx⟩ : ∃ x, L[2 * k] = x := ⟨_, rfl⟩
            obtain ⟨y, hy⟩ : ∃ y, L[2 * k + 1] = y := ⟨_, rfl⟩
            rw [hx, Nat.mul_comm 2 k] at c0 d0
            rw [hy, Nat.mul_comm 2 k, ← add_of_add, add_one_at] at c1 d1
            clear hx hy hcell hcell6 hct
            go_wp2
            go_quiet (fail)
            go_wp2
            go_roundw
            case rel => exact ⟨k + 1, by omega, by go_num, below_drewN hbx _⟩
            case measure => simp [intOf]; omega
          · have x6 : ¬ (k : Int) < (n6 : Int) := by omega
            have hkn := knownWire wr
            by_cases hneg : cut < 0
            · have q1 : cut < 0 := hneg
              clear hct
              go_wp2_with (go_at_call 33; go_must (refine hkn.mono ?_); clear hkn; rintro e w9 ⟨rfl, hb9⟩)
              go_ret
              exact ⟨rfl, hwx.trans (hb9.mono hwx.size)⟩
            · by_cases hbig : (Y.length : Int) ≤ cut
              · clear hct
                go_wp2_with (go_at_call 33; go_must (refine hkn.mono ?_); clear hkn; rintro e w9 ⟨rfl, hb9⟩)
                go_ret
                exact ⟨rfl, hwx.trans (hb9.mono hwx.size)⟩
              · obtain ⟨d, rfl⟩ : ∃ d : Nat, cut = d := ⟨cut.toNat, by omega⟩
                obtain ⟨e1, e2⟩ := hct d (by omega)
                have q2 : (0 : Int) ≤ (d : Int) := by omega
                have q3 : (d : Int) ≤ (b3 : Int) := by omega
                have q4 : ¬ (d : Int) < 0 := by omega
                have q5 : ¬ (Y.length : Int) ≤ (d : Int) := hbig
                have p3x := own_fr p36 (Fr.of_new (S := noB) hbx) (fun _ _ h => h)
                have rx := (Reads.of_own p3x).upto (k := d) (by omega)
                rw [Nat.mul_one, ← byts_take] at rx
                have hlT : (Y.take d).length = d := by rw [List.length_take]; omega
                have hop := open_any wr wr.heap.size B3 d b3 (Y.take d) rx (hFs.take d) (Nat.le_refl _) (by omega)
                obtain ⟨T, hT⟩ : ∃ T, Y.take d = T := ⟨_, rfl⟩
                rw [hT] at hop e1 e2 hlT
                have HT := Lib.hid hlT
                clear hct rx hT hlT hbig hneg
                go_wp2_with (first
                  | (go_at_call 34; go_must (refine hop.mono ?_); clear hop; rintro e w8 ⟨s, SA, sc, rfl, hS, hsg, hSA, m8⟩; have htk := takeP_any w8 s SA sc T 0 n6 (by omega) hS (by have := HT.out; omega); rw [List.drop_zero, e1, e2] at htk; simp only [Option.getD_none, Nat.add_zero, List.length_nil] at htk; clear e1 e2)
                  | (go_at_call 44; go_must (refine htk.mono ?_); clear htk; rintro e w9 ⟨A9, n9, c9, rfl, hn9, _, hR9, f9⟩; obtain rfl : n9 = 0 := (by omega); clear hn9; have hlf := left_any w9 s SA sc T 0 hR9; rw [Nat.sub_zero, HT.out] at hlf)
                  | (go_at_call 41; go_must (refine hlf.mono ?_); clear hlf; rintro e w10 ⟨rfl, m, rfl⟩; have hkn2 := knownWire (w9.drewN m))
                  | (go_at_call 33; go_must (refine hkn2.mono ?_); clear hkn2; rintro e w11 ⟨rfl, hb11⟩)
                  | (go_at_call 39; refine (num_any _ _).mono ?_; rintro e w' ⟨rfl, rfl⟩))
                go_ret
                have h8 : Below w.heap.size w w8 := hwx.trans (m8.mono hwx.size)
                have h9 : Below w.heap.size w w9 := h8.trans (f9.below (fun k hk => by have := hwx.size; omega) h8.size)
                exact ⟨rfl, (below_drewN h9 m).trans (hb11.mono h9.size)⟩
end Go.Proofs.Ytpnagblbhlglhaa
