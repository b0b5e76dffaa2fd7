/- The reference's Far. Conditions: those that it states. -/
import Derived.Test.YtpnagblbhlglhaaCrcFar
namespace Go.Proofs.Ytpnagblbhlglhaa
open Go.RowKit
attribute [local go_sem ↓] Go.wp_at_zero Go.wp_at_succ

/-- Between two rounds of the inner loop. -/
def RelIn (w : World) (g q : Nat) (iv : Value) (w' : World) : Prop :=
  ∃ i : Nat, i ≤ 32 ∧ iv = .int .i64 i ∧ Blk w' g 109 (tabV 32 fun j => if j < i then sq (q + q) j else 0) ∧ Blk w' w.heap.size 109 (tabV 32 (sq q)) ∧ Below w.heap.size w w'

set_option maxHeartbeats 4000000 in
set_option maxRecDepth 100000 in
theorem refFar_any (w : World) (s : Nat) (n : Int) (hs : s < 4294967296) (hn : n ≤ 9223372036854775807) :
    Calls Try.prog 20 #[.int .u32 s, .int .i64 n] w fun e w' => e = .returned (.int .u32 (far0 n.toNat s)) ∧ Below w.heap.size w w' := by
  go_enter Try.func20, Try.ntmps20
  go_wp2
  generalize hw : World.alloc _ _ = w1
  have z1 : Blk w1 w.heap.size 109 (tabV 32 fun _ => 0) := by subst hw; exact Blk.new w 109 _
  have hb1 : Below w.heap.size w w1 := by subst hw; exact (Below.refl _ w).alloc (Nat.le_refl _) _
  clear hw
  go_loopw [6] (fun iv wr => ∃ i : Nat, i ≤ 32 ∧ iv = .int .i64 i ∧ Blk wr w.heap.size 109 (tabV 32 fun j => if j < i then sq 1 j else 0) ∧ Below w.heap.size w wr) (fun iv _ => 32 - (intOf iv).toNat)
  case atStart => exact ⟨0, by omega, rfl, by simpa using z1, hb1⟩
  case round =>
    clear z1 hb1
    obtain ⟨i, hi, rfl, z, hb⟩ := hrel
    by_cases hlt : i < 32
    · have hi0 : (0 : Int) ≤ (i : Int) := by omega
      have hi1 : (i : Int) < 32 := by omega
      have hi2 : (i : Int) ≤ 32 := by omega
      have hp : (2 : Int) ^ i % 4294967296 = ((2 ^ i % 4294967296 : Nat) : Int) := by simp
      have hq : sq 1 i = st8 (2 ^ i % 4294967296) := rfl
      obtain ⟨p, hpe⟩ : ∃ p : Nat, 2 ^ i % 4294967296 = p := ⟨_, rfl⟩
      have p1 : p < 4294967296 := by rw [← hpe]; exact Nat.mod_lt _ (by decide)
      rw [hpe] at hp hq
      have hrun := refStep_any wr p p1
      rw [← hq] at hrun
      have yc : wr.cell? ⟨w.heap.size, i, none⟩ = some (.int .u32 0) := by rw [z.cell, tabV_at 32 _ i hlt, if_neg (by omega)]; rfl
      have yf := z.frozen i
      clear hpe hq
      go_wp2_with fail
      refine hrun.mono ?_
      rintro e w2 ⟨rfl, rfl⟩
      go_wp2
      go_roundw
      case rel =>
        refine ⟨i + 1, by omega, by go_num, ?_, hb.setCell (p := ⟨w.heap.size, i, none⟩) (Nat.le_refl _) _⟩
        have := z.set_ i (.int .u32 (sq 1 i))
        rw [tabV_set 32 _ i _ hlt] at this
        rw [tab_next]
        exact this
      case measure => simp [intOf]; omega
    · obtain rfl : i = 32 := by omega
      have e : tabV 32 (fun j => if j < 32 then sq 1 j else 0) = tabV 32 (sq 1) := tabV_congr 32 _ _ fun j hj => if_pos hj
      rw [e] at z
      go_wp2
      obtain ⟨wo, rfl⟩ : ∃ wo : World, wo = wr := ⟨_, rfl⟩
      go_loopw [0, 1] (fun sv nv w' => ∃ (q t : Nat) (x : Int), sv = .int .u32 t ∧ nv = .int .i64 x ∧ t < 4294967296 ∧ x ≤ 9223372036854775807 ∧ far0 n.toNat s = far0 (q * x.toNat) t ∧ Blk w' w.heap.size 109 (tabV 32 (sq q)) ∧ Below w.heap.size w w') (fun _ nv _ => (intOf nv).toNat)
      case atStart => exact ⟨1, s, n, rfl, rfl, hs, hn, by rw [Nat.one_mul], z, hb⟩
      case round =>
        clear z hb
        obtain ⟨q, t, x, rfl, rfl, ht, hx, hfin, z, hb⟩ := hrel
        have HF := Lib.hid hfin
        clear hfin
        by_cases hpos : 0 < x
        · obtain ⟨N, rfl⟩ := Int.eq_ofNat_of_zero_le (Int.le_of_lt hpos)
          have hpN : 0 < N := by omega
          clear hpos
          rcases Nat.mod_two_eq_zero_or_one N with h2 | h2
          · have HE := Lib.hid (far_even q N t h2)
            have ht2 := ht
            have t1 : ((N : Int) % 2 == 1) = false := by rw [beq_eq_false_iff_ne]; omega
            clear h2
            go_wp2
            have B1 : Below w.heap.size w wr := hb
            have hsz := (z).lt
            generalize hw : World.alloc wr _ = w3
            have y3 : Blk w3 w.heap.size 109 (tabV 32 (sq q)) := by subst hw; exact (z).alloc _
            have x3 : Blk w3 (wr).heap.size 109 (tabV 32 fun _ => 0) := by subst hw; exact Blk.new _ 109 _
            have b3 : Below w.heap.size w w3 := by subst hw; exact B1.alloc B1.size _
            have hne : w.heap.size < (wr).heap.size := hsz
            obtain ⟨g, hg⟩ : ∃ g, (wr).heap.size = g := ⟨_, rfl⟩
            rw [hg] at x3 hne ⊢
            clear hw hg B1 hsz
            go_loopw [8] (fun iv w' => RelIn w g q iv w') (fun iv _ => 32 - (intOf iv).toNat)
            case atStart => exact ⟨0, by omega, rfl, by simpa using x3, y3, b3⟩
            case round =>
              clear x3 y3 b3
              obtain ⟨i, hi, rfl, x3, y3, b3⟩ := hrel
              by_cases hlt2 : i < 32
              · have hi0 : (0 : Int) ≤ (i : Int) := by omega
                have hi1 : (i : Int) < 32 := by omega
                have c0 : wr.cell? ⟨w.heap.size, i, none⟩ = some (.int .u32 (sq q i)) := by rw [y3.cell, tabV_at 32 _ i hlt2]
                have r0 : wr.rangeAt w.heap.size 0 (tabV 32 (sq q)).toList := fun j v hv => by rw [y3.cell, Nat.zero_add, ← hv]; simp
                have c2 : wr.cell? ⟨g, i, none⟩ = some (.int .u32 0) := by rw [x3.cell, tabV_at 32 _ i hlt2, if_neg (by omega)]; rfl
                have f2 := x3.frozen i
                have hu := Try.underlying109
                have hi2 : (Try.prog.info? 109).map (·.size) = some (tabV 32 (sq q)).toList.length := by rw [Array.length_toList, tabV_size]; kernel_rfl
                have hcall : Calls Try.prog 68 #[.agg (tabV 32 (sq q)), .int .u32 (sq q i)] wr.drew fun e w4 => e = .returned (.int .u32 (sq (q + q) i)) ∧
                    w4.rangeAt w.heap.size 0 (tabV 32 (sq q)).toList ∧ w4.cell? ⟨w.heap.size, i, none⟩ = some (.int .u32 (sq q i)) ∧ w4.cell? ⟨g, i, none⟩ = some (.int .u32 0) ∧ w4.frozen? ⟨g, i, none⟩ = false ∧ Below wr.heap.size wr w4 := by
                  refine (through_any wr.drew (sq q) (sq_lt q) (sq q i) (sq_lt q i)).mono ?_
                  rintro e w4 ⟨rfl, hb4⟩
                  have hb5 : Below wr.heap.size wr w4 := (Below.refl wr.heap.size wr).drew.trans hb4
                  have y0 := y3.below hb5 y3.lt
                  have y2 := x3.below hb5 x3.lt
                  exact ⟨by rw [thr_sq_sq], fun j v hv => by rw [y0.cell, Nat.zero_add, ← hv]; simp, (y0.cell i).trans (tabV_at 32 _ i hlt2), by rw [y2.cell, tabV_at 32 _ i hlt2, if_neg (by omega)]; rfl, y2.frozen i, hb5⟩
                go_wp2
                go_region_held3 (fun w' => w'.rangeAt w.heap.size 0 (tabV 32 (sq q)).toList ∧ w'.cell? ⟨w.heap.size, i, none⟩ = some (.int .u32 (sq q i))) (first | go_keep_ranges | (exact ⟨fun j v hv => (World.cell?_setCell_other _ _ _ _ (by intro e; injection e with e; omega)).trans (s1 j v hv), (World.cell?_setCell_other _ _ _ _ (by intro e; injection e with e; omega)).trans s2⟩)) (first | (go_at_call 68; refine hcall.mono ?_; rintro e w4 ⟨rfl, s1, s2, s3, s4, s5⟩))
                go_wp2
                go_roundw
                case rel =>
                  have y0 := y3.below s5 y3.lt
                  have y2 := x3.below s5 x3.lt
                  have y6 := y2.set_ i (.int .u32 (sq (q + q) i))
                  rw [tabV_set 32 _ i _ hlt2, ← tab_next] at y6
                  have fin : RelIn w g q (.int .i64 ((i : Int) + 1)) (w4.setCell ⟨g, i, none⟩ (.int .u32 (sq (q + q) i))) :=
                    ⟨i + 1, by omega, by go_num, y6, y0.far (p := ⟨g, i, none⟩) (by show _ ≠ g; omega) _, (b3.trans (s5.mono b3.size)).setCell (p := ⟨g, i, none⟩) (Nat.le_of_lt hne) _⟩
                  first
                    | exact fin
                    | ((repeat apply Exists.intro); exact ⟨fin, rfl⟩)
                case measure => simp [intOf]; omega
              · obtain rfl : i = 32 := by omega
                have e : tabV 32 (fun j => if j < 32 then sq (q + q) j else 0) = tabV 32 (sq (q + q)) := tabV_congr 32 _ _ fun j hj => if_pos hj
                rw [e] at x3
                go_wp2_with (first | (refine wpList_load_row rfl 109 _ rfl g rfl 109 (tabV 32 (sq (q + q))) (0, 0) _ x3 Try.underlying109 rfl (by rw [tabV_size]; kernel_rfl) ?_) | (refine wpList_store_blk rfl 109 _ _ rfl w.heap.size 109 (tabV 32 (sq q)) (tabV 32 (sq (q + q))) y3 rfl rfl (by rw [tabV_size]; kernel_rfl) (by rw [tabV_size, tabV_size]) (tabV_one _ _) ?_; intro w5 z5 f5))
                go_roundw
                case rel =>
                  have hb5 : Below w.heap.size w w5 := b3.trans (f5.below (B := w.heap.size) (fun k e => by omega) b3.size)
                  have hn2 : (N : Int) / 2 ≤ 9223372036854775807 := by omega
                  have c1 : far0 n.toNat s = far0 ((q + q) * ((N : Int) / 2).toNat) (t) := by
                    rw [HF.out, show ((N : Int) / 2).toNat = N / 2 by omega, Int.toNat_natCast, HE.out]
                  first
                    | exact ⟨q + q, t, (N : Int) / 2, rfl, rfl, ht2, hn2, c1, z5, hb5⟩
                    | ((repeat apply Exists.intro); exact ⟨⟨q + q, t, (N : Int) / 2, rfl, rfl, ht2, hn2, c1, z5, hb5⟩, rfl⟩)
                case measure => simp [intOf]; omega
          · have HE := Lib.hid (far_odd q N t h2)
            have ht2 : far0 q t < 4294967296 := far0_lt ht
            have t1 : ((N : Int) % 2 == 1) = true := by rw [beq_iff_eq]; omega
            have hof := fun (w2 : World) => through_any w2 (sq q) (sq_lt q) t ht
            rw [thr_sq q t ht] at hof
            clear h2
            go_wp2_with (first | (refine wpList_load_row rfl 109 _ rfl w.heap.size rfl 109 (tabV 32 (sq q)) (0, 0) _ z Try.underlying109 rfl (by rw [tabV_size]; kernel_rfl) ?_) | (go_at_call 68; refine (hof _).mono ?_; clear hof; rintro e w2 ⟨rfl, b2⟩; have y := z.below b2 z.lt; clear z))
            have B1 : Below w.heap.size w w2 := hb.trans (b2.mono hb.size)
            have hsz := (y).lt
            generalize hw : World.alloc w2 _ = w3
            have y3 : Blk w3 w.heap.size 109 (tabV 32 (sq q)) := by subst hw; exact (y).alloc _
            have x3 : Blk w3 (w2).heap.size 109 (tabV 32 fun _ => 0) := by subst hw; exact Blk.new _ 109 _
            have b3 : Below w.heap.size w w3 := by subst hw; exact B1.alloc B1.size _
            have hne : w.heap.size < (w2).heap.size := hsz
            obtain ⟨g, hg⟩ : ∃ g, (w2).heap.size = g := ⟨_, rfl⟩
            rw [hg] at x3 hne ⊢
            clear hw hg B1 hsz
            go_loopw [8] (fun iv w' => RelIn w g q iv w') (fun iv _ => 32 - (intOf iv).toNat)
            case atStart => exact ⟨0, by omega, rfl, by simpa using x3, y3, b3⟩
            case round =>
              clear x3 y3 b3
              obtain ⟨i, hi, rfl, x3, y3, b3⟩ := hrel
              by_cases hlt2 : i < 32
              · have hi0 : (0 : Int) ≤ (i : Int) := by omega
                have hi1 : (i : Int) < 32 := by omega
                have c0 : wr.cell? ⟨w.heap.size, i, none⟩ = some (.int .u32 (sq q i)) := by rw [y3.cell, tabV_at 32 _ i hlt2]
                have r0 : wr.rangeAt w.heap.size 0 (tabV 32 (sq q)).toList := fun j v hv => by rw [y3.cell, Nat.zero_add, ← hv]; simp
                have c2 : wr.cell? ⟨g, i, none⟩ = some (.int .u32 0) := by rw [x3.cell, tabV_at 32 _ i hlt2, if_neg (by omega)]; rfl
                have f2 := x3.frozen i
                have hu := Try.underlying109
                have hi2 : (Try.prog.info? 109).map (·.size) = some (tabV 32 (sq q)).toList.length := by rw [Array.length_toList, tabV_size]; kernel_rfl
                have hcall : Calls Try.prog 68 #[.agg (tabV 32 (sq q)), .int .u32 (sq q i)] wr.drew fun e w4 => e = .returned (.int .u32 (sq (q + q) i)) ∧
                    w4.rangeAt w.heap.size 0 (tabV 32 (sq q)).toList ∧ w4.cell? ⟨w.heap.size, i, none⟩ = some (.int .u32 (sq q i)) ∧ w4.cell? ⟨g, i, none⟩ = some (.int .u32 0) ∧ w4.frozen? ⟨g, i, none⟩ = false ∧ Below wr.heap.size wr w4 := by
                  refine (through_any wr.drew (sq q) (sq_lt q) (sq q i) (sq_lt q i)).mono ?_
                  rintro e w4 ⟨rfl, hb4⟩
                  have hb5 : Below wr.heap.size wr w4 := (Below.refl wr.heap.size wr).drew.trans hb4
                  have y0 := y3.below hb5 y3.lt
                  have y2 := x3.below hb5 x3.lt
                  exact ⟨by rw [thr_sq_sq], fun j v hv => by rw [y0.cell, Nat.zero_add, ← hv]; simp, (y0.cell i).trans (tabV_at 32 _ i hlt2), by rw [y2.cell, tabV_at 32 _ i hlt2, if_neg (by omega)]; rfl, y2.frozen i, hb5⟩
                go_wp2
                go_region_held3 (fun w' => w'.rangeAt w.heap.size 0 (tabV 32 (sq q)).toList ∧ w'.cell? ⟨w.heap.size, i, none⟩ = some (.int .u32 (sq q i))) (first | go_keep_ranges | (exact ⟨fun j v hv => (World.cell?_setCell_other _ _ _ _ (by intro e; injection e with e; omega)).trans (s1 j v hv), (World.cell?_setCell_other _ _ _ _ (by intro e; injection e with e; omega)).trans s2⟩)) (first | (go_at_call 68; refine hcall.mono ?_; rintro e w4 ⟨rfl, s1, s2, s3, s4, s5⟩))
                go_wp2
                go_roundw
                case rel =>
                  have y0 := y3.below s5 y3.lt
                  have y2 := x3.below s5 x3.lt
                  have y6 := y2.set_ i (.int .u32 (sq (q + q) i))
                  rw [tabV_set 32 _ i _ hlt2, ← tab_next] at y6
                  have fin : RelIn w g q (.int .i64 ((i : Int) + 1)) (w4.setCell ⟨g, i, none⟩ (.int .u32 (sq (q + q) i))) :=
                    ⟨i + 1, by omega, by go_num, y6, y0.far (p := ⟨g, i, none⟩) (by show _ ≠ g; omega) _, (b3.trans (s5.mono b3.size)).setCell (p := ⟨g, i, none⟩) (Nat.le_of_lt hne) _⟩
                  first
                    | exact fin
                    | ((repeat apply Exists.intro); exact ⟨fin, rfl⟩)
                case measure => simp [intOf]; omega
              · obtain rfl : i = 32 := by omega
                have e : tabV 32 (fun j => if j < 32 then sq (q + q) j else 0) = tabV 32 (sq (q + q)) := tabV_congr 32 _ _ fun j hj => if_pos hj
                rw [e] at x3
                go_wp2_with (first | (refine wpList_load_row rfl 109 _ rfl g rfl 109 (tabV 32 (sq (q + q))) (0, 0) _ x3 Try.underlying109 rfl (by rw [tabV_size]; kernel_rfl) ?_) | (refine wpList_store_blk rfl 109 _ _ rfl w.heap.size 109 (tabV 32 (sq q)) (tabV 32 (sq (q + q))) y3 rfl rfl (by rw [tabV_size]; kernel_rfl) (by rw [tabV_size, tabV_size]) (tabV_one _ _) ?_; intro w5 z5 f5))
                go_roundw
                case rel =>
                  have hb5 : Below w.heap.size w w5 := b3.trans (f5.below (B := w.heap.size) (fun k e => by omega) b3.size)
                  have hn2 : (N : Int) / 2 ≤ 9223372036854775807 := by omega
                  have c1 : far0 n.toNat s = far0 ((q + q) * ((N : Int) / 2).toNat) (far0 q t) := by
                    rw [HF.out, show ((N : Int) / 2).toNat = N / 2 by omega, Int.toNat_natCast, HE.out]
                  first
                    | exact ⟨q + q, far0 q t, (N : Int) / 2, rfl, rfl, ht2, hn2, c1, z5, hb5⟩
                    | ((repeat apply Exists.intro); exact ⟨⟨q + q, far0 q t, (N : Int) / 2, rfl, rfl, ht2, hn2, c1, z5, hb5⟩, rfl⟩)
                case measure => simp [intOf]; omega
        · have hx0 : x.toNat = 0 := by omega
          have H0 := Lib.hid hx0
          clear hx0
          go_wp2
          go_ret
          exact ⟨ret_int (by rw [HF.out, H0.out, Nat.mul_zero]; rfl), hb⟩

end Go.Proofs.Ytpnagblbhlglhaa
