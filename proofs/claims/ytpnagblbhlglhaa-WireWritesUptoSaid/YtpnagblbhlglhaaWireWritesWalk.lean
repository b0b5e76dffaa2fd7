/- The walk of wicketlaw01.WireWrites: it answers true where what comes in has at most 1048576 bytes. Conditions: those that it states. -/
import Derived.Test.YtpnagblbhlglhaaWireKnown
import Derived.Deep.CutRange
import Derived.Deep.CutBlock
import Derived.Laws.Concat
namespace Go.Proofs.Ytpnagblbhlglhaa
open Go.RowKit

theorem strN_add (l m : List Nat) : strN (l ++ m) = strN l ++ strN m := by
  apply ByteArray.ext
  simp [strN, ByteArray.data_append]
theorem strN_size (l : List Nat) : (strN l).size = l.length := by
  simp [strN, ByteArray.size]
theorem strN_119 (l : List Nat) : strN (l ++ [119]) = strN l ++ { data := #[119] } := strN_add l [119]
theorem bk_of {A : Option Addr} {n c k : Nat} (h : (Value.slice A n c).ownBlock = some k) : blkOf A = some k := by rwa [ownBlock_slice] at h
/-- Two blocks apart. -/
theorem own_apart {w w' : World} {b1 b2 n1 n2 c1 c2 : Nat} {A1 A2 : Option Addr} {e1 e2 : TypeId} {x1 x2 : List Value} (h1 : w.ownsRow b1 e1 1 (.slice A1 n1 c1) n1 x1) (h2 : w'.ownsRow b2 e2 1 (.slice A2 n2 c2) n2 x2) (hb : w.heap.size ≤ b2) :
    ∀ k, blkOf A2 = some k → blkOf A1 ≠ some k := by
  intro k hk h
  have e1 := (h1.lt k (by rw [ownBlock_slice]; exact h)).2
  have e2 := (h2.lt k (by rw [ownBlock_slice]; exact hk)).1
  omega

set_option maxHeartbeats 4000000 in
set_option maxRecDepth 100000 in
theorem wireWrites_walk (w : World) (N : Nat) (S : Int) (F : Bool) (A0 A1 : Option Addr) (n0 c0 n1 c1 : Nat) (bs : List Nat) (ls : List (List Nat)) (hN : N < 18446744073709551616) (hS0 : -9223372036854775808 ≤ S) (hS1 : S ≤ 9223372036854775807)
    (h0 : Reads w w.heap.size 1 A0 n0 (byts bs)) (hs0 : Small bs) (hn0 : n0 ≤ 1048576) (h1 : Reads2 w w.heap.size A1 n1 ls) (hn1 : n1 ≤ 1048576) (htot : ls.flatten.length ≤ 1048576) :
    Calls Try.prog 5 #[.agg #[.int .u64 N, .int .i64 S, .bool F, .slice A0 n0 c0], .slice A1 n1 c1] w fun e w' => e = .returned (.bool true) ∧ Below w.heap.size w w' := by
  obtain ⟨i0, hi, hz0, hz1, hz2⟩ := info_parts Try.info5w
  obtain ⟨w0, hw0⟩ : ∃ w0, w.alloc (.cells #[.int .u64 N, .int .i64 S, .bool F, .slice A0 n0 c0] 37) = w0 := ⟨_, rfl⟩
  have hb0 : Below w.heap.size w w0 := by subst hw0; exact (Below.refl _ w).alloc (Nat.le_refl _) _
  have hbk : Blk w0 w.heap.size 37 #[.int .u64 N, .int .i64 S, .bool F, .slice A0 n0 c0] := by subst hw0; exact Blk.new w 37 _
  have hlb : bs.length = n0 := by have := h0.1; rw [byts_length] at this; omega
  have hsm : ∀ k (hk : k < ls.length), Small ls[k] := fun k hk => by obtain ⟨_, _, _, _, _, _, _, hs, _⟩ := h1.at_ k hk; exact hs
  have hcell : ∀ W, Below w0.heap.size w0 W → W.cell? ⟨w.heap.size, 0, none⟩ = some (.int .u64 N) ∧ W.cell? ⟨w.heap.size, 1, none⟩ = some (.int .i64 S) ∧ W.cell? ⟨w.heap.size, 2, none⟩ = some (.bool F) ∧ W.cell? ⟨w.heap.size, 3, none⟩ = some (.slice A0 n0 c0) := by
    intro W hW
    have y := hbk.below hW hbk.lt
    exact ⟨(y.cell 0).trans rfl, (y.cell 1).trans rfl, (y.cell 2).trans rfl, (y.cell 3).trans rfl⟩
  have r0 := h0.below hb0
  obtain ⟨d0, d1, d2, d3⟩ := hcell w0 (Below.refl _ _)
  go_enter Try.func5, Try.ntmps5
  go_wp2_with (at_builtin; refine wpList_append_any _ rfl _ _ 24 rfl w0.heap.size 5 i0 (.int .u8 0) 1 1 Try.underlying24 hi hz0 hz1 hz2 rfl (by decide) _ _ _ rfl (World.ownsRow_nil _ _ _ _) w.heap.size A0 n0 c0 _ rfl r0 ?c1 ?c2 ?c3 ?c4 ?_)
  case c1 => exact byts_one _
  case c2 => unfold maxLen; omega
  case c3 => omega
  case c4 => exact Nat.le_refl _
  intro v1 w1 o1 g1 _
  obtain ⟨P1, p1, rfl⟩ := own_shape o1
  clear d0 d1 d2 d3 hw0
  have hb1 : Below w0.heap.size w0 w1 := (Below.refl _ _).grown g1 (Nat.le_refl _) (fun k hk => by cases hk)
  go_wp2_with (at_builtin; refine wpList_append_any _ rfl _ _ 24 rfl w0.heap.size 5 i0 (.int .u8 0) 1 1 Try.underlying24 hi hz0 hz1 hz2 rfl (by decide) _ _ _ rfl (o1.alloc _) (w1.heap.size + 1) (some ⟨w1.heap.size, 0, none⟩) 1 1 _ rfl (reads_one w1 119) ?c1 ?c2 ?c3 ?c4 ?_)
  case c1 => exact byts_one _
  case c2 => unfold maxLen; omega
  case c3 => omega
  case c4 => simp; have := hb1.size; omega
  intro v2 w2 o2 g2 _
  obtain ⟨P2, p2, rfl⟩ := own_shape o2
  have hb2 : Below w0.heap.size w0 w2 := (hb1.alloc hb1.size _).grown g2 (by simp; have := hb1.size; omega) (own_base o1)
  rw [← byts_append] at o2
  obtain ⟨gO, rfl, hgO, hgO2, hcO, hfO, hsO⟩ := own_open o2 (by omega)
  have hcap2 := (own_cap o2).1
  have rO := (Reads.of_own o2).upto (k := n0) (by omega)
  rw [Nat.mul_one, ← byts_take, ← hlb, List.take_left, hlb] at rO
  clear o1 g1 g2 hgO hcO hfO hsO hb1 r0
  obtain ⟨L3, hL3⟩ : ∃ L, numF n0 ++ bs = L := ⟨_, rfl⟩
  obtain ⟨L1, hL1⟩ : ∃ L, numF N = L := ⟨_, rfl⟩
  have s3 : Small L3 ∧ L3.length ≤ 1048586 ∧ 0 < L3.length := by subst hL3; exact ⟨(numF_small n0).append hs0, by rw [List.length_append]; have := numF_le n0 (by omega); omega, by rw [List.length_append]; have := numF_pos n0; omega⟩
  have s1 : Small L1 ∧ L1.length ≤ 10 ∧ 0 < L1.length := by subst hL1; exact ⟨numF_small N, numF_le N hN, numF_pos N⟩
  have lift : ∀ (W : World) (f : FuncId) (args : Array Value) (L : List Nat), Below w2.heap.size w2 W → Tells W f args L →
      Calls Try.prog f args W fun e w' => ∃ A c, e = .returned (.slice A L.length c) ∧ w'.ownsRow W.heap.size 5 1 (.slice A L.length c) L.length (byts L) ∧ Below W.heap.size W w' ∧ Below w2.heap.size w2 w' ∧ w'.cell? ⟨w.heap.size, 0, none⟩ = some (.int .u64 N) ∧ w'.cell? ⟨w.heap.size, 1, none⟩ = some (.int .i64 S) ∧ w'.cell? ⟨w.heap.size, 2, none⟩ = some (.bool F) ∧ w'.cell? ⟨w.heap.size, 3, none⟩ = some (.slice A0 n0 c0) := by
    intro W f args L hW ht
    refine Calls.mono ht ?_
    rintro e w' ⟨A, c, rfl, ho, hb⟩
    have hb' := hW.trans (hb.mono hW.size)
    exact ⟨A, c, rfl, ho, hb, hb', hcell w' (hb2.trans (hb'.mono hb2.size))⟩
  have q23a := fun (W : World) (hW : Below w2.heap.size w2 W) => lift W 23 _ L3 hW (by rw [← hL3]; exact bytes_tells W w2.heap.size (some ⟨gO, 0, none⟩) n0 p2 bs (rO.below hW) hW.size (by omega))
  have q23b := q23a
  have q24a := fun (W : World) (hW : Below w2.heap.size w2 W) => lift W 24 _ L1 hW (by rw [← hL1]; exact number_tells W N hN)
  have q24b := q24a
  have bel2 : Below w2.heap.size w2 w2.drew := (Below.refl _ w2).drew
  obtain ⟨d0, d1, d2, d3⟩ := hcell _ (hb2.trans (bel2.mono hb2.size))
  have u1 : (0 : Int) ≤ (n0 : Int) := by omega
  have u2 : (n0 : Int) ≤ (p2 : Int) := by omega
  clear lift
  go_wp2
  go_region_held3 (fun w' => w'.cell? ⟨w.heap.size, 0, none⟩ = some (.int .u64 N) ∧ w'.cell? ⟨w.heap.size, 1, none⟩ = some (.int .i64 S) ∧ w'.cell? ⟨w.heap.size, 2, none⟩ = some (.bool F) ∧ w'.cell? ⟨w.heap.size, 3, none⟩ = some (.slice A0 n0 c0)) (first | (refine ⟨?_, ?_, ?_, ?_⟩ <;> assumption) | go_keep) (first
    | (go_at_call 23; refine (q23a _ (by assumption)).mono ?_; clear q23a; rintro e wa ⟨Aa, ca, rfl, oa, ma, ga, xa0, xa1, xa2, xa3⟩)
    | (go_at_call 23; refine (q23b _ (by assumption)).mono ?_; clear q23b; rintro e wb ⟨Ab, cb, rfl, ob, mb, gb, xb0, xb1, xb2, xb3⟩))
  obtain ⟨e0, e1, e2, e3⟩ := hcell _ (hb2.trans ((gb.drew).mono hb2.size))
  have belb : Below w2.heap.size w2 wb.drew := gb.drew
  go_wp2
  go_region_held3 (fun w' => w'.cell? ⟨w.heap.size, 0, none⟩ = some (.int .u64 N) ∧ w'.cell? ⟨w.heap.size, 1, none⟩ = some (.int .i64 S) ∧ w'.cell? ⟨w.heap.size, 2, none⟩ = some (.bool F) ∧ w'.cell? ⟨w.heap.size, 3, none⟩ = some (.slice A0 n0 c0)) (first | (refine ⟨?_, ?_, ?_, ?_⟩ <;> assumption) | go_keep) (first
    | (go_at_call 24; refine (q24a _ (by assumption)).mono ?_; clear q24a; rintro e wn ⟨An, cn, rfl, on, mn, gn, xn0, xn1, xn2, xn3⟩)
    | (go_at_call 24; refine (q24b _ (by assumption)).mono ?_; clear q24b; rintro e wm ⟨Am, cm, rfl, om, mm, gm, xm0, xm1, xm2, xm3⟩))
  -- all that is owned stands in wm
  have kbn : Below wb.heap.size wb wn := ((Below.refl _ wb).drew).trans mn
  have kbm : Below wb.heap.size wb wm := kbn.trans (mm.mono kbn.size)
  have kam : Below wa.heap.size wa wm := mb.trans (kbm.mono mb.size)
  have ia : ∀ k, blkOf Aa = some k → w2.heap.size ≤ k ∧ k < wa.heap.size := fun k hk => oa.lt k (by rw [ownBlock_slice]; exact hk)
  have ib : ∀ k, blkOf Ab = some k → wa.heap.size ≤ k ∧ k < wb.heap.size := fun k hk => ob.lt k (by rw [ownBlock_slice]; exact hk)
  have iN : ∀ k, blkOf An = some k → wb.heap.size ≤ k ∧ k < wn.heap.size := fun k hk => on.lt k (by rw [ownBlock_slice]; exact hk)
  have im : ∀ k, blkOf Am = some k → wn.heap.size ≤ k ∧ k < wm.heap.size := fun k hk => om.lt k (by rw [ownBlock_slice]; exact hk)
  have z1 : wa.heap.size ≤ wb.heap.size := mb.size
  have z2 : wb.heap.size ≤ wn.heap.size := kbn.size
  have z3 : wn.heap.size ≤ wm.heap.size := mm.size
  replace oa := own_mono (own_fr oa (Fr.of_new (S := noB) kam) (fun _ _ h => h)) (base' := 0) (Nat.zero_le _)
  replace ob := own_mono (own_fr ob (Fr.of_new (S := noB) kbm) (fun _ _ h => h)) (base' := 0) (Nat.zero_le _)
  replace on := own_mono (own_fr on (Fr.of_new (S := noB) mm) (fun _ _ h => h)) (base' := 0) (Nat.zero_le _)
  replace om := own_mono om (base' := 0) (Nat.zero_le _)
  replace o2 := own_mono (own_fr o2 (Fr.of_new (S := noB) gm) (fun _ _ h => h)) (base' := 0) (Nat.zero_le _)
  have z0 : w2.heap.size ≤ wa.heap.size := ga.size
  have hbm : Below w0.heap.size w0 wm := hb2.trans (gm.mono hb2.size)
  have hbw : Below w.heap.size w wm := hb0.trans (hbm.mono hb0.size)
  have h1m := h1.below hbw
  have h0m := h0.below hbw
  have hcm := fun (W : World) (hW : Below wm.heap.size wm W) => hcell W (hbm.trans (hW.mono hbm.size))
  have zw : w.heap.size ≤ w2.heap.size := by have := hb0.size; have := hb2.size; omega
  clear xa0 xa1 xa2 xa3 xb0 xb1 xb2 xb3 xn0 xn1 xn2 xn3 xm0 xm1 xm2 xm3 d0 d1 d2 d3 e0 e1 e2 e3 ga gb gn gm ma mb mn mm kbn kbm kam belb bel2 rO hb0 hbk h0 h1 u1 u2
  have hlen := h1m.len
  have HL := Lib.hid hlen
  clear hlen
  go_wp2
  go_loopw [10, 11] (fun av iv wr => ∃ (k : Nat) (G : Option Addr) (gc : Nat), k ≤ n1 ∧ iv = .int .i64 k ∧ av = .slice G (flatTo ls k).length gc ∧ wr.ownsRow wm.heap.size 5 1 (.slice G (flatTo ls k).length gc) (flatTo ls k).length (byts (flatTo ls k)) ∧ Below wm.heap.size wm wr) (fun _ iv _ => n1 - (intOf iv).toNat)
  case atStart => exact ⟨0, none, 0, by omega, rfl, rfl, World.ownsRow_nil _ _ _ _, Below.refl _ _⟩
  case round =>
    obtain ⟨k, G, gc, hk, rfl, rfl, ho, hb⟩ := hrel
    have hfl := flatTo_le ls k
    by_cases hlt : k < n1
    · have hl := HL.out
      have hk2 : k < ls.length := by omega
      obtain ⟨ad, A', c', rfl, hab, hc, hr, hs, hm⟩ := (h1m.below (hb.mono (by omega))).at_ k hk2
      have hstep := flatTo_succ ls k hk2
      have hfl2 := flatTo_le ls (k + 1)
      have hln : (flatTo ls (k + 1)).length = (flatTo ls k).length + ls[k].length := by rw [hstep, List.length_append]
      have k0 : (0 : Int) ≤ (k : Int) := by omega
      have k1 : (k : Int) < (n1 : Int) := by omega
      have hsz := hb.size
      have HS := Lib.hid hstep
      have HN := Lib.hid hln
      have hbd : (flatTo ls k).length + ls[k].length ≤ 1048576 := by omega
      clear hstep hl hln hfl2
      go_wp2_with (at_builtin; refine wpList_append_any _ rfl _ _ 24 rfl wm.heap.size 5 i0 (.int .u8 0) 1 1 Try.underlying24 hi hz0 hz1 hz2 rfl (by decide) _ _ _ rfl ho w.heap.size A' _ c' _ rfl hr ?c1 ?c2 ?c3 ?c4 ?_)
      case c1 => exact byts_one _
      case c2 => unfold maxLen; omega
      case c3 => omega
      case c4 => exact hsz
      intro v2 w2 ho2 hg2 _
      obtain ⟨G2, g2, rfl⟩ := own_shape ho2
      go_wp2
      go_roundw
      case rel =>
        refine ⟨k + 1, G2, g2, by omega, by go_num, by rw [HN.out], ?_, hb.grown hg2 hsz (own_base ho)⟩
        rw [HN.out, HS.out, byts_append]
        exact ho2
      case measure => simp [intOf]; omega
    · have hk3 : flatTo ls k = ls.flatten := by
        have : k = ls.length := by have := HL.out; omega
        rw [this, flatTo_all]
      have hfs : Small ls.flatten := by rw [← hk3]; exact small_flatTo hsm k
      rw [hk3] at ho ⊢
      clear hk3 hfl
      have hsz := hb.size
      have zr : wm.heap.size ≤ wr.heap.size := hb.size
      have iG : ∀ k, blkOf G = some k → wm.heap.size ≤ k ∧ k < wr.heap.size := fun k hk => ho.lt k (by rw [ownBlock_slice]; exact hk)
      have hj := join_tells wr w.heap.size A1 n1 c1 ls (h1m.below (hb.mono (by omega))) (by omega) (by omega) (by omega)
      unfold Tells at hj
      obtain ⟨FL, hF⟩ : ∃ F, ls.flatten = F := ⟨_, rfl⟩
      rw [hF] at ho hj hfs htot ⊢
      have HF := Lib.hid hF
      clear hF
      go_wp2_with (go_at_call 25; refine hj.mono ?_; clear hj; rintro e wj ⟨Aj, cj, rfl, oj, bj⟩)
      have hbr := hb
      have kj : Below wm.heap.size wm wj := hb.trans (bj.mono hb.size)
      have ij : ∀ k, blkOf Aj = some k → wr.heap.size ≤ k ∧ k < wj.heap.size := fun k hk => oj.lt k (by rw [ownBlock_slice]; exact hk)
      replace oa := own_fr oa (Fr.of_new (S := noB) kj) (fun _ _ h => h)
      replace ob := own_fr ob (Fr.of_new (S := noB) kj) (fun _ _ h => h)
      replace on := own_fr on (Fr.of_new (S := noB) kj) (fun _ _ h => h)
      replace om := own_fr om (Fr.of_new (S := noB) kj) (fun _ _ h => h)
      replace o2 := own_fr o2 (Fr.of_new (S := noB) kj) (fun _ _ h => h)
      replace ho := own_mono (own_fr ho (Fr.of_new (S := noB) bj) (fun _ _ h => h)) (base' := 0) (Nat.zero_le _)
      replace oj := own_mono oj (base' := 0) (Nat.zero_le _)
      replace h1m := h1m.below (kj.mono (by omega))
      replace h0m := h0m.below (kj.mono (by omega))
      have hcj := fun (W : World) (hW : Below wj.heap.size wj W) => hcm W (kj.trans (hW.mono kj.size))
      have zj : wr.heap.size ≤ wj.heap.size := bj.size
      have kw : Below w.heap.size w wj := hbw.trans (kj.mono hbw.size)
      have kw0 : Below w0.heap.size w0 wj := hbm.trans (kj.mono hbm.size)
      have zv : w0.heap.size ≤ w2.heap.size := hb2.size
      clear hb hbr bj hcm hbw hbm kj
      obtain ⟨L2, hL2⟩ : ∃ L, numF (zig S) = L := ⟨_, rfl⟩
      obtain ⟨L4, hL4⟩ : ∃ L, flagF F = L := ⟨_, rfl⟩
      have s2 : Small L2 := by subst hL2; exact numF_small _
      have s4 : Small L4 := by subst hL4; cases F <;> exact small_of (by decide)
      have lift : ∀ (W : World) (f : FuncId) (args : Array Value) (L : List Nat), Below wj.heap.size wj W → Tells W f args L →
          Calls Try.prog f args W fun e w' => ∃ A c, e = .returned (.slice A L.length c) ∧ Reads w' w'.heap.size 1 A L.length (byts L) ∧ Below W.heap.size W w' ∧ Below wj.heap.size wj w' ∧ w'.cell? ⟨w.heap.size, 0, none⟩ = some (.int .u64 N) ∧ w'.cell? ⟨w.heap.size, 1, none⟩ = some (.int .i64 S) ∧ w'.cell? ⟨w.heap.size, 2, none⟩ = some (.bool F) ∧ w'.cell? ⟨w.heap.size, 3, none⟩ = some (.slice A0 n0 c0) := by
        intro W f args L hW ht
        refine Calls.mono ht ?_
        rintro e w' ⟨A, c, rfl, ho, hb⟩
        have hb' := hW.trans (hb.mono hW.size)
        exact ⟨A, c, rfl, Reads.of_own ho, hb, hb', hcj w' hb'⟩
      have q26 := fun (W : World) (hW : Below wj.heap.size wj W) => lift W 26 _ L3 hW (by rw [← hL3]; exact refBytes_tells W w.heap.size A0 n0 c0 bs (h0m.below (hW.mono (by omega))) (by have := hW.size; omega) (by omega))
      have q27 := fun (W : World) (hW : Below wj.heap.size wj W) => lift W 27 _ L1 hW (by rw [← hL1]; exact refNumber_tells W N hN)
      have q28 := fun (W : World) (hW : Below wj.heap.size wj W) => lift W 28 _ L2 hW (by rw [← hL2]; exact signed_tells W S hS0 hS1)
      have q29 := fun (W : World) (hW : Below wj.heap.size wj W) => lift W 29 _ L2 hW (by rw [← hL2]; exact refSigned_tells W S hS0 hS1)
      have q30 := fun (W : World) (hW : Below wj.heap.size wj W) => lift W 30 _ L4 hW (by rw [← hL4]; exact flag_tells W F)
      have q31 := fun (W : World) (hW : Below wj.heap.size wj W) => lift W 31 _ L4 hW (by rw [← hL4]; exact refFlag_tells W F)
      have belj : Below wj.heap.size wj wj.drew := (Below.refl _ wj).drew
      obtain ⟨d0, d1, d2, d3⟩ := hcj _ belj
      have ra := fun (W : World) (hW : Below wj.heap.size wj W) => run_str (P := Try.prog) (src := 24) (dst := 9) (c := ca) rfl rfl rfl ((Reads.of_own oa).below hW) s3.1
      have rn := fun (W : World) (hW : Below wj.heap.size wj W) => run_str (P := Try.prog) (src := 24) (dst := 9) (c := cn) rfl rfl rfl ((Reads.of_own on).below hW) s1.1
      have rj := fun (W : World) (hW : Below wj.heap.size wj W) => run_str (P := Try.prog) (src := 24) (dst := 9) (c := cj) rfl rfl rfl ((Reads.of_own oj).below hW) hfs
      have rG := fun (W : World) (hW : Below wj.heap.size wj W) => run_str (P := Try.prog) (src := 24) (dst := 9) (c := gc) rfl rfl rfl ((Reads.of_own ho).below hW) hfs
      have f0 := ra _ belj
      have f1 := rn _ belj
      have f2 := rj _ belj
      have f3 := rG _ belj
      clear lift hL2 hL4
      go_upto_region 10 with (fail)
      go_cut [96] from 52 to 160 (fun v wx => v = .bool false ∧ Below wj.heap.size wj wx)
      case first =>
        clear hL1 hL3 ia ib iN im iG ij z0 z1 z2 z3 zr zj zw oa ob on om o2 ho oj h1m h0m hcj kw HL HF hsm hi hz0 hz1 hz2 hN hS0 hS1 hs0 hn0 hn1 htot hlb hcap2 hgO2 hk hlt hsz
        go_region_held (fun w' => w'.cell? ⟨w.heap.size, 0, none⟩ = some (.int .u64 N) ∧ w'.cell? ⟨w.heap.size, 1, none⟩ = some (.int .i64 S) ∧ w'.cell? ⟨w.heap.size, 2, none⟩ = some (.bool F) ∧ w'.cell? ⟨w.heap.size, 3, none⟩ = some (.slice A0 n0 c0) ∧ (convert 24 9 (.slice Aa L3.length ca)).run Try.prog w' = .ok (.string (strN L3)) w' ∧ (convert 24 9 (.slice An L1.length cn)).run Try.prog w' = .ok (.string (strN L1)) w' ∧ (convert 24 9 (.slice Aj FL.length cj)).run Try.prog w' = .ok (.string (strN FL)) w' ∧ (convert 24 9 (.slice G FL.length gc)).run Try.prog w' = .ok (.string (strN FL)) w') (first | (refine ⟨?_, ?_, ?_, ?_, ?_, ?_, ?_, ?_⟩ <;> assumption) | go_keep) (first
          | (go_at_call 26; refine (q26 _ (by assumption)).mono ?_; rintro e w26 ⟨A26, c26, rfl, o26, m26, g26, x60, x61, x62, x63⟩; have a60 := ra _ g26; have a61 := rn _ g26; have a62 := rj _ g26; have a63 := rG _ g26; have t57 := run_str (P := Try.prog) (src := 24) (dst := 9) (c := c26) rfl rfl rfl o26 s3.1)
          | (go_at_call 27; refine (q27 _ (by assumption)).mono ?_; rintro e w27 ⟨A27, c27, rfl, o27, m27, g27, x70, x71, x72, x73⟩; have a70 := ra _ g27; have a71 := rn _ g27; have a72 := rj _ g27; have a73 := rG _ g27; have t65 := run_str (P := Try.prog) (src := 24) (dst := 9) (c := c27) rfl rfl rfl o27 s1.1)
          | (go_at_call 28; refine (q28 _ (by assumption)).mono ?_; rintro e w28 ⟨A28, c28, rfl, o28, m28, g28, x80, x81, x82, x83⟩; have a80 := ra _ g28; have a81 := rn _ g28; have a82 := rj _ g28; have a83 := rG _ g28; have t72 := run_str (P := Try.prog) (src := 24) (dst := 9) (c := c28) rfl rfl rfl o28 s2; try (have t76b := run_str (P := Try.prog) (src := 24) (dst := 9) (c := c29) rfl rfl rfl (o29.below m28) s2))
          | (go_at_call 29; refine (q29 _ (by assumption)).mono ?_; rintro e w29 ⟨A29, c29, rfl, o29, m29, g29, x90, x91, x92, x93⟩; have a90 := ra _ g29; have a91 := rn _ g29; have a92 := rj _ g29; have a93 := rG _ g29; have t76 := run_str (P := Try.prog) (src := 24) (dst := 9) (c := c29) rfl rfl rfl o29 s2; try (have t72b := run_str (P := Try.prog) (src := 24) (dst := 9) (c := c28) rfl rfl rfl (o28.below m29) s2))
          | (go_at_call 30; refine (q30 _ (by assumption)).mono ?_; rintro e w30 ⟨A30, c30, rfl, o30, m30, g30, y00, y01, y02, y03⟩; have b00 := ra _ g30; have b01 := rn _ g30; have b02 := rj _ g30; have b03 := rG _ g30; have t83 := run_str (P := Try.prog) (src := 24) (dst := 9) (c := c30) rfl rfl rfl o30 s4; try (have t87b := run_str (P := Try.prog) (src := 24) (dst := 9) (c := c31) rfl rfl rfl (o31.below m30) s4))
          | (go_at_call 31; refine (q31 _ (by assumption)).mono ?_; rintro e w31 ⟨A31, c31, rfl, o31, m31, g31, y10, y11, y12, y13⟩; have b10 := ra _ g31; have b11 := rn _ g31; have b12 := rj _ g31; have b13 := rG _ g31; have t87 := run_str (P := Try.prog) (src := 24) (dst := 9) (c := c31) rfl rfl rfl o31 s4; try (have t83b := run_str (P := Try.prog) (src := 24) (dst := 9) (c := c30) rfl rfl rfl (o30.below m31) s4)))
        all_goals go_wp2
        all_goals go_meet
        all_goals (first | exact ⟨rfl, g31⟩ | exact ⟨rfl, g30⟩)
      case rest =>
        obtain ⟨rfl, hB⟩ := hcut
        clear f0 f1 f2 f3 d0 d1 d2 d3 q26 q27 q28 q29 q30 q31 ra rn rj rG belj s2 s4 hcj
        have kx : Below w.heap.size w wc := kw.trans (hB.mono kw.size)
        have kx0 : Below w0.heap.size w0 wc := kw0.trans (hB.mono kw0.size)
        replace oa := own_fr oa (Fr.of_new (S := noB) hB) (fun _ _ h => h)
        replace ob := own_fr ob (Fr.of_new (S := noB) hB) (fun _ _ h => h)
        replace on := own_fr on (Fr.of_new (S := noB) hB) (fun _ _ h => h)
        replace om := own_fr om (Fr.of_new (S := noB) hB) (fun _ _ h => h)
        replace o2 := own_fr o2 (Fr.of_new (S := noB) hB) (fun _ _ h => h)
        replace ho := own_fr ho (Fr.of_new (S := noB) hB) (fun _ _ h => h)
        replace oj := own_fr oj (Fr.of_new (S := noB) hB) (fun _ _ h => h)
        replace h1m := h1m.below (hB.mono (by omega))
        replace h0m := h0m.below (hB.mono (by omega))
        have zx : wj.heap.size ≤ wc.heap.size := hB.size
        clear hB kw kw0
        have hs1 := spoil_any wc 0 Aa _ ca L3 oa (Nat.zero_le _) (by omega)
        go_wp2_with (first
          | (go_at_call 32; refine hs1.mono ?_; clear hs1; rintro e y1 ⟨rfl, f1⟩; replace on := own_fr on f1 (fun k hk h => by have := ia k h; have := iN k (bk_of hk); omega); have hs2 := spoil_any y1 0 An _ cn L1 on (Nat.zero_le _) (by omega))
          | (go_at_call 32; refine hs2.mono ?_; clear hs2; rintro e y2 ⟨rfl, f2⟩; replace oj := own_fr (own_fr oj f1 (fun k hk h => by have := ia k h; have := ij k (bk_of hk); omega)) f2 (fun k hk h => by have := iN k h; have := ij k (bk_of hk); omega); have hs3 := spoil_any y2 0 Aj _ cj FL oj (Nat.zero_le _) (by omega))
          | (go_at_call 32; refine hs3.mono ?_; clear hs3; rintro e y3 ⟨rfl, f3⟩; have ky1 : Below w2.heap.size wc y1 := f1.below (fun k hk => by have := ia k hk; omega) (by omega)))
        have ky2 : Below w2.heap.size y1 y2 := f2.below (fun k hk => by have := iN k hk; omega) (by have := ky1.size; omega)
        have ky3 : Below w2.heap.size y2 y3 := f3.below (fun k hk => by have := ij k hk; omega) (by have := ky1.size; have := ky2.size; omega)
        have ky : Below w2.heap.size wc y3 := ky1.trans (ky2.trans ky3)
        replace ob := own_fr (own_fr (own_fr ob f1 (fun k hk h => by have := ia k h; have := ib k (bk_of hk); omega)) f2 (fun k hk h => by have := iN k h; have := ib k (bk_of hk); omega)) f3 (fun k hk h => by have := ij k h; have := ib k (bk_of hk); omega)
        replace om := own_fr (own_fr (own_fr om f1 (fun k hk h => by have := ia k h; have := im k (bk_of hk); omega)) f2 (fun k hk h => by have := iN k h; have := im k (bk_of hk); omega)) f3 (fun k hk h => by have := ij k h; have := im k (bk_of hk); omega)
        replace ho := own_fr (own_fr (own_fr ho f1 (fun k hk h => by have := ia k h; have := iG k (bk_of hk); omega)) f2 (fun k hk h => by have := iN k h; have := iG k (bk_of hk); omega)) f3 (fun k hk h => by have := ij k h; have := iG k (bk_of hk); omega)
        replace o2 := (Reads.of_own o2).below ((Below.refl _ wc).mono (Nat.le_refl _))
        replace o2 : Reads y3 w2.heap.size 1 (some ⟨gO, 0, none⟩) (n0 + 1) (byts (bs ++ [119])) := by
          have : Reads wc w2.heap.size 1 (some ⟨gO, 0, none⟩) (n0 + 1) (byts (bs ++ [119])) := ⟨o2.1, fun h => by obtain ⟨ad, e, _, hc⟩ := o2.2 h; exact ⟨ad, e, by cases e; exact hgO2, hc⟩⟩
          exact this.below ky
        replace h1m := h1m.below (ky.mono zw)
        replace h0m := h0m.below (ky.mono zw)
        have ky0 : Below w.heap.size w y3 := kx.trans (ky.mono zw)
        have kyc := fun (W : World) (hW : Below y3.heap.size y3 W) => hcell W (kx0.trans ((ky.mono zv).trans (hW.mono (by have := ky.size; omega))))
        replace ob := Reads.of_own ob
        replace om := Reads.of_own om
        have hcap := (own_cap ho).1
        replace ho := Reads.of_own ho
        have zzz : w2.heap.size ≤ y3.heap.size := by have := ky.size; omega
        clear f1 f2 f3 ky1 ky2 ky3 ky kx kx0 oa on oj ia ib iN im iG ij hcell z0 z1 z2 z3 zr zj zx zw zv hgO2 hcap2 hk hlt
        have T0 : flatTo ls 0 = [] := by simp [flatTo]
        go_wp2
        go_loopw [13, 14] (fun iv kv w' => ∃ j m : Nat, j ≤ n1 ∧ iv = .int .i64 j ∧ kv = .int .i64 (flatTo ls j).length ∧ w' = y3.drewN m) (fun iv _ _ => n1 - (intOf iv).toNat)
        case atStart => exact ⟨0, 0, by omega, rfl, by rw [T0]; rfl, rfl⟩
        case round =>
          obtain ⟨j, m, hj, rfl, rfl, hw⟩ := hrel
          subst hw
          by_cases hlt : j < n1
          · have hl := HL.out
            have hj2 : j < ls.length := by omega
            obtain ⟨ad, A', c', rfl, hab, hc, hr, hs, hm⟩ := h1m.at_ j hj2
            have hfp := flat_piece ls j hj2
            rw [HF.out] at hfp
            have hstep := flatTo_succ ls j hj2
            have hln : (flatTo ls (j + 1)).length = (flatTo ls j).length + ls[j].length := by rw [hstep, List.length_append]
            obtain ⟨t, ht⟩ : ∃ t, (flatTo ls j).length = t := ⟨_, rfl⟩
            obtain ⟨l, hlj⟩ : ∃ l, ls[j] = l := ⟨_, rfl⟩
            rw [ht, hlj] at hfp hln
            rw [ht]
            rw [hlj] at hc hr hs hm
            have k0 : (0 : Int) ≤ (j : Int) := by omega
            have k1 : (j : Int) < (n1 : Int) := by omega
            have hc' : ∀ m, (y3.drewN m).cell? (ad.add j) = some (.slice A' l.length c') := fun m => hc
            have s1 := fun m : Nat => run_str (P := Try.prog) (src := 24) (dst := 9) (c := c') rfl rfl rfl (hr.drewN m) hs
            by_cases hgt : gc = t
            · obtain rfl : l = [] := List.eq_nil_of_length_eq_zero (by omega)
              have s2 := fun mm : Nat => run_str (P := Try.prog) (src := 24) (dst := 9) (A := G) (n := 0) (c := 0) (bs := []) (w := y3.drewN mm) (B := 0) rfl rfl rfl ⟨rfl, fun h => absurd h (by omega)⟩ hs
              have v1 : IntKind.i64.wrap (t : Int) = (t : Int) := IntWalk.i64_in _ (by omega)
              have u2 : (0 : Int) ≤ (t : Int) := by omega
              simp only [List.length_nil, Nat.add_zero] at hln s1 hc hc'
              have HS := Lib.hid hln
              clear hln hfp hstep hl hr
              subst hgt
              go_wp2
              go_quiet (fail)
              go_wp2
              go_roundw
              case rel => exact ⟨j + 1, _, by omega, by go_num, by rw [HS.out], rfl⟩
              case measure => simp [intOf]; omega
            · have hsub : ∀ mm, Reads (y3.drewN mm) y3.heap.size 1 (if gc = t then G else G.map (·.add t)) l.length (byts l) := by
                intro mm
                have := ((ho.drewN mm).sub (lo := t) (hi := t + l.length) (by omega) (by omega) hcap)
                rw [Nat.add_sub_cancel_left, ← byts_drop, ← byts_take, hfp.1] at this
                exact this
              have s2 := fun mm : Nat => run_str (P := Try.prog) (src := 24) (dst := 9) (c := gc - t) rfl rfl rfl (hsub mm) hs
              have u1 : IntKind.i64.wrap ((t : Int) + (l.length : Int)) = (t : Int) + (l.length : Int) := IntWalk.i64_in _ (by omega)
              have u2 : (0 : Int) ≤ (t : Int) := by omega
              have u3 : (t : Int) ≤ (t : Int) + (l.length : Int) := by omega
              have u4 : (t : Int) + (l.length : Int) ≤ (gc : Int) := by omega
              have u6 : ((t : Int) + (l.length : Int)).toNat = t + l.length := by omega
              have u5 : t + l.length - t = l.length := by omega
              have HS := Lib.hid hln
              clear hln hfp hstep hl hsub hr
              simp only [hgt, if_false] at s2
              go_wp2
              go_quiet (fail)
              go_wp2
              go_roundw
              case rel => exact ⟨j + 1, _, by omega, by go_num, by rw [HS.out]; go_num, rfl⟩
              case measure => simp [intOf]; omega
          · have hz9 : Below y3.heap.size y3 (y3.drewN m) := below_drewN (Below.refl _ _) m
            have kz := fun (W : World) (hW : Below (y3.drewN m).heap.size (y3.drewN m) W) => kyc W (hz9.trans (hW.mono hz9.size))
            have kw := ky0.trans (hz9.mono ky0.size)
            replace ob := (ob.drewN m).more hz9.size
            replace om := (om.drewN m).more hz9.size
            replace o2 := o2.drewN m
            replace h0m := h0m.drewN m
            have zz : w2.heap.size ≤ (y3.drewN m).heap.size := zzz
            have zw : w.heap.size ≤ (y3.drewN m).heap.size := kw.size
            clear hz9 kyc ky0 ho h1m hsm T0 hfs
            generalize y3.drewN m = wz at kz kw ob om o2 h0m zz zw ⊢
            have hs119 : Small (bs ++ [119]) := hs0.append (small_of (by decide))
            have lift : ∀ (W : World) (f : FuncId) (args : Array Value) (L : List Nat), Below wz.heap.size wz W → Tells W f args L →
                Calls Try.prog f args W fun e w' => ∃ A c, e = .returned (.slice A L.length c) ∧ Reads w' w'.heap.size 1 A L.length (byts L) ∧ Below W.heap.size W w' ∧ Below wz.heap.size wz w' ∧ w'.cell? ⟨w.heap.size, 0, none⟩ = some (.int .u64 N) ∧ w'.cell? ⟨w.heap.size, 3, none⟩ = some (.slice A0 n0 c0) := by
              intro W f args L hW ht
              refine Calls.mono ht ?_
              rintro e w' ⟨A, c, rfl, ho, hb⟩
              have hb' := hW.trans (hb.mono hW.size)
              exact ⟨A, c, rfl, Reads.of_own ho, hb, hb', (kz w' hb').1, (kz w' hb').2.2.2⟩
            have q26 := fun (W : World) (hW : Below wz.heap.size wz W) => lift W 26 _ (numF n0 ++ bs) hW (refBytes_tells W w.heap.size A0 n0 c0 bs (h0m.below (hW.mono (by omega))) (by have := hW.size; omega) (by omega))
            have q27 := fun (W : World) (hW : Below wz.heap.size wz W) => lift W 27 _ (numF N) hW (refNumber_tells W N hN)
            simp only [hL3, hL1] at q26 q27
            have rb := fun (W : World) (hW : Below wz.heap.size wz W) => run_str (P := Try.prog) (src := 24) (dst := 9) (c := cb) rfl rfl rfl (ob.below hW) s3.1
            have rm := fun (W : World) (hW : Below wz.heap.size wz W) => run_str (P := Try.prog) (src := 24) (dst := 9) (c := cm) rfl rfl rfl (om.below hW) s1.1
            have rO := fun (W : World) (hW : Below wz.heap.size wz W) => run_str (P := Try.prog) (src := 24) (dst := 9) (c := p2) rfl rfl rfl (o2.below (hW.mono zz)) hs119
            have rA := fun (W : World) (hW : Below wz.heap.size wz W) => run_str (P := Try.prog) (src := 24) (dst := 9) (c := c0) rfl rfl rfl (h0m.below (hW.mono zw)) hs0
            obtain ⟨X, hX⟩ : ∃ X, strN bs ++ { data := #[119] } = X := ⟨_, rfl⟩
            simp only [strN_119, hX] at rO
            have hadd := fun W : World => run_string_add_sum (P := Try.prog) W (strN bs) { data := #[119] } (by rw [strN_size, show ({ data := #[119] } : ByteArray).size = 1 from rfl]; omega)
            simp only [hX] at hadd
            clear hX
            have belz : Below wz.heap.size wz wz.drew := (Below.refl _ wz).drew
            obtain ⟨d0, d1, d2, d3⟩ := kz _ belz
            have f0 := rb _ belz
            have f1 := rm _ belz
            have f2 := rO _ belz
            have f3 := rA _ belz
            clear lift hL1 hL3 d1 d2 ob om o2 h0m hi hz0 hz1 hz2 hN hS0 hS1 hs0 hn0 hn1 htot hlb hcap HL HF
            go_wp2
            go_region_held (fun w' => w'.cell? ⟨w.heap.size, 0, none⟩ = some (.int .u64 N) ∧ w'.cell? ⟨w.heap.size, 3, none⟩ = some (.slice A0 n0 c0) ∧ (convert 24 9 (.slice Ab L3.length cb)).run Try.prog w' = .ok (.string (strN L3)) w' ∧ (convert 24 9 (.slice Am L1.length cm)).run Try.prog w' = .ok (.string (strN L1)) w' ∧ (convert 24 9 (.slice (some ⟨gO, 0, none⟩) (n0 + 1) p2)).run Try.prog w' = .ok (.string X) w' ∧ (convert 24 9 (.slice A0 n0 c0)).run Try.prog w' = .ok (.string (strN bs)) w') (first | (refine ⟨?_, ?_, ?_, ?_, ?_, ?_⟩ <;> assumption) | go_keep) (first
              | (go_at_call 26; refine (q26 _ (by assumption)).mono ?_; rintro e w26 ⟨A26, c26, rfl, o26, m26, g26, x60, x61⟩; have a60 := rb _ g26; have a61 := rm _ g26; have a62 := rO _ g26; have a63 := rA _ g26; have t57 := run_str (P := Try.prog) (src := 24) (dst := 9) (c := c26) rfl rfl rfl o26 s3.1)
              | (go_at_call 27; refine (q27 _ (by assumption)).mono ?_; rintro e w27 ⟨A27, c27, rfl, o27, m27, g27, x70, x71⟩; have a70 := rb _ g27; have a71 := rm _ g27; have a72 := rO _ g27; have a73 := rA _ g27; have t65 := run_str (P := Try.prog) (src := 24) (dst := 9) (c := c27) rfl rfl rfl o27 s1.1)
              | (go_at_call 33; refine (knownWire _).mono ?_; rintro e w33 ⟨rfl, m33⟩; have g33 := g27.trans (m33.mono g27.size); have x80 := (kz _ g33).1; have x81 := (kz _ g33).2.2.2; have a80 := rb _ g33; have a81 := rm _ g33; have a82 := rO _ g33; have a83 := rA _ g33))
            go_wp2
            go_ret
            exact ⟨rfl, kw.trans (g33.mono kw.size)⟩

end Go.Proofs.Ytpnagblbhlglhaa
