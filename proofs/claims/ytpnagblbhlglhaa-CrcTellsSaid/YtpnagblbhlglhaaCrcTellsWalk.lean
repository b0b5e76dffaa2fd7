/- The walk of wicketlaw02.CrcTells: it answers true. Conditions: none beyond the arguments' shapes. -/
import Derived.Test.YtpnagblbhlglhaaCrcKnown
import Derived.Test.YtpnagblbhlglhaaCrcTellMath
import Derived.Deep.CutRange
import Derived.Deep.CutBlock
namespace Go.Proofs.Ytpnagblbhlglhaa
open Go.RowKit

theorem Try.info5b : (Try.prog.info? 5).map (fun i => (i.zero, i.size, i.bytes)) = some (some (.int .u8 0), 1, 1) := by kernel_rfl

/-- The sum of one piece. -/
theorem sum1_any (w : World) (B : Nat) (A : Option Addr) (n c : Nat) (bs : List Nat) (h : Reads w B 1 A n (byts bs)) (hB : B ≤ w.heap.size) (hbs : Small bs) (hn : n ≤ 140737488355328) :
    Calls Try.prog 15 #[.slice (some ⟨w.heap.size, 0, none⟩) 1 1] (w.alloc (.cells #[.slice A n c] 24)) fun e w' => e = .returned (.int .u32 (crcSum bs)) ∧ Below w.heap.size w w' := by
  have hl : bs.length = n := by have := h.1; rw [byts_length] at this; omega
  have h2 : Reads2 (w.alloc (.cells #[.slice A n c] 24)) (w.heap.size + 1) (some ⟨w.heap.size, 0, none⟩) 1 [bs] := by
    refine ⟨rfl, fun k hk => ?_⟩
    obtain rfl : k = 0 := by simpa using hk
    refine ⟨_, A, c, rfl, by simp, ?_, ?_, hbs, ?_⟩
    · simp only [List.getElem_cons_zero, hl]
      exact ((Blk.new w 24 #[.slice A n c]).cell 0).trans rfl
    · simp only [List.getElem_cons_zero, hl]
      exact (h.alloc hB _).more (by omega)
    · simp only [List.getElem_cons_zero, hl]; omega
  refine (sum_any _ _ _ _ _ [bs] h2 (by simp) (by omega)).mono ?_
  rintro e w' ⟨rfl, hb⟩
  refine ⟨by simp, ((Below.refl w.heap.size w).alloc (Nat.le_refl _) _).trans (hb.mono (by simp))⟩

/-- A bit turned in a row of bytes: what is stored, and where. -/
theorem flip_step (x : List Nat) (p n : Nat) (hlx : x.length = n) (hsx : Small x) (hp : p < 8 * n) :
    ∃ y j s v, flipB x p = y ∧ y.length = n ∧ Small y ∧ j < n ∧ p / 8 = j ∧ p % 8 = s ∧ (byts x)[j]? = some (.int .u8 (v : Nat)) ∧ (byts x).set j (.int .u8 (v ^^^ 2 ^ s : Nat)) = byts y ∧
      bits .xor .u8 (v : Int) ((2 : Int) ^ s % 256) = ((v ^^^ 2 ^ s : Nat) : Int) := by
  have hjx : p / 8 < x.length := by omega
  have hpw : 2 ^ (p % 8) < 256 := pow_small p
  have hfl := flipB_set x p hjx
  refine ⟨_, p / 8, p % 8, x[p / 8]'hjx, rfl, by rw [flipB_length, hlx], flipB_small hsx p, by omega, rfl, rfl, by simp [byts, hjx], ?_, ?_⟩
  · rw [hfl]
    simp [byts, List.map_set]
  · have e0 : ((2 ^ (p % 8) : Nat) : Int) = (2 : Int) ^ (p % 8) := by simp
    rw [show ((2 : Int) ^ (p % 8) % 256) = ((2 ^ (p % 8) : Nat) : Int) by rw [← e0]; obtain ⟨z, hz⟩ : ∃ z, 2 ^ (p % 8) = z := ⟨_, rfl⟩; rw [hz] at hpw ⊢; omega]
    exact u8_xor_nat _ _ (hsx.at_ _ hjx) hpw
theorem pow_add_small {i u : Nat} (hu : u < 2 ^ i) : 2 ^ i ^^^ u < 2 ^ (i + 1) := by
  have h1 : 2 ^ i < 2 ^ (i + 1) := Nat.pow_lt_pow_right (by omega) (by omega)
  exact Nat.xor_lt_two_pow h1 (by omega)

set_option maxHeartbeats 4000000 in
set_option maxRecDepth 100000 in
theorem crcTells_walk (w : World) (A0 A1 : Option Addr) (n0 c0 n1 c1 : Nat) (a0 a1 a2 : Int) (burst : Nat) (b c : List Nat) (hb : Reads w w.heap.size 1 A0 n0 (byts b)) (hsb : Small b)
    (hc : Reads w w.heap.size 1 A1 n1 (byts c)) (hsc : Small c) (m0 : n0 ≤ 9223372036854775807) (m1 : n1 ≤ 9223372036854775807) (hburst : burst < 4294967296)
    (ha0 : -9223372036854775808 ≤ a0 ∧ a0 ≤ 9223372036854775807) (ha1 : -9223372036854775808 ≤ a1 ∧ a1 ≤ 9223372036854775807) (ha2 : -9223372036854775808 ≤ a2 ∧ a2 ≤ 9223372036854775807) :
    Calls Try.prog 4 #[.agg #[.slice A0 n0 c0, .slice A1 n1 c1], .agg #[.int .i64 a0, .int .i64 a1, .int .i64 a2], .int .u32 burst] w fun e w' => e = .returned (.bool true) ∧ Below w.heap.size w w' := by
  obtain ⟨i0, hi, hz0, hz1, hz2⟩ := info_parts Try.info5b
  go_enter Try.func4, Try.ntmps4
  go_wp2
  go_quiet (fail)
  have hbel : Below w.heap.size w (((w.alloc (Obj.cells #[Value.slice A0 n0 c0, Value.slice A1 n1 c1] 32)).alloc (Obj.cells #[Value.int IntKind.i64 a0, Value.int IntKind.i64 a1, Value.int IntKind.i64 a2] 33)).drewN nq) :=
    below_drewN (((Below.refl _ w).alloc (Nat.le_refl _) _).alloc (by simp) _) nq
  have hat : Blk (((w.alloc (Obj.cells #[Value.slice A0 n0 c0, Value.slice A1 n1 c1] 32)).alloc (Obj.cells #[Value.int IntKind.i64 a0, Value.int IntKind.i64 a1, Value.int IntKind.i64 a2] 33)).drewN nq) (w.heap.size + 1) 33 #[Value.int IntKind.i64 a0, Value.int IntKind.i64 a1, Value.int IntKind.i64 a2] := by
    have := Blk.new (w.alloc (Obj.cells #[Value.slice A0 n0 c0, Value.slice A1 n1 c1] 32)) 33 #[Value.int IntKind.i64 a0, Value.int IntKind.i64 a1, Value.int IntKind.i64 a2]
    rw [show (w.alloc (Obj.cells #[Value.slice A0 n0 c0, Value.slice A1 n1 c1] 32)).heap.size = w.heap.size + 1 by simp] at this
    exact this
  generalize hw : (World.drewN _ nq) = w1 at hbel hat ⊢
  clear hw
  have hlen : b.length = n0 := by have := hb.1; rw [byts_length] at this; omega
  by_cases hz : n0 = 0
  · go_wp2_with (go_at_call 14; refine (knownCrc _).mono ?_; rintro e w2 ⟨rfl, b2⟩)
    go_ret
    exact ⟨rfl, hbel.trans (b2.mono hbel.size)⟩
  by_cases hbig : 65536 < n0
  · go_wp2_with (go_at_call 14; refine (knownCrc _).mono ?_; rintro e w2 ⟨rfl, b2⟩)
    go_ret
    exact ⟨rfl, hbel.trans (b2.mono hbel.size)⟩
  have hn0 : 0 < n0 := by omega
  have hq0 : ((n0 : Int) == 0) = false := by rw [beq_eq_false_iff_ne]; omega
  have hHL := Lib.hid hlen
  clear hlen
  have ho : (w1.alloc (.cells #[] 5)).ownsRow w.heap.size 5 1 (.slice (some ⟨w1.heap.size, 0, none⟩) 0 0) 0 [] := World.ownsRow_made w1 #[] 0 hbel.size (by unfold maxLen; omega) rfl
  have hr := hb.below (hbel.alloc hbel.size (.cells #[] 5))
  go_wp2_with (at_builtin; refine wpList_append_any _ rfl _ _ 24 rfl w.heap.size 5 i0 (.int .u8 0) 1 1 Try.underlying24 hi hz0 hz1 hz2 rfl (by decide) _ _ _ rfl ho w.heap.size A0 _ c0 _ rfl hr ?c1 ?c2 ?c3 ?c4 ?_)
  case c1 => exact byts_one _
  case c2 => unfold maxLen; omega
  case c3 => omega
  case c4 => simp; have := hbel.size; omega
  intro v2 w2 ho2 hg2 _
  obtain ⟨G, gc, rfl⟩ := own_shape ho2
  have hbel2 : Below w.heap.size w w2 := (hbel.alloc hbel.size _).grown hg2 (by simp; have := hbel.size; omega) (own_base ho)
  have hat2 : Blk w2 (w.heap.size + 1) 33 #[Value.int IntKind.i64 a0, Value.int IntKind.i64 a1, Value.int IntKind.i64 a2] := by
    refine (hat.alloc _).grown hg2 ?_
    have := hat.lt
    simp [Value.ownBlock]
    omega
  have hG : ∀ j, blkOf G = some j → j ≠ w.heap.size + 1 := by
    intro j hj e
    subst e
    exact own_blk_ne ho2 hat2 (by decide) (by rw [ownBlock_slice]; exact hj)
  obtain ⟨g, rfl, hbg, _, _, _, _⟩ := own_open ho2 hn0
  have hg1 : g ≠ w.heap.size + 1 := hG g rfl
  have hlen := hHL.out
  go_wp2
  clear ho hr hg2 hG hbel hat
  go_loopw [10] (fun iv wr => ∃ (k : Nat) (x : List Nat), k ≤ 3 ∧ iv = .int .i64 k ∧ wr.ownsRow w.heap.size 5 1 (.slice (some ⟨g, 0, none⟩) n0 gc) n0 (byts x) ∧ x.length = n0 ∧ Small x ∧ parL x = (if k % 2 = 1 then !parL b else parL b) ∧
    Blk wr (w.heap.size + 1) 33 #[Value.int IntKind.i64 a0, Value.int IntKind.i64 a1, Value.int IntKind.i64 a2] ∧ Below w.heap.size w wr) (fun iv _ => 3 - (intOf iv).toNat)
  case atStart => exact ⟨0, b, by omega, rfl, ho2, hlen, hsb, rfl, hat2, hbel2⟩
  case round =>
    clear ho2 hat2 hbel2
    obtain ⟨k, x, hk, rfl, hox, hlx, hsx, hpx, hat, hbel⟩ := hrel
    by_cases hlt : k < 3
    · have ⟨a, hca, hlo, hhi⟩ : ∃ a : Int, wr.cell? ⟨w.heap.size + 1, k, none⟩ = some (.int .i64 a) ∧ -9223372036854775808 ≤ a ∧ a ≤ 9223372036854775807 := by
        rcases (show k = 0 ∨ k = 1 ∨ k = 2 by omega) with rfl | rfl | rfl
        · exact ⟨a0, (hat.cell 0).trans rfl, ha0.1, ha0.2⟩
        · exact ⟨a1, (hat.cell 1).trans rfl, ha1.1, ha1.2⟩
        · exact ⟨a2, (hat.cell 2).trans rfl, ha2.1, ha2.2⟩
      have r1 : -(8 * (n0 : Int)) < a.tmod (8 * (n0 : Int)) := Int.lt_tmod_of_pos a (by omega)
      have r2 : a.tmod (8 * (n0 : Int)) < 8 * (n0 : Int) := Int.tmod_lt_of_pos a (by omega)
      have r3 : ((8 * (n0 : Int)) == 0) = false := by rw [beq_eq_false_iff_ne]; omega
      obtain ⟨r, hr⟩ : ∃ r, a.tmod (8 * (n0 : Int)) = r := ⟨_, rfl⟩
      rw [hr] at r1 r2
      obtain ⟨p, hp⟩ : ∃ p : Nat, (p : Int) = if r < 0 then -r else r := by
        by_cases h : r < 0
        · exact ⟨(-r).toNat, by rw [if_pos h]; omega⟩
        · exact ⟨r.toNat, by rw [if_neg h]; omega⟩
      obtain ⟨g', e, _, _, hcell, hfr, hset⟩ := own_open hox hn0
      injection e with e
      injection e with e
      subst e
      have hp8 : p < 8 * n0 := by by_cases h : r < 0 <;> simp only [h, if_true, if_false] at hp <;> omega
      have hfl := flipB_set x p (by omega)
      have hln2 := flipB_length x p
      have hsf : Small (flipB x p) := flipB_small hsx p
      have hpf := par_flip x p (by omega)
      obtain ⟨y, hy⟩ : ∃ y, flipB x p = y := ⟨_, rfl⟩
      rw [hy] at hfl hln2 hsf hpf
      obtain ⟨j, hjp⟩ : ∃ j, p / 8 = j := ⟨_, rfl⟩
      obtain ⟨s, hsp⟩ : ∃ s, p % 8 = s := ⟨_, rfl⟩
      have hj : j < n0 := by omega
      have hjx : j < x.length := by rw [hlx]; exact hj
      obtain ⟨v, hv⟩ : ∃ v, x[j]'hjx = v := ⟨_, rfl⟩
      have hv8 : v < 256 := by rw [← hv]; exact hsx.at_ j hjx
      have cj := hcell j (.int .u8 v) (by simp [byts, hjx, hv])
      have fj := hfr j
      have hset2 := hset j (.int .u8 (v ^^^ 2 ^ s : Nat)) hj
      have hby : (byts x).set j (.int .u8 (v ^^^ 2 ^ s : Nat)) = byts y := by
        subst hjp; subst hsp; subst hv
        rw [hfl]
        simp [byts, List.map_set]
      rw [hby] at hset2
      have hHY := Lib.hid hpf
      have q1 : (p : Int).tdiv 8 = (j : Int) := by rw [Int.tdiv_eq_ediv_of_nonneg (by omega)]; omega
      have q2 : (p : Int).tmod 8 = (s : Int) := by rw [Int.tmod_eq_emod_of_nonneg (by omega)]; omega
      have q3 : (p : Int) / 8 = (j : Int) := by omega
      have q4 : (p : Int) % 8 = (s : Int) := by omega
      have q5 : (0 : Int) ≤ (j : Int) := by omega
      have q6 : (j : Int) < (n0 : Int) := by omega
      have q7 : (0 : Int) ≤ (s : Int) := by omega
      have q8 : (s : Int) < 8 := by omega
      have hpw : 2 ^ s < 256 := by rw [← hsp]; exact pow_small p
      have E3 : bits .xor .u8 (v : Int) ((2 : Int) ^ s % 256) = ((v ^^^ 2 ^ s : Nat) : Int) := by
        have e0 : ((2 ^ s : Nat) : Int) = (2 : Int) ^ s := by simp
        rw [show ((2 : Int) ^ s % 256) = ((2 ^ s : Nat) : Int) by rw [← e0]; obtain ⟨z, hz⟩ : ∃ z, 2 ^ s = z := ⟨_, rfl⟩; rw [hz] at hpw ⊢; omega]
        exact u8_xor_nat v (2 ^ s) hv8 hpw
      have k0 : (0 : Int) ≤ (k : Int) := by omega
      have k1 : (k : Int) < 3 := by omega
      have hlast : ∀ wz, wz = wr.setCell ⟨g, j, none⟩ (.int .u8 (v ^^^ 2 ^ s : Nat)) → ∃ (k' : Nat) (x : List Nat), k' ≤ 3 ∧ Value.int .i64 ((k : Int) + 1) = .int .i64 k' ∧ wz.drew.ownsRow w.heap.size 5 1 (.slice (some ⟨g, 0, none⟩) n0 gc) n0 (byts x) ∧ x.length = n0 ∧ Small x ∧ parL x = (if k' % 2 = 1 then !parL b else parL b) ∧
          Blk wz.drew (w.heap.size + 1) 33 #[Value.int IntKind.i64 a0, Value.int IntKind.i64 a1, Value.int IntKind.i64 a2] ∧ Below w.heap.size w wz.drew := by
        rintro wz rfl
        refine ⟨k + 1, y, by omega, by simp, hset2, by rw [hln2, hlx], hsf, ?_, (hat.far (by show w.heap.size + 1 ≠ g; omega) _).drew, (hbel.setCell hbg _).drew⟩
        rw [hpf, hpx]
        rcases Nat.mod_two_eq_zero_or_one k with h2 | h2
        · rw [if_neg (by omega), if_pos (by omega)]
        · rw [if_pos (by omega), if_neg (by omega), Bool.not_not]
      have HL := Lib.hid hlast
      clear hlast hset2 hpx
      clear hfl hby hv hjp hsp hpf hcell hfr hset hy
      by_cases hneg : r < 0
      · rw [if_pos hneg] at hp
        obtain rfl : r = -(p : Int) := by omega
        clear hp
        go_wp2
        go_region
        go_wp2
        go_roundw
        case rel => exact HL.out _ rfl
        case measure => simp [intOf]; omega
      · rw [if_neg hneg] at hp
        subst hp
        go_wp2
        go_region
        go_wp2
        go_roundw
        case rel => exact HL.out _ rfl
        case measure => simp [intOf]; omega
    · obtain rfl : k = 3 := by omega
      rw [if_pos (by decide)] at hpx
      have c00 : wr.cell? ⟨w.heap.size + 1, 0, none⟩ = some (.int .i64 a0) := (hat.cell 0).trans rfl
      have hHw : w.heap.size + 1 < wr.heap.size := hat.lt
      clear hlt hat
      have hsum1 := odd_sums hsb hsx hpx
      have hxb : ¬ (strN x).toList = (strN b).toList := strN_ne hsx hsb fun h => by
        rw [h] at hpx
        revert hpx
        cases parL b <;> simp
      clear hpx
      have hsz := hbel.size
      have hrx := Reads.of_own hox
      have hrb := hb.below hbel
      have s1 := run_str (P := Try.prog) (src := 24) (dst := 9) (c := gc) rfl rfl rfl hrx hsx
      have s2 := run_str (P := Try.prog) (src := 24) (dst := 9) (c := c0) rfl rfl rfl hrb hsb
      obtain ⟨Cx, hCx⟩ : ∃ C, crcSum x = C := ⟨_, rfl⟩
      obtain ⟨Cb, hCb⟩ : ∃ C, crcSum b = C := ⟨_, rfl⟩
      have lCx := crcSum_lt x
      have lCb := crcSum_lt b
      have cx := fun (W : World) (hW : Below wr.heap.size wr W) => sum1_any W _ _ n0 gc x (hrx.below hW) hW.size hsx (by omega)
      have cb := fun (W : World) (hW : Below wr.heap.size wr W) => sum1_any W _ _ n0 c0 b ((hrb.below (hW.mono hsz)).more (Nat.le_refl _)) (by have := hW.size; omega) hsb (by omega)
      rw [hCx, hCb] at hsum1
      rw [hCx] at lCx
      rw [hCb] at lCb
      simp only [hCx] at cx
      simp only [hCb] at cb
      have e1 : ((Cx : Int) == (Cb : Int)) = false := by rw [beq_eq_false_iff_ne]; omega
      have HCx := Lib.hid hCx
      have HCb := Lib.hid hCb
      clear hCx hCb hsum1
      have cx1 := cx wr (Below.refl _ _)
      go_wp2_with (go_at_call 15; refine cx1.mono ?_; clear cx1; rintro e w3 ⟨rfl, b3⟩)
      have cb1 := cb w3 b3
      go_upto_region 14 with (go_at_call 15; refine cb1.mono ?_; clear cb1; rintro e w4 ⟨rfl, b4⟩)
      replace b4 := b3.trans (b4.mono b3.size)
      clear b3
      replace c00 := (b4.cell (p := ⟨w.heap.size + 1, 0, none⟩) hHw).trans c00
      replace hrx := (hrx.below b4).more b4.size
      replace hrb := hb.below (hbel.trans (b4.mono hsz))
      have hrc := hc.below (hbel.trans (b4.mono hsz))
      have hbo := hbel.trans (b4.mono hsz)
      clear cx cb s1 s2 hox b4 hbel hsz hHw hb hc
      obtain ⟨wo, rfl⟩ : ∃ wo : World, wo = w4 := ⟨_, rfl⟩
      have hsz := hbo.size
      have ho : (wo.alloc (.cells #[] 5)).ownsRow wo.heap.size 5 1 (.slice (some ⟨wo.heap.size, 0, none⟩) 0 0) 0 [] := World.ownsRow_made wo #[] 0 (Nat.le_refl _) (by unfold maxLen; omega) rfl
      have hr := hrb.below ((Below.refl w.heap.size wo).alloc hsz (.cells #[] 5))
      go_wp2_with (at_builtin; refine wpList_append_any _ rfl _ _ 24 rfl wo.heap.size 5 i0 (.int .u8 0) 1 1 Try.underlying24 hi hz0 hz1 hz2 rfl (by decide) _ _ _ rfl ho w.heap.size A0 _ c0 _ rfl hr ?c1 ?c2 ?c3 ?c4 ?_)
      case c1 => exact byts_one _
      case c2 => unfold maxLen; omega
      case c3 => omega
      case c4 => simp
      intro v5 w5 ho5 hg5 _
      obtain ⟨G2, gc2, rfl⟩ := own_shape ho5
      have hb5 : Below wo.heap.size wo w5 := ((Below.refl _ wo).alloc (Nat.le_refl _) _).grown hg5 (by simp) (own_base ho)
      obtain ⟨g2, rfl, hbg2, _, _, _, _⟩ := own_open ho5 hn0
      clear ho hr hg5
      have hH1 : w.heap.size + 1 < wo.heap.size := by
        rcases Nat.lt_or_ge (w.heap.size + 1) wo.heap.size with h | h
        · exact h
        · have : wo.cell? ⟨w.heap.size + 1, 0, none⟩ = none := by unfold World.cell?; simp [Array.getElem?_eq_none h]
          rw [this] at c00; cases c00
      have d00 := (hb5.cell (p := ⟨w.heap.size + 1, 0, none⟩) hH1).trans c00
      have r1 : -(8 * (n0 : Int)) < a0.tmod (8 * (n0 : Int)) := Int.lt_tmod_of_pos a0 (by omega)
      have r2 : a0.tmod (8 * (n0 : Int)) < 8 * (n0 : Int) := Int.tmod_lt_of_pos a0 (by omega)
      have r3 : ((8 * (n0 : Int)) == 0) = false := by rw [beq_eq_false_iff_ne]; omega
      obtain ⟨r, hr⟩ : ∃ r, a0.tmod (8 * (n0 : Int)) = r := ⟨_, rfl⟩
      rw [hr] at r1 r2
      obtain ⟨p, hp⟩ : ∃ p : Nat, (p : Int) = if r < 0 then -r else r := by
        by_cases h : r < 0
        · exact ⟨(-r).toNat, by rw [if_pos h]; omega⟩
        · exact ⟨r.toNat, by rw [if_neg h]; omega⟩
      have hp8 : p < 8 * n0 := by by_cases h : r < 0 <;> simp only [h, if_true, if_false] at hp <;> omega
      go_upto_if 87 with (fail)
      go_cut [13] from 80 to 204 (fun v wx => v = .int .i64 p ∧ wx = w5)
      case first =>
        by_cases hneg : r < 0
        · rw [if_pos hneg] at hp
          obtain rfl : r = -(p : Int) := by omega
          clear hp
          go_wp2
          go_meet
          exact ⟨rfl, rfl⟩
        · rw [if_neg hneg] at hp
          subst hp
          go_wp2
          go_meet
          exact ⟨rfl, rfl⟩
      case rest =>
        obtain ⟨rfl, rfl⟩ := hcut
        go_wp2
        clear r1 r2 r3 hr hp d00 c00
        have hlen := hHL.out
        have hKK := Lib.hid hp8
        go_loopw [14] (fun iv wr => ∃ (i : Nat) (yl : List Nat) (u : Nat), i ≤ 32 ∧ iv = .int .i64 i ∧ wr.ownsRow wo.heap.size 5 1 (.slice (some ⟨g2, 0, none⟩) n0 gc2) n0 (byts yl) ∧ yl.length = n0 ∧ Small yl ∧ u < 2 ^ i ∧ numL yl = numL b ^^^ (2 ^ p * u) ∧
            Below wo.heap.size wo wr) (fun iv _ => 32 - (intOf iv).toNat)
        case atStart => exact ⟨0, b, 0, by omega, rfl, ho5, hlen, hsb, by decide, by simp, hb5⟩
        case round =>
          clear ho5 hb5
          obtain ⟨i, yl, u, hik, rfl, hoy, hly, hsy, hu, hnum, hb5⟩ := hrel
          have i0' : (0 : Int) ≤ (i : Int) := by omega
          have p0' : (0 : Int) ≤ (p : Int) := by omega
          by_cases hlt : i < 32 ∧ p + i < 8 * n0
          · have k1 : (i : Int) < 32 := by omega
            have k2 : (p : Int) + (i : Int) < 8 * (n0 : Int) := by omega
            by_cases hbit : (((burst : Int) / 2 ^ i).tmod 2 == 1) = true
            · obtain ⟨y, j, s, v, hy, hyl, hys, hj, hjp, hsp, hcj, hset, E3⟩ := flip_step yl (p + i) n0 hly hsy hlt.2
              have hnf := num_flip yl (p + i) (by omega)
              rw [hy, hnum] at hnf
              obtain ⟨g', e, _, _, hcell, hfr, hst⟩ := own_open hoy hn0
              injection e with e
              injection e with e
              subst e
              have cj := hcell j _ hcj
              have fj := hfr j
              have hset2 := hst j (.int .u8 (v ^^^ 2 ^ s : Nat)) hj
              rw [hset] at hset2
              have hlast : ∀ wz, wz = wr.setCell ⟨g2, j, none⟩ (.int .u8 (v ^^^ 2 ^ s : Nat)) → ∃ (i' : Nat) (yl : List Nat) (u : Nat), i' ≤ 32 ∧ Value.int .i64 ((i : Int) + 1) = .int .i64 i' ∧ wz.drew.ownsRow wo.heap.size 5 1 (.slice (some ⟨g2, 0, none⟩) n0 gc2) n0 (byts yl) ∧ yl.length = n0 ∧ Small yl ∧ u < 2 ^ i' ∧ numL yl = numL b ^^^ (2 ^ p * u) ∧
                  Below wo.heap.size wo wz.drew := by
                rintro wz rfl
                refine ⟨i + 1, y, 2 ^ i ^^^ u, by omega, by simp, hset2, hyl, hys, pow_add_small hu, ?_, (hb5.setCell hbg2 _).drew⟩
                rw [hnf, pow_mul_xor, Nat.xor_assoc, Nat.xor_comm (2 ^ p * u), ← Nat.pow_add]
              have HL := Lib.hid hlast
              have u1 : IntKind.i64.wrap ((p : Int) + (i : Int)) = (p : Int) + (i : Int) := IntWalk.i64_in _ (by omega)
              have q1 : ((p : Int) + (i : Int)).tdiv 8 = (j : Int) := by rw [Int.tdiv_eq_ediv_of_nonneg (by omega)]; omega
              have q2 : ((p : Int) + (i : Int)).tmod 8 = (s : Int) := by rw [Int.tmod_eq_emod_of_nonneg (by omega)]; omega
              have q3 : ((p : Int) + (i : Int)) / 8 = (j : Int) := by omega
              have q4 : ((p : Int) + (i : Int)) % 8 = (s : Int) := by omega
              have q5 : (0 : Int) ≤ (j : Int) := by omega
              have q6 : (j : Int) < (n0 : Int) := by omega
              have q7 : (0 : Int) ≤ (s : Int) := by omega
              have q8 : (s : Int) < 8 := by omega
              clear hlast hset2 hnf hst hcell hfr hcj hset hy hnum hjp hsp
              go_wp2
              go_region
              go_wp2
              go_roundw
              case rel => exact HL.out _ rfl
              case measure => simp [intOf]; omega
            · have hbit2 : (((burst : Int) / 2 ^ i).tmod 2 == 1) = false := by simpa using hbit
              have HN := Lib.hid hnum
              have h2p : u < 2 ^ (i + 1) := Nat.lt_trans hu (Nat.pow_lt_pow_right (by omega) (by omega))
              have HU := Lib.hid h2p
              clear hnum hbit hu h2p
              go_wp2
              go_roundw
              case rel => exact ⟨i + 1, yl, u, by omega, by go_num, hoy, hly, hsy, HU.out, HN.out, hb5⟩
              case measure => simp [intOf]; omega
          · have hsz5 := hb5.size
            go_upto_region 19 with (fail)
            go_cut [100] from 90 to 204 (fun v wx => v = .bool false ∧ wx = wr)
            case first =>
              by_cases h32 : i < 32
              · have k1 : (i : Int) < 32 := by omega
                have k2 : ¬ ((p : Int) + (i : Int) < 8 * (n0 : Int)) := by omega
                have k3 : decide ((p : Int) + (i : Int) < 8 * (n0 : Int)) = false := decide_eq_false k2
                go_wp2
                go_meet
                exact ⟨rfl, rfl⟩
              · have k1 : ¬ ((i : Int) < 32) := by omega
                have k3 : decide ((i : Int) < 32) = false := decide_eq_false k1
                go_wp2
                go_meet
                exact ⟨rfl, rfl⟩
            case rest =>
              obtain ⟨rfl, hwc⟩ := hcut
              replace hwc := hwc.symm
              subst hwc
              have hu32 : u < 4294967296 := Nat.lt_of_lt_of_le hu (by rw [show (4294967296 : Nat) = 2 ^ 32 by decide]; exact Nat.pow_le_pow_right (by omega) hik)
              have hbst := Go.Proofs.Ytpnagblbhlglhaa.burst hsb hsy (by rw [hly, hlen]) p u (by rw [hlen]; omega) hu32 hnum
              have hry := Reads.of_own hoy
              have hrb2 := hrb.below (hb5.mono hsz)
              have t1 := run_str (P := Try.prog) (src := 24) (dst := 9) (c := gc2) rfl rfl rfl hry hsy
              have t2 := run_str (P := Try.prog) (src := 24) (dst := 9) (c := c0) rfl rfl rfl hrb2 hsb
              clear hnum hu hu32 hlt hik i0' p0'
              go_upto_region 23 with (fail)
              go_cut [140] from 127 to 204 (fun v wx => v = .bool false ∧ Below wo.heap.size wo wx)
              case first =>
                by_cases hyb : yl = b
                · subst hyb
                  go_wp2
                  go_meet
                  exact ⟨rfl, hb5⟩
                · have hsn : ¬ (strN yl).toList = (strN b).toList := strN_ne hsy hsb hyb
                  have hne : crcSum yl ≠ crcSum b := fun h => hyb (hbst h)
                  obtain ⟨Cy, hCy⟩ : ∃ C, crcSum yl = C := ⟨_, rfl⟩
                  have cy1 := sum1_any wr _ _ n0 gc2 yl hry (Nat.le_refl _) hsy (by omega)
                  have cb := fun (W : World) (hW : Below wr.heap.size wr W) => sum1_any W _ _ n0 c0 b (hrb2.below (hW.mono (by omega))) (by have := hW.size; omega) hsb (by omega)
                  rw [hCy] at hne cy1
                  simp only [HCb.out] at cb
                  rw [HCb.out] at hne
                  have e1 : ((Cy : Int) == (Cb : Int)) = false := by rw [beq_eq_false_iff_ne]; omega
                  clear hCy hbst hne hyb
                  go_wp2_with (go_at_call 15; refine cy1.mono ?_; clear cy1; rintro e w6 ⟨rfl, b6⟩)
                  have cb1 := cb w6 b6
                  go_wp2_with (go_at_call 15; refine cb1.mono ?_; clear cb1; rintro e w7 ⟨rfl, b7⟩)
                  go_meet
                  exact ⟨rfl, (hb5.trans (b6.mono hsz5)).trans (b7.mono (by have := b6.size; omega))⟩
              case rest =>
                obtain ⟨rfl, hbw⟩ := hcut
                clear hbst t1 t2 hrb2 hry hoy hb5 hsz5
                replace hrx := hrx.below hbw
                replace hrb := hrb.below (hbw.mono hsz)
                replace hrc := hrc.below (hbw.mono hsz)
                replace hbo := hbo.trans (hbw.mono hsz)
                have hsz6 := hbw.size
                have hlc : c.length = n1 := by have := hrc.1; rw [byts_length] at this; omega
                obtain ⟨Z, hZl, hZs, hZ1, hZ2⟩ : ∃ Z : List Nat, Z.length = n0 ∧ Small Z ∧ (∀ k (h1 : k < Z.length) (h2 : k < c.length), Z[k] = c[k]) ∧ ∀ k (h1 : k < Z.length), c.length ≤ k → Z[k] = 0 := by
                  refine ⟨(List.range n0).map fun k => c.getD k 0, by simp, ?_, ?_, ?_⟩
                  · intro d hd
                    simp only [List.mem_map, List.mem_range] at hd
                    obtain ⟨k, _, rfl⟩ := hd
                    rw [List.getD_eq_getElem?_getD]
                    rcases Nat.lt_or_ge k c.length with h | h
                    · rw [List.getElem?_eq_getElem h]; exact hsc.at_ k h
                    · rw [List.getElem?_eq_none h]; show (0 : Nat) < 256; omega
                  · intro k h1 h2
                    simp [List.getD_eq_getElem?_getD, List.getElem?_eq_getElem h2]
                  · intro k h1 h2
                    simp [List.getD_eq_getElem?_getD, List.getElem?_eq_none h2]
                obtain ⟨wb, rfl⟩ : ∃ wb : World, wb = wc := ⟨_, rfl⟩
                go_wp2_with (refine wpList_make_full _ rfl _ _ 24 rfl wb.heap.size 5 i0 (.int .u8 0) 1 Try.underlying24 hi hz0 hz1 .i64 .i64 _ _ n0 rfl rfl rfl rfl ?c1 ?c2 ?c3 ?_)
                case c1 => rw [hz2]; omega
                case c2 => unfold maxLen; omega
                case c3 => exact Nat.le_refl _
                intro wz hoz hgz
                replace hoz : wz.ownsRow wb.heap.size 5 1 (.slice (some ⟨wb.heap.size, 0, none⟩) n0 n0) n0 (byts (fillTo Z 0)) := by
                  rw [fillTo_zero, hZl, ← made_bytes]
                  simpa [Value.cells] using hoz
                have hbz : Below wb.heap.size wb wz := (Below.refl _ wb).grown hgz (Nat.le_refl _) (fun _ h => by cases h)
                go_wp2
                clear hgz
                go_loopw [16] (fun iv wr => ∃ k : Nat, k ≤ n0 ∧ iv = .int .i64 k ∧ wr.ownsRow wb.heap.size 5 1 (.slice (some ⟨wb.heap.size, 0, none⟩) n0 n0) n0 (byts (fillTo Z k)) ∧ Below wb.heap.size wb wr) (fun iv _ => n0 - (intOf iv).toNat)
                case atStart => exact ⟨0, by omega, rfl, hoz, hbz⟩
                case round =>
                  clear hoz hbz
                  obtain ⟨k, hk, rfl, hoz, hbz⟩ := hrel
                  have k0 : (0 : Int) ≤ (k : Int) := by omega
                  by_cases hlt : k < n0
                  · have k1 : (k : Int) < (n0 : Int) := by omega
                    by_cases hlc2 : k < n1
                    · obtain ⟨ad, v, rfl, hab, hxv, hcell⟩ := (hrc.below (hbz.mono hbo.size)).at_ hlc2
                      obtain rfl : v = .int .u8 (c[k]'(by omega) : Nat) := by
                        simp [byts, List.getElem?_eq_getElem (show k < c.length by omega)] at hxv
                        exact hxv.symm
                      obtain ⟨g', e, hgb, _, hcz, hfr, hst⟩ := own_open hoz hn0
                      injection e with e
                      injection e with e
                      subst e
                      have hzl : k < (fillTo Z k).length := by rw [fillTo_length _ _ (by omega)]; omega
                      have cz := hcz k (.int .u8 ((fillTo Z k)[k] : Nat)) (by simp [byts, hzl])
                      have fz := hfr k
                      have hs2 := hst k (.int .u8 (c[k]'(by omega) : Nat)) hlt
                      have hset : (byts (fillTo Z k)).set k (.int .u8 (c[k]'(by omega) : Nat)) = byts (fillTo Z (k + 1)) := by
                        rw [← fillTo_set Z k (by omega), hZ1 k (by omega) (by omega)]
                        simp [byts, List.map_set]
                      rw [hset] at hs2
                      have hbz2 : Below wb.heap.size wb (wr.setCell ⟨wb.heap.size, k, none⟩ (.int .u8 (c[k]'(by omega) : Nat))) := hbz.setCell (Nat.le_refl _) _
                      have l1 : (k : Int) < (n1 : Int) := by omega
                      obtain ⟨v, hv⟩ : ∃ v, c[k]'(by omega) = v := ⟨_, rfl⟩
                      rw [hv] at hs2 hbz2 hcell
                      have HS := Lib.hid hs2
                      clear hv hset hst hcz hfr hxv hs2
                      go_wp2
                      go_roundw
                      case rel => exact ⟨k + 1, by omega, by go_num, HS.out, hbz2⟩
                      case measure => simp [intOf]; omega
                    · have l1 : ¬ (k : Int) < (n1 : Int) := by omega
                      rw [fillTo_skip Z k (by omega) (hZ2 k (by omega) (by omega))] at hoz
                      go_wp2
                      go_roundw
                      case rel => exact ⟨k + 1, by omega, by go_num, hoz, hbz⟩
                      case measure => simp [intOf]; omega
                  · obtain rfl : k = n0 := by omega
                    rw [← hZl, fillTo_all] at hoz
                    rw [hZl] at hoz
                    have hrz := Reads.of_own hoz
                    obtain ⟨W, hW⟩ : ∃ W, xorL (xorL b x) Z = W := ⟨_, rfl⟩
                    have hbx : b.length = x.length := by rw [hlen, hlx]
                    have hlbx : (xorL b x).length = k := by rw [xorL_length b x hbx, hlen]
                    have hWl : W.length = k := by rw [← hW, xorL_length _ _ (by rw [hlbx, hZl]), hlbx]
                    have hWs : Small W := by rw [← hW]; exact xorL_small (by rw [hlbx, hZl]) (xorL_small hbx hsb hsx) hZs
                    have hsum3 := sum_xor3 hsb hsx hZs hbx (by rw [hlen, hZl])
                    rw [hW] at hsum3
                    have hWk : ∀ j (h : j < k), W[j]'(by omega) = (b[j]'(by omega) ^^^ x[j]'(by omega)) ^^^ Z[j]'(by omega) := by
                      intro j h
                      subst hW
                      rw [xorL_get _ _ j (by omega) (by omega), xorL_get b x j (by omega) (by omega)]
                    replace hrx := hrx.below (hbz.mono hsz6)
                    replace hrb := hrb.below (hbz.mono hbo.size)
                    replace hbo := hbo.trans (hbz.mono hbo.size)
                    have hszz := hbz.size
                    obtain ⟨wq, rfl⟩ : ∃ wq : World, wq = wr := ⟨_, rfl⟩
                    have hszq := hbo.size
                    clear hrc hZ1 hZ2 hoz hbz hlt hk hlc
                    go_wp2_with (refine wpList_make_full _ rfl _ _ 24 rfl wq.heap.size 5 i0 (.int .u8 0) 1 Try.underlying24 hi hz0 hz1 .i64 .i64 _ _ k rfl rfl rfl rfl ?c1 ?c2 ?c3 ?_)
                    case c1 => rw [hz2]; omega
                    case c2 => unfold maxLen; omega
                    case c3 => exact Nat.le_refl _
                    intro wz how hgz
                    replace how : wz.ownsRow wq.heap.size 5 1 (.slice (some ⟨wq.heap.size, 0, none⟩) k k) k (byts (fillTo W 0)) := by
                      rw [fillTo_zero, hWl, ← made_bytes]
                      simpa [Value.cells] using how
                    have hbz : Below wq.heap.size wq wz := (Below.refl _ wq).grown hgz (Nat.le_refl _) (fun _ h => by cases h)
                    go_wp2
                    clear hgz
                    go_loopw [18] (fun iv wr => ∃ i : Nat, i ≤ k ∧ iv = .int .i64 i ∧ wr.ownsRow wq.heap.size 5 1 (.slice (some ⟨wq.heap.size, 0, none⟩) k k) k (byts (fillTo W i)) ∧ Below wq.heap.size wq wr) (fun iv _ => k - (intOf iv).toNat)
                    case atStart => exact ⟨0, by omega, rfl, how, hbz⟩
                    case round =>
                      clear how hbz
                      obtain ⟨i, hi', rfl, how, hbz⟩ := hrel
                      have k0 : (0 : Int) ≤ (i : Int) := by omega
                      by_cases hlt : i < k
                      · have k1 : (i : Int) < (k : Int) := by omega
                        obtain ⟨ad, v, rfl, hab, hxv, hcell⟩ := (hrb.below (hbz.mono hszq)).at_ hlt
                        obtain rfl : v = .int .u8 (b[i]'(by omega) : Nat) := by
                          simp [byts, List.getElem?_eq_getElem (show i < b.length by omega)] at hxv
                          exact hxv.symm
                        obtain ⟨ad2, v2, e2, _, hxv2, hcell2⟩ := (hrx.below (hbz.mono (by omega))).at_ hlt
                        obtain rfl : v2 = .int .u8 (x[i]'(by omega) : Nat) := by
                          simp [byts, List.getElem?_eq_getElem (show i < x.length by omega)] at hxv2
                          exact hxv2.symm
                        injection e2 with e2
                        subst e2
                        rw [addr_add] at hcell2
                        obtain ⟨ad3, v3, e3, _, hxv3, hcell3⟩ := (hrz.below hbz).at_ hlt
                        obtain rfl : v3 = .int .u8 (Z[i]'(by omega) : Nat) := by
                          simp [byts, List.getElem?_eq_getElem (show i < Z.length by omega)] at hxv3
                          exact hxv3.symm
                        injection e3 with e3
                        subst e3
                        rw [addr_add] at hcell3
                        obtain ⟨g', e, hgb, _, hcz, hfr, hst⟩ := own_open how hn0
                        injection e with e
                        injection e with e
                        subst e
                        have hzl : i < (fillTo W i).length := by rw [fillTo_length _ _ (by omega)]; omega
                        have cz := hcz i (.int .u8 ((fillTo W i)[i] : Nat)) (by simp [byts, hzl])
                        have fz := hfr i
                        have hs2 := hst i (.int .u8 (W[i]'(by omega) : Nat)) hlt
                        have hset : (byts (fillTo W i)).set i (.int .u8 (W[i]'(by omega) : Nat)) = byts (fillTo W (i + 1)) := by
                          rw [← fillTo_set W i (by omega)]
                          simp [byts, List.map_set]
                        rw [hset, hWk i hlt] at hs2
                        obtain ⟨vb, hvb⟩ : ∃ v, b[i]'(by omega) = v := ⟨_, rfl⟩
                        obtain ⟨vx, hvx⟩ : ∃ v, x[i]'(by omega) = v := ⟨_, rfl⟩
                        obtain ⟨vz, hvz⟩ : ∃ v, Z[i]'(by omega) = v := ⟨_, rfl⟩
                        have lb : vb < 256 := by rw [← hvb]; exact hsb.at_ _ _
                        have lx : vx < 256 := by rw [← hvx]; exact hsx.at_ _ _
                        have lz : vz < 256 := by rw [← hvz]; exact hZs.at_ _ _
                        rw [hvb] at hcell
                        rw [hvx] at hcell2
                        rw [hvz] at hcell3
                        rw [hvb, hvx, hvz] at hs2
                        have E1 : bits .xor .u8 (vb : Int) (vx : Int) = ((vb ^^^ vx : Nat) : Int) := u8_xor_nat _ _ lb lx
                        have E2 : bits .xor .u8 ((vb ^^^ vx : Nat) : Int) (vz : Int) = ((vb ^^^ vx ^^^ vz : Nat) : Int) := u8_xor_nat _ _ (xor_small lb lx) lz
                        have hbz2 : Below wq.heap.size wq (wr.setCell ⟨wq.heap.size, i, none⟩ (.int .u8 (vb ^^^ vx ^^^ vz : Nat))) := hbz.setCell (Nat.le_refl _) _
                        have hlast : (∀ wz, wz = wr.setCell ⟨wq.heap.size, i, none⟩ (.int .u8 (vb ^^^ vx ^^^ vz : Nat)) → ∃ i' : Nat, i' ≤ k ∧ Value.int .i64 ((i : Int) + 1) = .int .i64 i' ∧ wz.drew.ownsRow wq.heap.size 5 1 (.slice (some ⟨wq.heap.size, 0, none⟩) k k) k (byts (fillTo W i')) ∧ Below wq.heap.size wq wz.drew) :=
                          by rintro wz rfl; exact ⟨i + 1, by omega, by simp, hs2, hbz2.drew⟩
                        have HS := Lib.hid hlast
                        clear hvb hvx hvz hset hst hcz hfr hxv hxv2 hxv3 hs2 hWk hbz2 hlast
                        go_wp2
                        go_region
                        go_wp2
                        go_roundw
                        case rel => exact HS.out _ rfl
                        case measure => simp [intOf]; omega
                      · obtain rfl : i = k := by omega
                        rw [← hWl, fillTo_all] at how
                        rw [hWl] at how
                        have hrw := Reads.of_own how
                        replace hrx := hrx.below (hbz.mono (by omega))
                        replace hrb := hrb.below (hbz.mono hszq)
                        replace hrz := hrz.below hbz
                        replace hbo := hbo.trans (hbz.mono hszq)
                        have hszw := hbz.size
                        have sb := fun (V : World) (hV : Below wr.heap.size wr V) => sum1_any V _ A0 i c0 b (hrb.below (hV.mono (by omega))) (by have := hV.size; omega) hsb (by omega)
                        have sx := fun (V : World) (hV : Below wr.heap.size wr V) => sum1_any V _ _ i gc x (hrx.below (hV.mono (by omega))) (by have := hV.size; omega) hsx (by omega)
                        have sz := fun (V : World) (hV : Below wr.heap.size wr V) => sum1_any V _ _ i i Z (hrz.below (hV.mono (by omega))) (by have := hV.size; omega) hZs (by omega)
                        have sw := fun (V : World) (hV : Below wr.heap.size wr V) => sum1_any V _ _ i i W (hrw.below hV) hV.size hWs (by omega)
                        have lZ := crcSum_lt Z
                        obtain ⟨CZ, hCZ⟩ : ∃ C, crcSum Z = C := ⟨_, rfl⟩
                        obtain ⟨CW, hCW⟩ : ∃ C, crcSum W = C := ⟨_, rfl⟩
                        rw [HCb.out, HCx.out, hCZ, hCW] at hsum3
                        rw [hCZ] at lZ
                        simp only [HCb.out] at sb
                        simp only [HCx.out] at sx
                        simp only [hCZ] at sz
                        simp only [hCW] at sw
                        have E1 : bits .xor .u32 (Cb : Int) (Cx : Int) = ((Cb ^^^ Cx : Nat) : Int) := u32_xor_nat _ _ lCb lCx
                        have E2 : bits .xor .u32 ((Cb ^^^ Cx : Nat) : Int) (CZ : Int) = (CW : Int) := by rw [u32_xor_nat _ _ (xor_lt32 lCb lCx) lZ, hsum3]
                        clear hCZ hCW hsum3 hrw hrx hrb hrz how hbz hWk
                        have s1 := sb wr (Below.refl _ _)
                        go_wp2_with (go_at_call 15; refine s1.mono ?_; clear s1; rintro e v1 ⟨rfl, d1⟩)
                        have s2 := sx v1 d1
                        go_wp2_with (go_at_call 15; refine s2.mono ?_; clear s2; rintro e v2 ⟨rfl, d2⟩)
                        replace d2 := d1.trans (d2.mono d1.size)
                        have s3 := sz v2 d2
                        go_wp2_with (go_at_call 15; refine s3.mono ?_; clear s3; rintro e v3 ⟨rfl, d3⟩)
                        replace d3 := d2.trans (d3.mono d2.size)
                        have s4 := sw v3 d3
                        go_wp2_with (go_at_call 15; refine s4.mono ?_; clear s4; rintro e v4 ⟨rfl, d4⟩)
                        replace d4 := d3.trans (d4.mono d3.size)
                        go_wp2_with (go_at_call 14; refine (knownCrc _).mono ?_; rintro e v5 ⟨rfl, d5⟩)
                        go_ret
                        exact ⟨rfl, (hbo.trans (d4.mono hbo.size)).trans (d5.mono (by have := d4.size; have := hbo.size; omega))⟩

end Go.Proofs.Ytpnagblbhlglhaa
