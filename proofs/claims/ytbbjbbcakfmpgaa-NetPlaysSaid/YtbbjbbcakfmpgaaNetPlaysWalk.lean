/- The walk of wicketlaw16.NetPlays: it answers true. Conditions: those that it states. -/
import Derived.Test.YtbbjbbcakfmpgaaPlayS
import Derived.Test.YtbbjbbcakfmpgaaKnownB
import Derived.Test.YtbbjbbcakfmpgaaOpenRows
import Derived.Deep.RegionLaw
import Derived.Deep.RegionHeld
import Derived.Deep.CutRange
import Derived.Deep.CutBlock
namespace Go.Proofs.Ytbbjbbcakfmpgaa
open Go.RowKit

theorem newPlay (w : World) : ∃ b, Calls Try.prog 14 #[] w fun e w' => e = .returned (.pointer (some ⟨b, 0, none⟩)) ∧ PlayS w w' b none 0 none 0 0 [] [] 0 :=
  ⟨_, (newS w).mono fun _ _ ⟨e, hn, hb⟩ => ⟨e, hn, World.ownsRow_nil _ _ _ _, (fun j e => by cases e), by omega, hb⟩⟩

set_option maxHeartbeats 8000000 in
set_option maxRecDepth 100000 in
theorem netPlays_walk (w : World) (Al : Option Addr) (nl cl : Nat) (R : Nat → List Value) (h1 : RowsAt w w.heap.size Al nl 3 R)
    (hR : ∀ i, i < nl → ∃ (K N : Int) (T : Option Addr) (tn tc : Nat) (ts : List ByteArray), R i = [.int .i64 K, .int .i64 N, .slice T tn tc] ∧ Reads w w.heap.size 1 T tn (strs ts) ∧ tn ≤ 8796093021952) :
    Calls Try.prog 4 #[.slice Al nl cl] w fun e w' => e = .returned (.bool true) ∧ Below w.heap.size w w' := by
  obtain ⟨i0, hi, hz0, hz1, hz2⟩ := info_parts Try.info9s
  obtain ⟨b, hnew⟩ := newPlay w
  have H0 := Lib.hid (And.intro h1 hR)
  clear h1 hR
  go_enter Try.func4, Try.ntmps4
  go_wp2_with (go_at_call 14; refine hnew.mono ?_; clear hnew; rintro e w0 ⟨rfl, hp⟩; have HN := Lib.hid hp; clear hp)
  go_loopw [4, 5, 6] (fun lv sv iv wr => ∃ (k : Nat) (A : Option Addr) (c : Nat) (G : Option Addr) (n gc : Nat) (xs : List ByteArray) (sent : Int), k ≤ 400 ∧ lv = .slice G n gc ∧ sv = .int .i64 sent ∧ iv = .int .i64 k ∧ Hid (PlayS w wr b A c G n gc xs xs sent ∧ 0 ≤ sent ∧ sent ≤ 65536 * k)) (fun _ _ iv _ => 400 - (intOf iv).toNat)
  case atStart => exact ⟨0, none, 0, none, 0, 0, [], 0, by omega, rfl, rfl, rfl, Lib.hid ⟨HN.out, by omega, by omega⟩⟩
  case round =>
  clear HN
  obtain ⟨k, A, c, G, n, gc, xs, sent, hk, rfl, rfl, rfl, HI⟩ := hrel
  by_cases hlt : k < nl ∧ k < 400
  · have q1 : (k : Int) < (nl : Int) := by omega
    have q2 : (k : Int) < 400 := by omega
    have q3 : (0 : Int) ≤ (k : Int) := by omega
    obtain ⟨ad, rfl, hab, _, hcell⟩ := H0.out.1 k hlt.1
    obtain ⟨K, N, T, tn, tc, ts, hRi, hrd, hnb⟩ := H0.out.2 k hlt.1
    have cN := fun (j : Nat) (v : Value) (hj : (R k)[j]? = some v) => (HI.out.1.below.cell (p := (ad.add (k * 3)).add j) (by rw [block_of_add, block_of_add]; exact hab)).trans (hcell j v hj)
    rw [hRi] at cN
    have x0 : wr.cell? (ad.add (k * 3)) = some (.int .i64 K) := cN 0 _ rfl
    have x1 : wr.cell? ((ad.add (k * 3)).add 1) = some (.int .i64 N) := cN 1 _ rfl
    have x2 : wr.cell? ((ad.add (k * 3)).add 2) = some (.slice T tn tc) := cN 2 _ rfl
    have x4 : wr.cell? ⟨(ad.add (k * 3)).block, (ad.add (k * 3)).off + 1, none⟩ = some (.int .i64 N) := cN 1 _ rfl
    have x5 : wr.cell? ⟨(ad.add (k * 3)).block, (ad.add (k * 3)).off + 2, none⟩ = some (.slice T tn tc) := cN 2 _ rfl
    clear cN hcell hRi
    obtain ⟨s, hs⟩ : ∃ s, wr.heap.size = s := ⟨_, rfl⟩
    have hb0 := Blk.new wr 40 #[.int .i64 K, .int .i64 N, .slice T tn tc]
    have hp0 := HI.out.1.new (W' := wr.alloc (.cells #[.int .i64 K, .int .i64 N, .slice T tn tc] 40)) ((Below.refl _ wr).alloc (Nat.le_refl _) _)
    have hsx : w.heap.size ≤ s := by have := HI.out.1.below.size; omega
    have HS := Lib.hid (And.intro HI.out.2.1 HI.out.2.2)
    rw [hs] at hb0
    go_upto_region 10 with (fail)
    try rw [hs]
    clear x0 x1 x2 x4 x5 HI hs
    generalize wr.alloc (.cells #[.int .i64 K, .int .i64 N, .slice T tn tc] 40) = V at hb0 hp0 ⊢
    have y0 := (hb0.cell 0).trans rfl
    have y1 := (hb0.cell 1).trans rfl
    have y2 := (hb0.cell 2).trans rfl
    have HP := Lib.hid (And.intro hp0 (And.intro hb0 hrd))
    clear hp0 hb0 hrd wr
    go_cut [8] from 36 to 45 (fun v wx => ∃ th : Bool, v = .bool th ∧ Hid (th = decide (0 ≤ N ∧ N < n)) ∧ wx = V)
    case first =>
      by_cases g1 : 0 ≤ N
      · by_cases g2 : N < n
        · go_wp2
          go_meet
          exact ⟨true, rfl, Lib.hid (by simp; omega), rfl⟩
        · go_wp2
          go_meet
          exact ⟨false, rfl, Lib.hid (by simp; omega), rfl⟩
      · go_wp2
        go_meet
        exact ⟨false, rfl, Lib.hid (by simp; omega), rfl⟩
    case rest =>
    obtain ⟨th, rfl, hth, hV⟩ := hcut
    have hV := hV.symm
    subst hV
    go_upto_block 2 with (fail)
    go_cut [4, 5] from 22 to 271 (fun lv sv wx => ∃ (A' : Option Addr) (c' : Nat) (G' : Option Addr) (n' gc' : Nat) (ys : List ByteArray) (s' : Int), lv = .slice G' n' gc' ∧ sv = .int .i64 s' ∧ Hid (PlayS w wx b A' c' G' n' gc' ys ys s' ∧ 0 ≤ s' ∧ s' ≤ 65536 * ((k : Int) + 1)))
    case first =>
      by_cases k1 : K = 1
      · subst k1
        as_aux_lemma =>
          have ho : V.ownsRow V.heap.size 9 1 (.slice none 0 0) 0 [] := World.ownsRow_nil _ _ _ _
          have hrV := HP.out.2.2.below HP.out.1.below
          have hszV := HP.out.1.below.size
          have hnsm := HP.out.1.small
          have u0 : IntKind.i64.wrap (65536 - (n : Int)) = 65536 - n := IntWalk.i64_in _ (by omega)
          go_upto_region 14 with (fail)
          go_wp2_with (at_builtin; refine wpList_append_any _ rfl _ _ 38 rfl V.heap.size 9 i0 (.string ⟨#[]⟩) 1 16 Try.underlying38 hi hz0 hz1 hz2 rfl (by decide) _ _ _ rfl ho w.heap.size T tn tc (strs ts) rfl hrV ?c1 ?c2 ?c3 (Nat.le_refl _) ?_)
          case c1 => exact strs_one ts
          case c2 => unfold maxLen; omega
          case c3 => omega
          intro v1 w1 ho1 hg1 _
          try simp only [Nat.zero_add, List.nil_append] at ho1
          obtain ⟨I, ic, rfl⟩ := own_shape ho1
          have hf1 : Fr noB V w1 := Fr.of_grown hg1 (fun k e => by simp [Value.ownBlock] at e)
          have hp1 := HP.out.1.fr hf1 (fun _ _ e => e) (fun _ _ e => e) (fun _ e => e.elim)
          have hb1 := HP.out.2.1.fr hf1 (fun e => e)
          have hsV := HP.out.2.1.lt
          have y2b := (hb1.cell 2).trans rfl
          clear y0 y1 y2 ho hrV hg1
          by_cases hf : 65536 - (n : Int) < tn
          · have cs := hp1.send_full I tn ic hf
            have HE := Lib.hid (And.intro hp1 HS.out)
            clear hp1 hf1 hb1 ho1
            go_wp2_with (go_at_call 15; refine cs.mono ?_; clear cs; rintro e w' ⟨rfl, rfl⟩)
            go_meet
            exact ⟨A, c, G, n, gc, xs, sent, rfl, rfl, Lib.hid ⟨HE.out.1, HE.out.2.1, by have := HE.out.2.2; omega⟩⟩
          · have cs := hp1.send_ HP.out.1 hf1.size I tn ic ts ho1 (by omega) HS.out.1 (by have := HS.out.2; omega)
            have HB := Lib.hid hb1
            clear hp1 hf1 hb1 ho1 hszV
            go_wp2_with (go_at_call 15; refine cs.mono ?_; clear cs; rintro e w2 ⟨rfl, A1, c1, hp2, ho2, hI, hb2⟩; replace hb2 := hb2 _ _ HB.out; have HQ := Lib.hid (And.intro hp2 (And.intro ho2 (And.intro hI hb2))); have y2c := (hb2.cell 2).trans rfl; clear hp2 ho2 hI hb2 y2b)
            have HI2 := Lib.hid HQ.out.2.2.1
            clear y2c
            go_loopw [11] (fun jv wr => ∃ j : Nat, j ≤ tn ∧ jv = .int .i64 j ∧ Hid (PlayS w wr b A1 c1 G n gc (xs ++ ts) xs (sent + tn) ∧ Blk wr s 40 #[.int .i64 1, .int .i64 N, .slice T tn tc] ∧ ∃ vs, wr.ownsRow V.heap.size 9 1 (.slice I tn ic) tn vs)) (fun jv _ => tn - (intOf jv).toNat)
            case atStart => exact ⟨0, by omega, rfl, Lib.hid ⟨HQ.out.1, HQ.out.2.2.2, _, HQ.out.2.1⟩⟩
            case round =>
            clear HQ
            obtain ⟨j, hj, rfl, HJ⟩ := hrel
            by_cases hjl : j < tn
            · have p1 : (j : Int) < (tn : Int) := by omega
              have p2 : (0 : Int) ≤ (j : Int) := by omega
              obtain ⟨hpr, hbr, vs, hor⟩ := HJ.out
              have hvl : vs.length = tn := hor.1.trans (Nat.mul_one _)
              obtain ⟨g, rfl, hg0, hgl, hcells, hfz, hset⟩ := own_open hor (by omega)
              have z0 := hcells j _ (List.getElem?_eq_getElem (show j < vs.length by omega))
              have z1 := hfz j
              have FIN : Hid (PlayS w (wr.setCell ⟨g, j, none⟩ (.string ⟨#[111, 118, 101, 114]⟩)) b A1 c1 G n gc (xs ++ ts) xs (sent + tn) ∧ Blk (wr.setCell ⟨g, j, none⟩ (.string ⟨#[111, 118, 101, 114]⟩)) s 40 #[.int .i64 1, .int .i64 N, .slice T tn tc] ∧ ∃ vs, (wr.setCell ⟨g, j, none⟩ (.string ⟨#[111, 118, 101, 114]⟩)).ownsRow V.heap.size 9 1 (.slice (some ⟨g, 0, none⟩) tn ic) tn vs) := Lib.hid (by
                have hF : Fr (fun k => k = g) wr (wr.setCell ⟨g, j, none⟩ (.string ⟨#[111, 118, 101, 114]⟩)) := (Fr.refl (fun k => k = g) wr).setCell (p := ⟨g, j, none⟩) (fun _ => rfl) _
                have hI := HI2.out g rfl
                refine ⟨hpr.fr hF (fun k hk e => hI.1 (e ▸ hk)) (fun k hk e => hI.2.1 (e ▸ hk)) (fun k e => e ▸ hI.2.2), hbr.fr hF (fun e => ?_), _, hset j _ hjl⟩
                omega)
              clear hpr hbr hor hcells hfz hset HJ
              go_wp2
              go_roundw
              case rel => exact ⟨j + 1, by omega, by go_num, FIN⟩
              case measure => simp [intOf]; omega
            · have ho3 := HJ.out.1.row
              have hr3 := HP.out.2.2.below HJ.out.1.below
              have hbase := HJ.out.1.below.size
              have y2d := (HJ.out.2.1.cell 2).trans rfl
              have u1 : IntKind.i64.wrap (sent + (tn : Int)) = sent + tn := IntWalk.i64_in _ (by have := HS.out; omega)
              go_wp2_with (at_builtin; refine wpList_append_any _ rfl _ _ 38 rfl w.heap.size 9 i0 (.string ⟨#[]⟩) 1 16 Try.underlying38 hi hz0 hz1 hz2 rfl (by decide) _ _ _ rfl ho3 w.heap.size T tn tc (strs ts) rfl hr3 ?d1 ?d2 ?d3 hbase ?_)
              case d1 => exact strs_one ts
              case d2 => unfold maxLen; omega
              case d3 => omega
              intro v3 w3 ho4 hg3 hat3
              obtain ⟨G1, gc1, rfl, hp3⟩ := HJ.out.1.grow (zs := xs ++ ts) (by rw [strs_append]; exact ho4) rfl hg3 hat3 (by omega)
              have hb3 := HJ.out.2.1.grown hg3 (fun e => own_blk_ne ho3 HJ.out.2.1 (by decide) e.symm)
              have y2e := (hb3.cell 2).trans rfl
              have HE := Lib.hid hp3
              clear ho3 hr3 ho4 hg3 hat3 hp3 hb3 y2d HJ
              go_wp2
              go_meet
              exact ⟨A1, c1, G1, n + tn, gc1, xs ++ ts, sent + tn, rfl, rfl, Lib.hid ⟨HE.out, by have := HS.out; omega, by have := HS.out; omega⟩⟩
      by_cases k2 : K = 2
      · subst k2
        as_aux_lemma =>
          by_cases hin : 0 ≤ N ∧ N < (n : Int)
          · obtain rfl : th = true := by rw [hth.out]; simpa using hin
            obtain ⟨m, rfl⟩ := Int.eq_ofNat_of_zero_le hin.1
            have hm : m < n := by omega
            have f2 : (m : Int) < (n : Int) := by omega
            have f3 : (0 : Int) ≤ (m : Int) := by omega
            have ct := HP.out.1.take_ m hm
            have HB := Lib.hid HP.out.2.1
            have hnsm := HP.out.1.small
            clear y2
            go_wp2_with (first | (go_at_call 16; refine ct.mono ?_; clear ct; rintro e w1 ⟨rfl, ⟨A1, c1, hp1⟩, hk1⟩; have hb1 := hk1 _ _ HB.out; have y1b := (hb1.cell 1).trans rfl; have y0b := (hb1.cell 0).trans rfl; obtain ⟨g, rfl, hgc, hcell⟩ := hp1.cell m hm; have hr := hp1.reads; have hbase := hp1.below.size; have HE := Lib.hid (And.intro hp1 hb1); clear hp1 hb1 hk1))
            have e1 : (m : Int) ≤ (gc : Int) := by omega
            have e3 : (m : Int) + 1 ≤ (n : Int) := by omega
            have e4 : (0 : Int) ≤ (m : Int) + 1 := by omega
            have e7 : (m : Int) ≤ (m : Int) + 1 := by omega
            have e5 : IntKind.i64.wrap ((m : Int) + 1) = (m : Int) + 1 := IntWalk.i64_in _ (by omega)
            have e6 : ((m : Int) + 1).toNat = m + 1 := by omega
            have ho : w1.drew.ownsRow w1.heap.size 9 1 (.slice none 0 0) 0 [] := World.ownsRow_nil _ _ _ _
            have hrf := (Reads.frontS hr (Nat.le_of_lt hm)).drew
            have hnc : n ≤ gc := hgc
            have p1 : 0 + m ≤ maxLen := by unfold maxLen; omega
            have p2 : (0 + m) * 16 ≤ 140737488355328 := by omega
            have p3 : m + (n - (m + 1)) ≤ maxLen := by unfold maxLen; omega
            have p4 : (m + (n - (m + 1))) * 16 ≤ 140737488355328 := by omega
            have FN : ∀ (w2 w3 : World) (v2 v3 : Value), w1.drew.grownBy w2 none → w2.ownsRow w1.heap.size 9 1 v2 m (strs (xs.take m)) → w2.grownBy w3 v2.ownBlock → w3.ownsRow w1.heap.size 9 1 v3 (m + (n - (m + 1))) (strs (xs.take m) ++ strs (xs.drop (m + 1))) →
                ∃ G1 gc1, v3 = .slice G1 (n - 1) gc1 ∧ Hid (PlayS w w3 b A1 c1 G1 (n - 1) gc1 (xs.eraseIdx m) (xs.eraseIdx m) sent) := by
              intro w2 w3 v2 v3 g2 o2 g3 o3
              have b2 : Below w1.heap.size w1 w2 := ((Below.refl _ w1).drew).grown g2 (Nat.le_refl _) (fun k e => by cases e)
              have b3 := b2.grown g3 b2.size (own_base o2)
              obtain ⟨G1, gc1, e, hp⟩ := HE.out.1.cut hm (k := m + (n - (m + 1))) o3 (by omega) b3
              exact ⟨G1, gc1, e, Lib.hid hp⟩
            have HB2 : ∀ w2 : World, w1.drew.grownBy w2 none → w2.cell? ⟨s, 1, none⟩ = some (.int .i64 m) := fun w2 g2 => ((HE.out.2.drew.grown g2 (fun e => by cases e)).cell 1).trans rfl
            have y1d : w1.drew.cell? ⟨s, 1, none⟩ = some (.int .i64 m) := y1b
            have hsz : w1.heap.size ≤ w1.drew.heap.size := Nat.le_refl _
            by_cases hcap : gc = m + 1
            · have hrb : Reads w1.drew w1.heap.size 1 (some ⟨g, 0, none⟩) (n - (m + 1)) (strs (xs.drop (m + 1))) := by
                have := hr.cut (k := m + 1) hm hnc
                rw [if_pos hcap] at this
                exact (by simpa [strs, List.map_drop] using this : Reads w1 w1.heap.size 1 (some ⟨g, 0, none⟩) (n - (m + 1)) (strs (xs.drop (m + 1)))).drew
              subst hcap
              have hn1 : n - (m + 1) = 0 := by omega
              rw [hn1] at hrb p3 p4 FN
              go_region_law (first
                | (refine step_append_any w1.drew rfl _ _ 38 rfl w1.heap.size 9 i0 (.string ⟨#[]⟩) 1 16 Try.underlying38 hi hz0 hz1 hz2 rfl (by decide) _ _ _ rfl ho w1.heap.size (some ⟨g, 0, none⟩) m (m + 1) (strs (xs.take m)) rfl hrf (strs_one _) p1 p2 hsz ?_; intro v2 w2 ho2 hg2 _; (try simp only [Nat.zero_add, List.nil_append] at ho2); obtain ⟨A4, c4, rfl⟩ := own_shape ho2; have hrb2 := hrb.grown hg2 hsz (fun k e => by cases e); have y1e := HB2 w2 hg2; have hsz2 := hg2.size; clear ho)
                | (refine step_append_any w2 rfl _ _ 38 rfl w1.heap.size 9 i0 (.string ⟨#[]⟩) 1 16 Try.underlying38 hi hz0 hz1 hz2 rfl (by decide) _ _ _ rfl ho2 w1.heap.size (some ⟨g, 0, none⟩) 0 0 (strs (xs.drop (m + 1))) rfl hrb2 (strs_one _) p3 p4 (Nat.le_trans hsz hsz2) ?_; intro v3 w3 ho3 hg3 _; obtain ⟨G1, gc1, rfl, HE5⟩ := FN w2 w3 _ v3 hg2 ho2 hg3 ho3; clear ho3 hg3))
              all_goals
                clear FN HB2
                go_wp2
                go_meet
                exact ⟨A1, c1, G1, n - 1, gc1, xs.eraseIdx m, sent, rfl, rfl, Lib.hid ⟨HE5.out, HS.out.1, by have := HS.out.2; omega⟩⟩
            · have hrb := (Reads.backS hr hm hnc hcap).drew
              go_region_law (first
                | (refine step_append_any w1.drew rfl _ _ 38 rfl w1.heap.size 9 i0 (.string ⟨#[]⟩) 1 16 Try.underlying38 hi hz0 hz1 hz2 rfl (by decide) _ _ _ rfl ho w1.heap.size (some ⟨g, 0, none⟩) m gc (strs (xs.take m)) rfl hrf (strs_one _) p1 p2 hsz ?_; intro v2 w2 ho2 hg2 _; (try simp only [Nat.zero_add, List.nil_append] at ho2); obtain ⟨A4, c4, rfl⟩ := own_shape ho2; have hrb2 := hrb.grown hg2 hsz (fun k e => by cases e); have y1e := HB2 w2 hg2; have hsz2 := hg2.size; clear ho)
                | (refine step_append_any w2 rfl _ _ 38 rfl w1.heap.size 9 i0 (.string ⟨#[]⟩) 1 16 Try.underlying38 hi hz0 hz1 hz2 rfl (by decide) _ _ _ rfl ho2 w1.heap.size (some ⟨g, m + 1, none⟩) (n - (m + 1)) (gc - (m + 1)) (strs (xs.drop (m + 1))) rfl hrb2 (strs_one _) p3 p4 (Nat.le_trans hsz hsz2) ?_; intro v3 w3 ho3 hg3 _; obtain ⟨G1, gc1, rfl, HE5⟩ := FN w2 w3 _ v3 hg2 ho2 hg3 ho3; clear ho3 hg3))
              all_goals
                clear FN HB2
                go_wp2
                go_meet
                exact ⟨A1, c1, G1, n - 1, gc1, xs.eraseIdx m, sent, rfl, rfl, Lib.hid ⟨HE5.out, HS.out.1, by have := HS.out.2; omega⟩⟩
          · obtain rfl : th = false := by rw [hth.out]; simpa using hin
            have ct := HP.out.1.take_out N (by omega)
            clear y2
            go_wp2_with (first | (go_at_call 16; refine ct.mono ?_; clear ct; rintro e w1 ⟨rfl, rfl⟩))
            go_meet
            exact ⟨A, c, G, n, gc, xs, sent, rfl, rfl, Lib.hid ⟨HP.out.1, HS.out.1, by have := HS.out.2; omega⟩⟩
      by_cases k4 : K = 4
      · subst k4
        as_aux_lemma =>
          by_cases hin : 0 ≤ N ∧ N < (n : Int)
          · obtain rfl : th = true := by rw [hth.out]; simpa using hin
            obtain ⟨m, rfl⟩ := Int.eq_ofNat_of_zero_le hin.1
            have hm : m < n := by omega
            have f2 : (m : Int) < (n : Int) := by omega
            have f3 : (0 : Int) ≤ (m : Int) := by omega
            have ct := HP.out.1.lose_ m hm
            have HB := Lib.hid HP.out.2.1
            have hnsm := HP.out.1.small
            clear y2
            go_wp2_with (first | (go_at_call 17; refine ct.mono ?_; clear ct; rintro e w1 ⟨rfl, ⟨A1, c1, hp1⟩, hk1⟩; have hb1 := hk1 _ _ HB.out; have y1b := (hb1.cell 1).trans rfl; have y0b := (hb1.cell 0).trans rfl; obtain ⟨g, rfl, hgc, hcell⟩ := hp1.cell m hm; have hr := hp1.reads; have hbase := hp1.below.size; have HE := Lib.hid (And.intro hp1 hb1); clear hp1 hb1 hk1))
            have e1 : (m : Int) ≤ (gc : Int) := by omega
            have e3 : (m : Int) + 1 ≤ (n : Int) := by omega
            have e4 : (0 : Int) ≤ (m : Int) + 1 := by omega
            have e7 : (m : Int) ≤ (m : Int) + 1 := by omega
            have e5 : IntKind.i64.wrap ((m : Int) + 1) = (m : Int) + 1 := IntWalk.i64_in _ (by omega)
            have e6 : ((m : Int) + 1).toNat = m + 1 := by omega
            have ho : w1.drew.ownsRow w1.heap.size 9 1 (.slice none 0 0) 0 [] := World.ownsRow_nil _ _ _ _
            have hrf := (Reads.frontS hr (Nat.le_of_lt hm)).drew
            have hnc : n ≤ gc := hgc
            have p1 : 0 + m ≤ maxLen := by unfold maxLen; omega
            have p2 : (0 + m) * 16 ≤ 140737488355328 := by omega
            have p3 : m + (n - (m + 1)) ≤ maxLen := by unfold maxLen; omega
            have p4 : (m + (n - (m + 1))) * 16 ≤ 140737488355328 := by omega
            have FN : ∀ (w2 w3 : World) (v2 v3 : Value), w1.drew.grownBy w2 none → w2.ownsRow w1.heap.size 9 1 v2 m (strs (xs.take m)) → w2.grownBy w3 v2.ownBlock → w3.ownsRow w1.heap.size 9 1 v3 (m + (n - (m + 1))) (strs (xs.take m) ++ strs (xs.drop (m + 1))) →
                ∃ G1 gc1, v3 = .slice G1 (n - 1) gc1 ∧ Hid (PlayS w w3 b A1 c1 G1 (n - 1) gc1 (xs.eraseIdx m) (xs.eraseIdx m) sent) := by
              intro w2 w3 v2 v3 g2 o2 g3 o3
              have b2 : Below w1.heap.size w1 w2 := ((Below.refl _ w1).drew).grown g2 (Nat.le_refl _) (fun k e => by cases e)
              have b3 := b2.grown g3 b2.size (own_base o2)
              obtain ⟨G1, gc1, e, hp⟩ := HE.out.1.cut hm (k := m + (n - (m + 1))) o3 (by omega) b3
              exact ⟨G1, gc1, e, Lib.hid hp⟩
            have HB2 : ∀ w2 : World, w1.drew.grownBy w2 none → w2.cell? ⟨s, 1, none⟩ = some (.int .i64 m) := fun w2 g2 => ((HE.out.2.drew.grown g2 (fun e => by cases e)).cell 1).trans rfl
            have y1d : w1.drew.cell? ⟨s, 1, none⟩ = some (.int .i64 m) := y1b
            have hsz : w1.heap.size ≤ w1.drew.heap.size := Nat.le_refl _
            by_cases hcap : gc = m + 1
            · have hrb : Reads w1.drew w1.heap.size 1 (some ⟨g, 0, none⟩) (n - (m + 1)) (strs (xs.drop (m + 1))) := by
                have := hr.cut (k := m + 1) hm hnc
                rw [if_pos hcap] at this
                exact (by simpa [strs, List.map_drop] using this : Reads w1 w1.heap.size 1 (some ⟨g, 0, none⟩) (n - (m + 1)) (strs (xs.drop (m + 1)))).drew
              subst hcap
              have hn1 : n - (m + 1) = 0 := by omega
              rw [hn1] at hrb p3 p4 FN
              go_region_law (first
                | (refine step_append_any w1.drew rfl _ _ 38 rfl w1.heap.size 9 i0 (.string ⟨#[]⟩) 1 16 Try.underlying38 hi hz0 hz1 hz2 rfl (by decide) _ _ _ rfl ho w1.heap.size (some ⟨g, 0, none⟩) m (m + 1) (strs (xs.take m)) rfl hrf (strs_one _) p1 p2 hsz ?_; intro v2 w2 ho2 hg2 _; (try simp only [Nat.zero_add, List.nil_append] at ho2); obtain ⟨A4, c4, rfl⟩ := own_shape ho2; have hrb2 := hrb.grown hg2 hsz (fun k e => by cases e); have y1e := HB2 w2 hg2; have hsz2 := hg2.size; clear ho)
                | (refine step_append_any w2 rfl _ _ 38 rfl w1.heap.size 9 i0 (.string ⟨#[]⟩) 1 16 Try.underlying38 hi hz0 hz1 hz2 rfl (by decide) _ _ _ rfl ho2 w1.heap.size (some ⟨g, 0, none⟩) 0 0 (strs (xs.drop (m + 1))) rfl hrb2 (strs_one _) p3 p4 (Nat.le_trans hsz hsz2) ?_; intro v3 w3 ho3 hg3 _; obtain ⟨G1, gc1, rfl, HE5⟩ := FN w2 w3 _ v3 hg2 ho2 hg3 ho3; clear ho3 hg3))
              all_goals
                clear FN HB2
                go_wp2
                go_meet
                exact ⟨A1, c1, G1, n - 1, gc1, xs.eraseIdx m, sent, rfl, rfl, Lib.hid ⟨HE5.out, HS.out.1, by have := HS.out.2; omega⟩⟩
            · have hrb := (Reads.backS hr hm hnc hcap).drew
              go_region_law (first
                | (refine step_append_any w1.drew rfl _ _ 38 rfl w1.heap.size 9 i0 (.string ⟨#[]⟩) 1 16 Try.underlying38 hi hz0 hz1 hz2 rfl (by decide) _ _ _ rfl ho w1.heap.size (some ⟨g, 0, none⟩) m gc (strs (xs.take m)) rfl hrf (strs_one _) p1 p2 hsz ?_; intro v2 w2 ho2 hg2 _; (try simp only [Nat.zero_add, List.nil_append] at ho2); obtain ⟨A4, c4, rfl⟩ := own_shape ho2; have hrb2 := hrb.grown hg2 hsz (fun k e => by cases e); have y1e := HB2 w2 hg2; have hsz2 := hg2.size; clear ho)
                | (refine step_append_any w2 rfl _ _ 38 rfl w1.heap.size 9 i0 (.string ⟨#[]⟩) 1 16 Try.underlying38 hi hz0 hz1 hz2 rfl (by decide) _ _ _ rfl ho2 w1.heap.size (some ⟨g, m + 1, none⟩) (n - (m + 1)) (gc - (m + 1)) (strs (xs.drop (m + 1))) rfl hrb2 (strs_one _) p3 p4 (Nat.le_trans hsz hsz2) ?_; intro v3 w3 ho3 hg3 _; obtain ⟨G1, gc1, rfl, HE5⟩ := FN w2 w3 _ v3 hg2 ho2 hg3 ho3; clear ho3 hg3))
              all_goals
                clear FN HB2
                go_wp2
                go_meet
                exact ⟨A1, c1, G1, n - 1, gc1, xs.eraseIdx m, sent, rfl, rfl, Lib.hid ⟨HE5.out, HS.out.1, by have := HS.out.2; omega⟩⟩
          · obtain rfl : th = false := by rw [hth.out]; simpa using hin
            have ct := HP.out.1.lose_out N (by omega)
            clear y2
            go_wp2_with (first | (go_at_call 17; refine ct.mono ?_; clear ct; rintro e w1 ⟨rfl, rfl⟩))
            go_meet
            exact ⟨A, c, G, n, gc, xs, sent, rfl, rfl, Lib.hid ⟨HP.out.1, HS.out.1, by have := HS.out.2; omega⟩⟩
      by_cases k6 : K = 6
      · subst k6
        as_aux_lemma =>
          by_cases hin : 0 ≤ N ∧ N < (n : Int)
          · obtain rfl : th = true := by rw [hth.out]; simpa using hin
            obtain ⟨m, rfl⟩ := Int.eq_ofNat_of_zero_le hin.1
            have hm : m < n := by omega
            have f2 : (m : Int) < (n : Int) := by omega
            have f3 : (0 : Int) ≤ (m : Int) := by omega
            have ct := HP.out.1.at_ m hm
            obtain ⟨g, rfl, hgc, hcell⟩ := HP.out.1.cell m hm
            clear y2
            go_wp2_with (first | (go_at_call 18; refine ct.mono ?_; clear ct; rintro e w1 ⟨rfl, rfl⟩))
            go_meet
            exact ⟨A, c, _, n, gc, xs, sent, rfl, rfl, Lib.hid ⟨HP.out.1, HS.out.1, by have := HS.out.2; omega⟩⟩
          · obtain rfl : th = false := by rw [hth.out]; simpa using hin
            have ct := HP.out.1.at_out N (by omega)
            clear y2
            go_wp2_with (first | (go_at_call 18; refine ct.mono ?_; clear ct; rintro e w1 ⟨rfl, rfl⟩))
            go_meet
            exact ⟨A, c, G, n, gc, xs, sent, rfl, rfl, Lib.hid ⟨HP.out.1, HS.out.1, by have := HS.out.2; omega⟩⟩
      by_cases k3 : K = 3
      · subst k3
        as_aux_lemma =>
          by_cases hin : 0 ≤ N ∧ N < (n : Int)
          · obtain rfl : th = true := by rw [hth.out]; simpa using hin
            obtain ⟨m, rfl⟩ := Int.eq_ofNat_of_zero_le hin.1
            have hm : m < n := by omega
            by_cases hf : n < 65536
            · have f1 : ¬ (65536 : Int) ≤ (n : Int) := by omega
              have f2 : (m : Int) < (n : Int) := by omega
              have f3 : (0 : Int) ≤ (m : Int) := by omega
              have ct := HP.out.1.twin_ m hm hf HS.out.1 (by have := HS.out.2; omega)
              have u1 : IntKind.i64.wrap (sent + 1) = sent + 1 := IntWalk.i64_in _ (by have := HS.out; omega)
              have HB := Lib.hid HP.out.2.1
              have HF := Lib.hid hf
              clear y2 y0 hf
              go_upto_if 174 with (first | (go_at_call 19; refine ct.mono ?_; clear ct; rintro e w1 ⟨rfl, ⟨A1, c1, hp1⟩, hk1⟩; have hb1 := hk1 _ _ HB.out; have y1b := (hb1.cell 1).trans rfl; obtain ⟨g, rfl, hgc, hcell⟩ := hp1.cell m hm; have HE := Lib.hid (And.intro hp1 hb1); clear hp1 hb1 hk1))
              have e1 : decide ((65536 : Int) ≤ (n : Int)) = false := decide_eq_false (by have := HF.out; omega)
              simp only [e1]
              go_upto_region 48 with (fail)
              have ho := (HE.out.1.new ((Below.refl _ w1).alloc (Nat.le_refl _) (.cells #[.string (gets xs m)] 9))).row
              have hp2 := HE.out.1.new ((Below.refl _ w1).alloc (Nat.le_refl _) (.cells #[.string (gets xs m)] 9))
              have HP2 := Lib.hid hp2
              have hbase := hp2.below.size
              have hr := reads_one_s w1 (gets xs m)
              clear hp2
              obtain ⟨x, hx⟩ : ∃ x, gets xs m = x := ⟨_, rfl⟩
              rw [hx] at hcell ho hr HP2 hbase
              go_wp2_with (at_builtin; refine wpList_append_any _ rfl _ _ 38 rfl w.heap.size 9 i0 (.string ⟨#[]⟩) 1 16 Try.underlying38 hi hz0 hz1 hz2 rfl (by decide) _ _ _ rfl ho (w1.heap.size + 1) _ 1 1 [.string x] rfl hr ?c1 ?c2 ?c3 hbase ?_)
              case c1 => intro u hu; simp at hu; subst hu; rfl
              case c2 => have := HF.out; unfold maxLen; omega
              case c3 => have := HF.out; omega
              intro v3 w3 ho4 hg3 hat3
              obtain ⟨G1, gc1, rfl, hp3⟩ := HP2.out.grow (zs := xs ++ [x]) (by rw [strs_append]; exact ho4) rfl hg3 (by simpa using hat3) (by have := HF.out; omega)
              have HE2 := Lib.hid hp3
              clear ho hr ho4 hg3 hat3 hp3 HP2 HE hcell hx
              go_wp2
              go_meet
              exact ⟨A1, c1, G1, n + 1, gc1, xs ++ [x], sent + 1, rfl, rfl, Lib.hid ⟨HE2.out, by have := HS.out; omega, by have := HS.out; omega⟩⟩
            · have f1 : (65536 : Int) ≤ (n : Int) := by omega
              have hn65 : n = 65536 := by have := HP.out.1.small; omega
              have ct := HP.out.1.twin_full m hm hn65
              clear y2 y0 hn65 hf
              go_upto_if 174 with (first | (go_at_call 19; refine ct.mono ?_; clear ct; rintro e w1 ⟨rfl, hb1⟩; have HE := Lib.hid (HP.out.1.new hb1); clear hb1))
              have e1 : decide ((65536 : Int) ≤ (n : Int)) = true := decide_eq_true (by have := HP.out.1.small; omega)
              try simp only [e1]
              go_wp2
              go_meet
              exact ⟨A, c, G, n, gc, xs, sent, rfl, rfl, Lib.hid ⟨HE.out, HS.out.1, by have := HS.out.2; omega⟩⟩
          · obtain rfl : th = false := by rw [hth.out]; simpa using hin
            have ct := HP.out.1.twin_out N (by omega)
            clear y2 y0
            go_wp2_with (first | (go_at_call 19; refine ct.mono ?_; clear ct; rintro e w1 ⟨rfl, rfl⟩))
            go_meet
            exact ⟨A, c, G, n, gc, xs, sent, rfl, rfl, Lib.hid ⟨HP.out.1, HS.out.1, by have := HS.out.2; omega⟩⟩
      by_cases k5 : K = 5
      · subst k5
        as_aux_lemma =>
          have ck := HP.out.1.keep_ s _ N _ HP.out.2.1
          have HB := Lib.hid HP.out.2.1
          have hnsm := HP.out.1.small
          clear y2 y0 y1
          go_wp2_with (first | (go_at_call 20; refine ck.mono ?_; clear ck; rintro e w1 ⟨rfl, ⟨A1, c1, hp1⟩, hk1⟩; have hb1 := hk1 _ _ HB.out; have HE := Lib.hid (And.intro hp1 hb1); clear hp1 hb1 hk1))
          have HLT : Hid ((∀ k, fpI b A1 k → k < w1.heap.size) ∧ (∀ k, blkOf G = some k → k < w1.heap.size) ∧ s < w1.heap.size ∧ w.heap.size ≤ w1.heap.size) := Lib.hid ⟨HE.out.1.fp_lt, HE.out.1.lt, HE.out.2.lt, HE.out.1.below.size⟩
          go_loopw [16, 17] (fun rv jv wr => ∃ (j : Nat) (G1 : Option Addr) (m gc1 : Nat), j ≤ n ∧ m ≤ j ∧ jv = .int .i64 j ∧ rv = .slice G1 m gc1 ∧ Hid (PlayS w wr b A1 c1 G n gc (longer N xs) xs sent ∧ Blk wr s 40 #[.int .i64 5, .int .i64 N, .slice T tn tc] ∧ (longer N (xs.take j)).length = m ∧ wr.ownsRow w1.heap.size 9 1 (.slice G1 m gc1) m (strs (longer N (xs.take j))) ∧ Below w1.heap.size w1 wr)) (fun _ jv _ => n - (intOf jv).toNat)
          case atStart => exact ⟨0, none, 0, 0, by omega, by omega, rfl, rfl, Lib.hid ⟨HE.out.1, HE.out.2, by simp [longer], World.ownsRow_nil _ _ _ _, Below.refl _ _⟩⟩
          case round =>
          obtain ⟨j, G1, m, gc1, hj, hmj, rfl, rfl, HJ⟩ := hrel
          by_cases hjl : j < n
          · have p1 : (j : Int) < (n : Int) := by omega
            have p2 : (0 : Int) ≤ (j : Int) := by omega
            obtain ⟨hpr, hbr, hm, hor, hbl⟩ := HJ.out
            obtain ⟨g, rfl, hgc, hcell⟩ := hpr.cell j hjl
            have z1 := (hbr.cell 1).trans rfl
            have hstep := longer_take N xs j (by have := hpr.len; omega)
            have hszl := hbl.size
            clear HJ
            have HJ := Lib.hid (And.intro hpr (And.intro hbr (And.intro hm (And.intro hor hbl))))
            have hr := reads_one_s wr.drew (gets xs j)
            have ho2 := (own_fr (S := noB) hor (Fr.refl _ wr).drew (fun _ _ e => e)).alloc (.cells #[.string (gets xs j)] 9)
            obtain ⟨x, hx⟩ : ∃ x, gets xs j = x := ⟨_, rfl⟩
            rw [hx] at hcell hstep hr ho2
            have HX := Lib.hid hx
            have hcd : wr.drew.cell? ⟨g, j, none⟩ = some (.string x) := hcell
            have z1d : wr.drew.cell? ⟨s, 1, none⟩ = some (.int .i64 N) := z1
            clear hpr hbr hm hor hx hbl
            by_cases hc : N < (x.size : Int)
            · rw [if_pos hc] at hstep
              have HST := Lib.hid hstep
              clear hstep
              go_wp2
              go_region_law (fail)
              all_goals
                go_wp2_with (at_builtin; refine wpList_append_any _ rfl _ _ 38 rfl w1.heap.size 9 i0 (.string ⟨#[]⟩) 1 16 Try.underlying38 hi hz0 hz1 hz2 rfl (by decide) _ _ _ rfl ho2 (wr.heap.size + 1) _ 1 1 [.string x] rfl hr ?c1 ?c2 ?c3 ?c4 ?_)
                case c1 => intro u hu; simp at hu; subst hu; rfl
                case c2 => unfold maxLen; omega
                case c3 => omega
                case c4 => simp; omega
                intro v3 w3 ho4 hg3 hat3
                obtain ⟨G4, c4, rfl⟩ := own_shape ho4
                have HJ4 : Hid (PlayS w w3 b A1 c1 (some ⟨g, 0, none⟩) n gc (longer N xs) xs sent ∧ Blk w3 s 40 #[.int .i64 5, .int .i64 N, .slice T tn tc] ∧ (longer N (xs.take (j + 1))).length = m + 1 ∧ w3.ownsRow w1.heap.size 9 1 (.slice G4 (m + 1) c4) (m + 1) (strs (longer N (xs.take (j + 1)))) ∧ Below w1.heap.size w1 w3) := Lib.hid (by
                  obtain ⟨hpr, hbr, hm, hor, hbl⟩ := HJ.out
                  have hbn : Below w1.heap.size wr w3 := ((Below.refl _ wr).drew.alloc hszl _).grown hg3 (by simp; omega) (own_base hor)
                  refine ⟨?_, ?_, ?_, ?_, hbl.trans hbn⟩
                  · exact hpr.fr (Fr.of_below (S := fun i => w1.heap.size ≤ i) hbn (fun _ _ e => e)) (fun i e => Nat.not_le_of_lt (HLT.out.1 i e)) (fun i e => Nat.not_le_of_lt (HLT.out.2.1 i e)) (fun i e => Nat.le_trans HLT.out.2.2.2 e)
                  · exact hbr.below hbn HLT.out.2.2.1
                  · rw [HST.out, List.length_append, hm]; rfl
                  · rw [HST.out, strs_append]; exact ho4)
                clear ho4 hg3 hat3
                go_wp2
                go_roundw
                case rel => exact ⟨j + 1, G4, m + 1, c4, by omega, by omega, by go_num, rfl, HJ4⟩
                case measure => simp [intOf]; omega
            · rw [if_neg hc] at hstep
              have HST := Lib.hid hstep
              clear hstep
              have HJ4 : Hid (PlayS w wr.drew b A1 c1 (some ⟨g, 0, none⟩) n gc (longer N xs) xs sent ∧ Blk wr.drew s 40 #[.int .i64 5, .int .i64 N, .slice T tn tc] ∧ (longer N (xs.take (j + 1))).length = m ∧ wr.drew.ownsRow w1.heap.size 9 1 (.slice G1 m gc1) m (strs (longer N (xs.take (j + 1)))) ∧ Below w1.heap.size w1 wr.drew) := Lib.hid (by
                  obtain ⟨hpr, hbr, hm, hor, hbl⟩ := HJ.out
                  have hF := (Fr.refl noB wr).drew
                  refine ⟨hpr.new ((Below.refl _ wr).drew), hbr, by rw [HST.out, hm], by rw [HST.out]; exact own_fr hor hF (fun _ _ e => e), hbl.trans ((Below.refl _ wr).drew)⟩)
              go_wp2
              go_region_law (fail)
              all_goals
                go_wp2
                go_roundw
                case rel => exact ⟨j + 1, G1, m, gc1, by omega, by omega, by go_num, rfl, HJ4⟩
                case measure => simp [intOf]; omega
          · obtain rfl : j = n := by omega
            obtain ⟨hpr, hbr, hm, hor, hbl⟩ := HJ.out
            have htk : xs.take j = xs := List.take_of_length_le (by have := hpr.len; omega)
            rw [htk] at hm hor
            rw [hm]
            have u1 : IntKind.i64.wrap ((j : Int) - (m : Int)) = (j : Int) - m := IntWalk.i64_in _ (by omega)
            have HE5 : Hid (PlayS w wr b A1 c1 G1 m gc1 (longer N xs) (longer N xs) sent) := Lib.hid (HE.out.1.close (own_mono hor HLT.out.2.2.2) (Fr.of_new hbl) (fun i hi => .inr (own_base hor i (by rw [ownBlock_slice]; exact hi))) (by omega))
            clear hpr hbr hm hor hbl htk HJ
            go_wp2
            go_meet
            exact ⟨A1, c1, G1, m, gc1, longer N xs, sent, rfl, rfl, Lib.hid ⟨HE5.out, HS.out.1, by have := HS.out.2; omega⟩⟩
      by_cases k7 : K = 7
      · subst k7
        as_aux_lemma =>
          have hg := HP.out.1.goes_ N
          clear y2
          go_wp2_with (go_at_call 22; refine hg.mono ?_; clear hg; rintro e w' ⟨rfl, hp⟩; have HE := Lib.hid hp; clear hp)
          go_meet
          exact ⟨A, c, G, n, gc, xs, sent, rfl, rfl, Lib.hid ⟨HE.out, HS.out.1, by have := HS.out.2; omega⟩⟩
      by_cases k8 : K = 8
      · subst k8
        have cc := HP.out.1.copy_
        have hnsm := HP.out.1.small
        have hlen := HP.out.1.len
        have hs1 : sent ≤ 1000000000 := by have := HS.out.2; omega
        have HNS := Lib.hid (And.intro hnsm (And.intro hlen hs1))
        clear y2 y0 y1 hlen hnsm hs1
        go_upto_region 66 with (first | (go_at_call 23; refine cc.mono ?_; clear cc; rintro e w1 ⟨b2, rfl, A1, c1, hn1, hb1⟩; have HN1 := Lib.hid (And.intro hn1 hb1); clear hn1 hb1))
        generalize hM : (65536 : Int) = M
        have HM := Lib.hid hM
        clear hM
        by_cases hf : (n : Int) < M
        · as_aux_lemma =>
            have cs := more_in w1 _ b2 _ _ _ _ HN1.out.1 HN1.out.2.size ⟨#[109, 111, 114, 101]⟩ (by have := HM.out; have := HNS.out; omega) HS.out.1 HNS.out.2.2
            have u1 : IntKind.i64.wrap ((n : Int) + 1) = n + 1 := IntWalk.i64_in _ (by have := HNS.out; omega)
            go_wp2_with (first
              | (go_at_call 15; refine cs.mono ?_; clear cs; rintro e w2 ⟨rfl, A2, c2, hn2, hb2⟩; have cl := lenS _ _ _ _ _ _ _ hn2; have co := lose_first _ _ _ _ _ _ _ hn2 (by simp) (by have := HM.out; have := HNS.out; simp; omega); rw [List.length_append, HNS.out.2.1] at cl; have HB2 := Lib.hid (HN1.out.2.trans hb2); clear hn2 hb2)
              | (go_at_call 24; refine cl.mono ?_; clear cl; rintro e w' ⟨rfl, rfl⟩)
              | (go_at_call 17; refine co.mono ?_; clear co; rintro e w3 ⟨rfl, hb3⟩; have HE := Lib.hid (HP.out.1.new (HB2.out.trans hb3)); clear hb3))
            go_meet
            exact ⟨A, c, G, n, gc, xs, sent, rfl, rfl, Lib.hid ⟨HE.out, HS.out.1, by have := HS.out.2; omega⟩⟩
        · as_aux_lemma =>
            have hn65 : xs.length = 65536 := by have := HM.out; have := HNS.out; omega
            have cs := more_full w1 _ b2 _ _ _ _ HN1.out.1 HN1.out.2.size ⟨#[109, 111, 114, 101]⟩ hn65
            have u1 : IntKind.i64.wrap ((n : Int) + 1) = n + 1 := IntWalk.i64_in _ (by have := HNS.out; omega)
            have HN65 := Lib.hid hn65
            clear hn65
            go_wp2_with (first
              | (go_at_call 15; refine cs.mono ?_; clear cs; rintro e w2 ⟨rfl, hn2, hb2⟩; have cl := lenS _ _ _ _ _ _ _ hn2; have co := lose_first _ _ _ _ _ _ _ hn2 (by have := HN65.out; omega) (by have := HN65.out; omega); rw [HNS.out.2.1] at cl; have HB2 := Lib.hid (HN1.out.2.trans hb2); clear hn2 hb2)
              | (go_at_call 24; refine cl.mono ?_; clear cl; rintro e w' ⟨rfl, rfl⟩)
              | (go_at_call 17; refine co.mono ?_; clear co; rintro e w3 ⟨rfl, hb3⟩; have HE := Lib.hid (HP.out.1.new (HB2.out.trans hb3)); clear hb3))
            go_meet
            exact ⟨A, c, G, n, gc, xs, sent, rfl, rfl, Lib.hid ⟨HE.out, HS.out.1, by have := HS.out.2; omega⟩⟩
      go_wp2
      go_meet
      exact ⟨A, c, G, n, gc, xs, sent, rfl, rfl, Lib.hid ⟨HP.out.1, HS.out.1, by have := HS.out.2; omega⟩⟩
    case rest =>
    obtain ⟨A', c', G', n', gc', ys, s', rfl, rfl, HE⟩ := hcut
    have hl := HE.out.1.len_
    have hs := HE.out.1.sent_
    go_wp2_with (first | (go_at_call 24; refine hl.mono ?_; clear hl; rintro e w' ⟨rfl, rfl⟩) | (go_at_call 25; refine hs.mono ?_; clear hs; rintro e w' ⟨rfl, rfl⟩))
    go_roundw
    case rel => exact ⟨k + 1, A', c', G', n', gc', ys, s', by omega, rfl, rfl, by go_num, Lib.hid ⟨HE.out.1, HE.out.2.1, by have := HE.out.2.2; omega⟩⟩
    case measure => simp [intOf]; omega
  · have hg := HI.out.1.goes_ (-1)
    have hq : ¬ ((k : Int) < (nl : Int)) ∨ ¬ ((k : Int) < 400) := by omega
    have hgo : ∀ W, PlayS w W b A c G n gc xs xs sent → Calls Try.prog 8 #[] W fun e w' => e = .returned (.bool true) ∧ Below w.heap.size w w' := fun W h => (knownB W).mono fun _ _ ⟨e, hb⟩ => ⟨e, h.below.trans (hb.mono h.below.size)⟩
    rcases hq with hq | hq
    · go_wp2_with (first | (go_at_call 22; refine hg.mono ?_; clear hg; rintro e w' ⟨rfl, hp⟩; have hk8 := hgo _ hp; clear hp) | (go_at_call 8; refine hk8.mono ?_; clear hk8; rintro e w' ⟨rfl, hb⟩))
      go_ret
      exact ⟨rfl, hb⟩
    · by_cases hq2 : (k : Int) < (nl : Int)
      · go_wp2_with (first | (go_at_call 22; refine hg.mono ?_; clear hg; rintro e w' ⟨rfl, hp⟩; have hk8 := hgo _ hp; clear hp) | (go_at_call 8; refine hk8.mono ?_; clear hk8; rintro e w' ⟨rfl, hb⟩))
        go_ret
        exact ⟨rfl, hb⟩
      · go_wp2_with (first | (go_at_call 22; refine hg.mono ?_; clear hg; rintro e w' ⟨rfl, hp⟩; have hk8 := hgo _ hp; clear hp) | (go_at_call 8; refine hk8.mono ?_; clear hk8; rintro e w' ⟨rfl, hb⟩))
        go_ret
        exact ⟨rfl, hb⟩
end Go.Proofs.Ytbbjbbcakfmpgaa
