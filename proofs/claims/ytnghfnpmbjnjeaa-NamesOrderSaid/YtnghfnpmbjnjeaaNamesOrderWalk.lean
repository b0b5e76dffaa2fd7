/- The walk of wicketlaw05.NamesOrder: it answers true where each slice has at most 140737488351232 bytes. Conditions: those that it states. -/
import Derived.Test.YtnghfnpmbjnjeaaNamesKnown
import Derived.Test.YtnghfnpmbjnjeaaNamesLaw2
namespace Go.Proofs.Ytnghfnpmbjnjeaa
open Go.RowKit

theorem cmp_q {w : World} {B1 B2 : Nat} {A1 A2 : Option Addr} {n1 c1 n2 c2 : Nat} {l m : List Nat} (mm : Nat) (h1 : Reads w B1 1 A1 n1 (byts l)) (s1 : Small l) (h2 : Reads w B2 1 A2 n2 (byts m)) (s2 : Small m) :
    Calls Try.prog 16 #[.slice A1 n1 c1, .slice A2 n2 c2] (w.drewN mm) fun e w' => e = .returned (.int .i64 (cmpN l m)) ∧ ∃ q, w' = (w.drewN mm).drewN q :=
  (cmp_any (w.drewN mm) (h1.drewN mm) s1 (h2.drewN mm) s2).mono fun _ _ ⟨h, e⟩ => ⟨h, 0, e.symm⟩

set_option maxHeartbeats 4000000 in
set_option maxRecDepth 100000 in
theorem namesOrder_walk (w : World) (A0 A1 A2 A3 A4 : Option Addr) (n0 c0 n1 c1 n2 c2 n3 c3 n4 c4 : Nat) (k a b c d : List Nat)
    (h0 : Reads w w.heap.size 1 A0 n0 (byts k)) (s0 : Small k) (h1 : Reads w w.heap.size 1 A1 n1 (byts a)) (s1 : Small a) (h2 : Reads w w.heap.size 1 A2 n2 (byts b)) (s2 : Small b) (h3 : Reads w w.heap.size 1 A3 n3 (byts c)) (s3 : Small c) (h4 : Reads w w.heap.size 1 A4 n4 (byts d)) (s4 : Small d)
    (e0 : n0 ≤ c0) (e1 : n1 ≤ c1) (m0 : n0 ≤ 140737488351232) (m1 : n1 ≤ 140737488351232) (m2 : n2 ≤ 140737488351232) (m3 : n3 ≤ 140737488351232) (m4 : n4 ≤ 140737488351232) :
    Calls Try.prog 4 #[.agg #[.slice A0 n0 c0, .slice A1 n1 c1, .slice A2 n2 c2, .slice A3 n3 c3, .slice A4 n4 c4]] w fun e w' => e = .returned (.bool true) ∧ Below w.heap.size w w' := by
  obtain ⟨w0, hw0⟩ : ∃ w0, w.alloc (.cells #[.slice A0 n0 c0, .slice A1 n1 c1, .slice A2 n2 c2, .slice A3 n3 c3, .slice A4 n4 c4] 23) = w0 := ⟨_, rfl⟩
  have hb0 : Below w.heap.size w w0 := by subst hw0; exact (Below.refl _ w).alloc (Nat.le_refl _) _
  have hbk : Blk w0 w.heap.size 23 #[.slice A0 n0 c0, .slice A1 n1 c1, .slice A2 n2 c2, .slice A3 n3 c3, .slice A4 n4 c4] := by subst hw0; exact Blk.new w 23 _
  have l0 : k.length = n0 := by have := h0.1; rw [byts_length] at this; omega
  have l1 : a.length = n1 := by have := h1.1; rw [byts_length] at this; omega
  have qk := knownN w0
  have rds : ∀ W, Below w.heap.size w W → Reads W w.heap.size 1 A0 n0 (byts k) ∧ Reads W w.heap.size 1 A1 n1 (byts a) ∧ Reads W w.heap.size 1 A2 n2 (byts b) ∧ Reads W w.heap.size 1 A3 n3 (byts c) ∧ Reads W w.heap.size 1 A4 n4 (byts d) :=
    fun W hW => ⟨h0.below hW, h1.below hW, h2.below hW, h3.below hW, h4.below hW⟩
  have L0 := Lib.hid l0
  have L1 := Lib.hid l1
  clear h0 h1 h2 h3 h4 l0 l1
  go_enter Try.func4, Try.ntmps4
  go_wp2_with (go_at_call 22; refine qk.mono ?_; clear qk; rintro e w1 ⟨rfl, b1⟩; have y := hbk.below b1 hbk.lt; have y0 : w1.cell? ⟨w.heap.size, 0, none⟩ = some (.slice A0 n0 c0) := (y.cell 0).trans rfl; have y1 : w1.cell? ⟨w.heap.size, 1, none⟩ = some (.slice A1 n1 c1) := (y.cell 1).trans rfl; have y2 : w1.cell? ⟨w.heap.size, 2, none⟩ = some (.slice A2 n2 c2) := (y.cell 2).trans rfl; have y3 : w1.cell? ⟨w.heap.size, 3, none⟩ = some (.slice A3 n3 c3) := (y.cell 3).trans rfl; have y4 : w1.cell? ⟨w.heap.size, 4, none⟩ = some (.slice A4 n4 c4) := (y.cell 4).trans rfl)
  go_quiet (fail)
  have bb : Below w.heap.size w (w1.drewN nq) := below_drewN (hb0.trans (b1.mono hb0.size)) nq
  generalize w1.drewN nq = w2 at bb ⊢
  clear y y0 y1 y2 y3 y4 hw0 b1 hbk hb0
  obtain ⟨r0, r1, r2, r3, r4⟩ := rds w2 bb
  go_upto_region 4 with (fail)
  go_cut [65] from 28 to 164 (fun v wx => v = .bool false ∧ Below w.heap.size w wx)
  case first =>
    have u1 : IntKind.i64.wrap (-(cmpN b a)) = cmpN a b := by
      rw [cmp_anti a b]
      rcases cmp_range b a with h | h | h <;> rw [h] <;> decide
    have t1 := fun m : Nat => run_str (P := Try.prog) (src := 22) (dst := 9) (c := c1) rfl rfl rfl (r1.drewN m) s1
    have t2 := fun m : Nat => run_str (P := Try.prog) (src := 22) (dst := 9) (c := c2) rfl rfl rfl (r2.drewN m) s2
    have u2 : (cmpN a b == 0) = ((strN a).toList == (strN b).toList) := by
      by_cases h : a = b
      · subst h
        rw [cmp_self]
        simp
      · rw [beq_eq_false_iff_ne.2 (strN_ne s1 s2 h), beq_eq_false_iff_ne]
        exact fun h' => h (cmp_eq a b h')
    by_cases g1 : cmpN a b ≤ 0
    · have p1 : decide (cmpN a b ≤ 0) = true := decide_eq_true g1
      by_cases g2 : cmpN b c ≤ 0
      · have p2 : decide (cmpN b c ≤ 0) = true := decide_eq_true g2
        have p3 : decide (0 < cmpN a c) = false := decide_eq_false (by have := cmp_trans a b c g1 g2; omega)
        go_quiet ((go_at_call 16; exact Calls.quiet_of (cmp_q _ (by assumption) (by assumption) (by assumption) (by assumption))))
        go_wp2
        go_meet
        exact ⟨rfl, below_drewN bb _⟩
      · have p2 : decide (cmpN b c ≤ 0) = false := decide_eq_false g2
        go_quiet ((go_at_call 16; exact Calls.quiet_of (cmp_q _ (by assumption) (by assumption) (by assumption) (by assumption))))
        go_wp2
        go_meet
        exact ⟨rfl, below_drewN bb _⟩
    · have p1 : decide (cmpN a b ≤ 0) = false := decide_eq_false g1
      go_quiet ((go_at_call 16; exact Calls.quiet_of (cmp_q _ (by assumption) (by assumption) (by assumption) (by assumption))))
      go_wp2
      go_meet
      exact ⟨rfl, below_drewN bb _⟩
  case rest =>
    obtain ⟨rfl, bc⟩ := hcut
    clear r0 r1 r2 r3 r4
    obtain ⟨r0, r1, r2, r3, r4⟩ := rds wc bc
    have q11 := next_any wc w.heap.size A0 n0 c0 k r0 bc.size (by omega)
    have sn : Small (k ++ [0]) := s0.append (fun c hc => by simp at hc; omega)
    have u1 : (cmpN k (k ++ [0]) != -1) = false := by rw [next_cmp]; rfl
    have g2 := next_none k a
    go_upto_region 7 with (go_at_call 11; refine q11.mono ?_; clear q11; rintro e w3 ⟨An, cn, rfl, on, bn⟩; have bb3 := bc.trans (bn.mono bc.size); have rn := Reads.of_own on; obtain ⟨r0, r1, r2, r3, r4⟩ := rds w3 bb3)
    go_cut [83] from 68 to 164 (fun v wx => v = .bool false ∧ wx = w3)
    case first =>
      by_cases g1 : cmpN k a < 0
      · have p1 : decide (cmpN k a < 0) = true := decide_eq_true g1
        have p2 : decide (cmpN a (k ++ [0]) < 0) = false := decide_eq_false (by have := g2 g1; omega)
        go_wp2_with (go_at_call 16; refine (cmp_any _ (by assumption) (by assumption) (by assumption) (by assumption)).mono ?_; rintro e w' ⟨rfl, rfl⟩)
        go_meet
        exact ⟨rfl, rfl⟩
      · have p1 : decide (cmpN k a < 0) = false := decide_eq_false g1
        go_wp2_with (go_at_call 16; refine (cmp_any _ (by assumption) (by assumption) (by assumption) (by assumption)).mono ?_; rintro e w' ⟨rfl, rfl⟩)
        go_meet
        exact ⟨rfl, rfl⟩
    case rest =>
      obtain ⟨rfl, hwc⟩ := hcut
      replace hwc := hwc.symm
      subst hwc
      clear u1 g2 sn rn on bn
      have q12 := behind_any w3 w.heap.size A1 n1 c1 a r1 s1 bb3.size e1 (by omega)
      obtain ⟨ob, hob⟩ : ∃ x, behN a = x := ⟨_, rfl⟩
      have sob : Small (ob.getD []) := by
        cases hx : ob with
        | none => intro c hc; simp at hc
        | some m => exact behN_small s1 (hob.trans hx)
      have hlaw : ∀ m, ob = some m → inN k a m = beginsN k a := fun m hm => behind_law a k m s0 (hob.trans hm)
      have hlaw2 : ob = none → inN k a [] = beginsN k a := fun hm => behind_none_law a k s0 (hob.trans hm)
      rw [hob] at q12
      clear hob
      go_upto_region 10 with (go_at_call 12; refine q12.mono ?_; clear q12; rintro e w4 ⟨Am, cm, m, rfl, hm, om, bm⟩; have bb4 := bb3.trans (bm.mono bb3.size); have rm := Reads.of_own om; obtain ⟨r0, r1, r2, r3, r4⟩ := rds w4 bb4)
      go_cut [11] from 89 to 164 (fun v wx => v = .bool (beginsN k a) ∧ ∃ q, wx = w4.drewN q)
      case first =>
        have lk := L0.out
        have la := L1.out
        have hB : beginsN k a = (decide (n1 ≤ n0) && decide (k.take n1 = a)) := by unfold beginsN; rw [lk, la]
        rw [lk, la] at *
        have HBg := Lib.hid hB
        clear hB lk la hlaw hlaw2
        by_cases g : n1 ≤ n0
        · have p1 : decide ((n1 : Int) ≤ (n0 : Int)) = true := decide_eq_true (by omega)
          have p2 : (0 : Int) ≤ (n1 : Int) := by omega
          have p3 : (n1 : Int) ≤ (c0 : Int) := by omega
          have rp := fun m : Nat => by
            have := (r0.drewN m).upto (k := n1) g
            rw [Nat.mul_one, ← byts_take] at this
            exact this
          have t1 := fun m : Nat => run_str (P := Try.prog) (src := 22) (dst := 9) (c := c0) rfl rfl rfl (rp m) (s0.take n1)
          have t2 := fun m : Nat => run_str (P := Try.prog) (src := 22) (dst := 9) (c := c1) rfl rfl rfl (r1.drewN m) s1
          have e : ((strN (k.take n1)).toList == (strN a).toList) = beginsN k a := by
            rw [HBg.out, decide_eq_true g, Bool.true_and]
            by_cases h : k.take n1 = a
            · rw [h]; simp
            · rw [beq_eq_false_iff_ne.2 (strN_ne (s0.take n1) s1 h), decide_eq_false h]
          clear rp
          go_quiet (fail)
          go_wp2
          go_meet
          exact ⟨rfl, _, rfl⟩
        · have p1 : decide ((n1 : Int) ≤ (n0 : Int)) = false := decide_eq_false (by omega)
          have e : beginsN k a = false := by rw [HBg.out, decide_eq_false g, Bool.false_and]
          go_quiet (fail)
          go_wp2
          go_meet
          exact ⟨by rw [e], _, rfl⟩
      case rest =>
        obtain ⟨rfl, q, hwc⟩ := hcut
        subst hwc
        have bb5 : Below w.heap.size w (w4.drewN q) := below_drewN bb4 q
        replace rm := rm.drewN q
        rw [show w4.heap.size = (w4.drewN q).heap.size from rfl] at rm
        clear om bm r0 r1 r2 r3 r4 bb4
        generalize w4.drewN q = w5 at bb5 rm ⊢
        obtain ⟨r0, r1, r2, r3, r4⟩ := rds w5 bb5
        have rnil : Reads w5 0 1 none 0 (byts []) := Reads.none_
        have snil : Small [] := fun c hc => by simp at hc
        have sm : Small m := by rw [hm]; exact sob
        go_upto_region 11 with (fail)
        go_cut [128] from 104 to 164 (fun v wx => v = .bool false ∧ wx = w5)
        case first =>
          cases hx : ob with
          | none =>
            have e := hlaw2 hx
            subst hx
            clear hlaw hlaw2
            go_wp2_with (go_at_call 18; refine (in_any _ (by assumption) (by assumption) (by assumption) (by assumption) (by assumption) (by assumption)).mono ?_; rintro e w' ⟨rfl, rfl⟩)
            go_meet
            exact ⟨rfl, rfl⟩
          | some m' =>
            have e := hlaw m' hx
            subst hx
            obtain rfl : m = m' := hm
            clear hlaw hlaw2
            go_wp2_with (go_at_call 18; refine (in_any _ (by assumption) (by assumption) (by assumption) (by assumption) (by assumption) (by assumption)).mono ?_; rintro e w' ⟨rfl, rfl⟩)
            go_meet
            exact ⟨rfl, rfl⟩
        case rest =>
          obtain ⟨rfl, hwc⟩ := hcut
          replace hwc := hwc.symm
          subst hwc
          clear rm sm hlaw hlaw2 sob hm rnil snil
          have hlaw := meet_law k a b c d
          have q14 := meet_any w5 w.heap.size A1 A2 A3 A4 n1 c1 n2 c2 n3 c3 n4 c4 a b c d bb5.size ⟨r1, s1, by omega⟩ ⟨r2, s2, by omega⟩ ⟨r3, s3, by omega⟩ ⟨r4, s4, by omega⟩
          obtain ⟨mm, hmm⟩ : ∃ x, meetN a b c d = x := ⟨_, rfl⟩
          have smm : Small (mm.getD ([], [])).1 ∧ Small (mm.getD ([], [])).2 := by
            rw [← hmm]
            unfold meetN
            split
            · exact ⟨fun c hc => by simp at hc, fun c hc => by simp at hc⟩
            · constructor
              · show Small (meetA a c)
                unfold meetA
                split
                · exact s3
                · exact s1
              · show Small (meetB b d)
                unfold meetB
                split
                · exact s4
                · exact s2
          rw [hmm] at q14 hlaw
          clear hmm
          go_upto_region 14 with (go_at_call 14; refine q14.mono ?_; clear q14; rintro e w6 ⟨A5, c5, A6, c6, x, y, rfl, hxy, ox, oy, _, bm⟩; have bb6 := bb5.trans (bm.mono bb5.size); have rx := Reads.of_own ox; have ry := Reads.of_own oy; obtain ⟨r0, r1, r2, r3, r4⟩ := rds w6 bb6)
          obtain ⟨BO, hBO⟩ : ∃ z, (inN k a b && inN k c d) = z := ⟨_, rfl⟩
          rw [hBO] at hlaw
          have hBO2 := hBO
          go_cut [15] from 138 to 164 (fun v wx => v = .bool BO ∧ wx = w6)
          case first =>
            clear hlaw
            cases hz : inN k a b with
            | false =>
              rw [hz, Bool.false_and] at hBO
              subst hBO
              go_wp2_with (go_at_call 18; refine (in_any _ (by assumption) (by assumption) (by assumption) (by assumption) (by assumption) (by assumption)).mono ?_; rintro e w' ⟨rfl, rfl⟩)
              go_meet
              exact ⟨rfl, rfl⟩
            | true =>
              rw [hz, Bool.true_and] at hBO
              go_wp2_with (go_at_call 18; refine (in_any _ (by assumption) (by assumption) (by assumption) (by assumption) (by assumption) (by assumption)).mono ?_; rintro e w' ⟨rfl, rfl⟩)
              go_meet
              exact ⟨rfl, rfl⟩
          case rest =>
            obtain ⟨rfl, hwc⟩ := hcut
            replace hwc := hwc.symm
            subst hwc
            cases hz : mm with
            | none =>
              subst hz
              have hb : BO = false := hlaw
              subst hb
              go_wp2
              go_ret
              exact ⟨rfl, bb6⟩
            | some xy =>
              subst hz
              obtain ⟨x', y'⟩ := xy
              obtain ⟨rfl, rfl⟩ : x = x' ∧ y = y' := by simpa using hxy
              have e : inN k x y = BO := hlaw
              obtain ⟨sx, sy⟩ := smm
              have sx' : Small x := sx
              have sy' : Small y := sy
              clear hBO hBO2 hlaw hxy sx sy
              go_wp2_with (go_at_call 18; refine (in_any _ (by assumption) (by assumption) (by assumption) (by assumption) (by assumption) (by assumption)).mono ?_; rintro e w' ⟨rfl, rfl⟩)
              go_ret
              exact ⟨rfl, bb6⟩

end Go.Proofs.Ytnghfnpmbjnjeaa
