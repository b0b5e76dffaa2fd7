/- The document's Meet. Conditions: those that it states. -/
import Derived.Test.YtnghfnpmbjnjeaaNamesRef
import Derived.Deep.CutRange
import Derived.Deep.CutBlock
namespace Go.Proofs.Ytnghfnpmbjnjeaa
open Go.RowKit

set_option maxHeartbeats 4000000 in
set_option maxRecDepth 100000 in
theorem refMeet_any (w : World) (B : Nat) (Af At Ag Au : Option Addr) (nf cf nt ct ng cg nu cu : Nat) (f t f2 t2 : List Nat) (hB : B ≤ w.heap.size)
    (hf : Bs w B Af nf f) (ht : Bs w B At nt t) (hg : Bs w B Ag ng f2) (hu : Bs w B Au nu t2) :
    Calls Try.prog 15 #[.slice Af nf cf, .slice At nt ct, .slice Ag ng cg, .slice Au nu cu] w fun e w' => ∃ A1 c1 A2 c2 x y, e = .returned (.tuple #[.slice A1 x.length c1, .slice A2 y.length c2, .bool (meetN f t f2 t2).isSome]) ∧
      (x, y) = (meetN f t f2 t2).getD ([], []) ∧ w'.ownsRow w.heap.size 5 1 (.slice A1 x.length c1) x.length (byts x) ∧ w'.ownsRow w.heap.size 5 1 (.slice A2 y.length c2) y.length (byts y) ∧ Below w.heap.size w w' := by
  obtain ⟨i0, hi, hz0, hz1, hz2⟩ := info_parts Try.info5w
  obtain ⟨m, hm⟩ : ∃ m, meetN f t f2 t2 = m := ⟨_, rfl⟩
  rw [hm]
  unfold meetN at hm
  have c1 := refCmp_any w (c1 := cg) (c2 := cf) hg.1 hg.2.1 hf.1 hf.2.1 hg.2.2 hf.2.2
  have c2 := fun q : Nat => refCmp_any (w.drewN q) (c1 := cu) (c2 := ct) (hu.1.drewN q) hu.2.1 (ht.1.drewN q) ht.2.1 hu.2.2 ht.2.2
  have lt := ht.len
  have lu := hu.len
  obtain ⟨x1, hx1⟩ : ∃ x, cmpN f2 f = x := ⟨_, rfl⟩
  obtain ⟨x2, hx2⟩ : ∃ x, cmpN t2 t = x := ⟨_, rfl⟩
  have ha : meetA f f2 = if 0 < x1 then f2 else f := by unfold meetA; rw [hx1]
  have hb : meetB t t2 = if nt = 0 ∨ (0 < nu ∧ x2 < 0) then t2 else t := by unfold meetB; rw [hx2, lt, lu]
  rw [hx1] at c1
  rw [hx2] at c2
  have HM := Lib.hid hm
  have HA := Lib.hid ha
  have HB := Lib.hid hb
  clear hm ha hb hx1 hx2
  go_enter Try.func15, Try.ntmps15
  go_upto_if 18 with (go_at_call 17; refine c1.mono ?_; clear c1; rintro e w' ⟨rfl, q1, rfl⟩)
  go_cut [11] from 19 to 47 (fun v wx => ∃ A n c l, v = .slice A n c ∧ l = meetA f f2 ∧ Bs w B A n l ∧ ∃ q, wx = w.drewN q)
  case first =>
    by_cases h1 : 0 < x1
    · have e := HA.out
      rw [if_pos h1] at e
      go_wp2
      go_meet
      exact ⟨_, _, _, _, rfl, e.symm, hg, _, rfl⟩
    · have e := HA.out
      rw [if_neg h1] at e
      go_wp2
      go_meet
      exact ⟨_, _, _, _, rfl, e.symm, hf, _, rfl⟩
  case rest =>
    obtain ⟨Aa, na, ca, a, rfl, hla, hba, qa, hwc⟩ := hcut
    subst hwc
    replace c2 := c2 qa
    go_upto_region 4 with (fail)
    go_cut [33] from 20 to 47 (fun v wx => v = .bool (decide (nt = 0 ∨ (0 < nu ∧ x2 < 0))) ∧ ∃ q, wx = w.drewN q)
    case first =>
      rcases Nat.eq_zero_or_pos nt with h0 | h0
      · subst h0
        go_wp2
        go_meet
        exact ⟨by simp, _, rfl⟩
      · have q0 : ((nt : Int) == 0) = false := by rw [beq_eq_false_iff_ne]; omega
        rcases Nat.eq_zero_or_pos nu with h1 | h1
        · have q1 : decide ((0 : Int) < (nu : Int)) = false := decide_eq_false (by omega)
          go_wp2
          go_meet
          exact ⟨by rw [decide_eq_false (show ¬ (nt = 0 ∨ (0 < nu ∧ x2 < 0)) by omega)], _, rfl⟩
        · have q1 : decide ((0 : Int) < (nu : Int)) = true := decide_eq_true (by omega)
          have q2 : decide (nt = 0 ∨ (0 < nu ∧ x2 < 0)) = decide (x2 < 0) := by rw [decide_eq_decide]; omega
          have Q2 := Lib.hid q2
          clear q2
          go_wp2_with (go_at_call 17; refine c2.mono ?_; clear c2; rintro e w' ⟨rfl, q9, rfl⟩)
          go_meet
          exact ⟨by rw [Q2.out], _, rfl⟩
    case rest =>
      obtain ⟨rfl, qb, hwc⟩ := hcut
      subst hwc
      go_upto_if 33 with (fail)
      go_cut [12] from 34 to 47 (fun v wx => ∃ A n c l, v = .slice A n c ∧ l = meetB t t2 ∧ Bs w B A n l ∧ wx = w.drewN qb)
      case first =>
        by_cases h1 : nt = 0 ∨ (0 < nu ∧ x2 < 0)
        · have e := HB.out
          rw [if_pos h1] at e
          have q := decide_eq_true h1
          go_wp2
          go_meet
          exact ⟨_, _, _, _, rfl, e.symm, hu, rfl⟩
        · have e := HB.out
          rw [if_neg h1] at e
          have q := decide_eq_false h1
          go_wp2
          go_meet
          exact ⟨_, _, _, _, rfl, e.symm, ht, rfl⟩
      case rest =>
        obtain ⟨Ab, nb, cb, b, rfl, hlb, hbb, hwc⟩ := hcut
        subst hwc
        have bel0 : Below w.heap.size w (w.drewN qb) := below_drewN (Below.refl _ _) qb
        have ra := hba.1.drewN qb
        have rb := hbb.1.drewN qb
        have hsz0 : (w.drewN qb).heap.size = w.heap.size := rfl
        generalize hw2 : w.drewN qb = w2 at bel0 ra rb hsz0 ⊢
        have c3 := refCmp_any w2 (c1 := ca) (c2 := cb) ra hba.2.1 rb hbb.2.1 hba.2.2 hbb.2.2
        clear hw2 c2
        obtain ⟨x3, hx3⟩ : ∃ x, cmpN a b = x := ⟨_, rfl⟩
        have hm := HM.out
        rw [← hla, ← hlb, hbb.len, hx3] at hm
        rw [hx3] at c3
        have HM2 := Lib.hid hm
        have hn1 := hba.len
        have hn2 := hbb.len
        have mba := hba.2.2
        have mbb := hbb.2.2
        clear hm hx3 hla hlb
        by_cases hno : 0 < nb ∧ 0 ≤ x3
        · obtain ⟨p1, p2⟩ := hno
          have q1 : decide ((0 : Int) < (nb : Int)) = true := decide_eq_true (by omega)
          have q2 : decide ((0 : Int) ≤ x3) = true := decide_eq_true p2
          go_wp2_with (go_at_call 17; refine c3.mono ?_; clear c3; rintro e w' ⟨rfl, q9, rfl⟩)
          go_ret3
          have hm := HM2.out
          rw [if_pos ⟨p1, p2⟩] at hm
          subst hm
          exact ⟨none, 0, none, 0, [], [], rfl, rfl, World.ownsRow_nil _ _ _ _, World.ownsRow_nil _ _ _ _, below_drewN bel0 _⟩
        · have hm := HM2.out
          rw [if_neg hno] at hm
          have HM3 := Lib.hid hm
          clear hm
          have fin : ∀ (w3 w4 : World) (A1 A2 : Option Addr) (e1 e2 : Nat), w3.ownsRow w.heap.size 5 1 (.slice A1 na e1) na (byts a) → w4.ownsRow w.heap.size 5 1 (.slice A2 nb e2) nb (byts b) → Below w3.heap.size w3 w4 → Below w.heap.size w w4 →
              ∃ A1' c1 A2' c2 x y, Ending.returned (.tuple #[.slice A1 na e1, .slice A2 nb e2, .bool true]) = .returned (.tuple #[.slice A1' x.length c1, .slice A2' y.length c2, .bool m.isSome]) ∧
                (x, y) = m.getD ([], []) ∧ w4.ownsRow w.heap.size 5 1 (.slice A1' x.length c1) x.length (byts x) ∧ w4.ownsRow w.heap.size 5 1 (.slice A2' y.length c2) y.length (byts y) ∧ Below w.heap.size w w4 := by
            intro w3 w4 A1 A2 e1 e2 o1 o2 b2 b3
            rw [← HM3.out]
            refine ⟨A1, e1, A2, e2, a, b, by rw [hn1, hn2]; rfl, rfl, ?_, ?_, b3⟩
            · rw [hn1]; exact own_fr o1 (Fr.of_new (S := noB) b2) (fun _ _ h => h)
            · rw [hn2]; exact o2
          have app : True := trivial
          rcases Nat.eq_zero_or_pos nb with h0 | h0
          · subst h0
            go_wp2_with (at_builtin; refine wpList_append_any _ rfl _ _ 22 rfl w.heap.size 5 i0 (.int .u8 0) 1 1 Try.underlying22 hi hz0 hz1 hz2 rfl (by decide) _ _ _ rfl (World.ownsRow_nil _ _ _ _) B Aa na ca _ rfl ra ?c1 ?c2 ?c3 ?c4 ?_)
            case c1 => exact byts_one _
            case c2 => unfold maxLen; omega
            case c3 => omega
            case c4 => omega
            intro v3 w3 o3 g3 _
            obtain ⟨A3, e3, rfl⟩ := own_shape o3
            try simp only [Nat.zero_add, List.nil_append] at o3
            have b3 : Below w.heap.size w w3 := bel0.grown g3 (by omega) (fun k hk => by cases hk)
            have rb3 := rb.below ((Below.refl w2.heap.size w2).grown g3 (Nat.le_refl _) (fun k hk => by cases hk) |>.mono (by omega))
            go_wp2_with (at_builtin; refine wpList_append_any _ rfl _ _ 22 rfl w3.heap.size 5 i0 (.int .u8 0) 1 1 Try.underlying22 hi hz0 hz1 hz2 rfl (by decide) _ _ _ rfl (World.ownsRow_nil _ _ _ _) B Ab 0 cb _ rfl rb3 ?c1 ?c2 ?c3 ?c4 ?_)
            case c1 => exact byts_one _
            case c2 => unfold maxLen; omega
            case c3 => omega
            case c4 => exact Nat.le_refl _
            intro v4 w4 o4 g4 _
            obtain ⟨A4, e4, rfl⟩ := own_shape o4
            try simp only [Nat.zero_add, List.nil_append] at o4
            have b4 : Below w3.heap.size w3 w4 := (Below.refl _ _).grown g4 (Nat.le_refl _) (fun k hk => by cases hk)
            go_wp2
            go_ret3
            exact fin w3 w4 A3 A4 e3 e4 o3 (own_mono o4 b3.size) b4 (b3.trans (b4.mono b3.size))
          · have q1 : decide ((0 : Int) < (nb : Int)) = true := decide_eq_true (by omega)
            have q2 : decide ((0 : Int) ≤ x3) = false := decide_eq_false (by omega)
            go_upto_region 8 with (go_at_call 17; refine c3.mono ?_; clear c3; rintro e w' ⟨rfl, q9, rfl⟩)
            replace bel0 : Below w.heap.size w (w2.drewN q9) := below_drewN bel0 q9
            replace ra := ra.drewN q9
            replace rb := rb.drewN q9
            replace hsz0 : (w2.drewN q9).heap.size = w.heap.size := hsz0
            generalize w2.drewN q9 = w9 at bel0 ra rb hsz0 ⊢
            go_wp2_with (at_builtin; refine wpList_append_any _ rfl _ _ 22 rfl w.heap.size 5 i0 (.int .u8 0) 1 1 Try.underlying22 hi hz0 hz1 hz2 rfl (by decide) _ _ _ rfl (World.ownsRow_nil _ _ _ _) B Aa na ca _ rfl ra ?c1 ?c2 ?c3 ?c4 ?_)
            case c1 => exact byts_one _
            case c2 => unfold maxLen; omega
            case c3 => omega
            case c4 => omega
            intro v3 w3 o3 g3 _
            obtain ⟨A3, e3, rfl⟩ := own_shape o3
            try simp only [Nat.zero_add, List.nil_append] at o3
            have b3 : Below w.heap.size w w3 := bel0.grown g3 (by omega) (fun k hk => by cases hk)
            have rb3 := rb.below ((Below.refl w9.heap.size w9).grown g3 (Nat.le_refl _) (fun k hk => by cases hk) |>.mono (by omega))
            go_wp2_with (at_builtin; refine wpList_append_any _ rfl _ _ 22 rfl w3.heap.size 5 i0 (.int .u8 0) 1 1 Try.underlying22 hi hz0 hz1 hz2 rfl (by decide) _ _ _ rfl (World.ownsRow_nil _ _ _ _) B Ab nb cb _ rfl rb3 ?c1 ?c2 ?c3 ?c4 ?_)
            case c1 => exact byts_one _
            case c2 => unfold maxLen; omega
            case c3 => omega
            case c4 => exact Nat.le_refl _
            intro v4 w4 o4 g4 _
            obtain ⟨A4, e4, rfl⟩ := own_shape o4
            try simp only [Nat.zero_add, List.nil_append] at o4
            have b4 : Below w3.heap.size w3 w4 := (Below.refl _ _).grown g4 (Nat.le_refl _) (fun k hk => by cases hk)
            go_wp2
            go_ret3
            exact fin w3 w4 A3 A4 e3 e4 o3 (own_mono o4 b3.size) b4 (b3.trans (b4.mono b3.size))

end Go.Proofs.Ytnghfnpmbjnjeaa
