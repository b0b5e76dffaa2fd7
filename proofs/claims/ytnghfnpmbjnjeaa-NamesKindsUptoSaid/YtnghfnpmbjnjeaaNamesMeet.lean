/- names.Meet: the range that two ranges share. Conditions: those that each states. -/
import Derived.Test.YtnghfnpmbjnjeaaNamesFn
import Derived.Deep.CutRange
import Derived.Deep.CutBlock
namespace Go.Proofs.Ytnghfnpmbjnjeaa
open Go.RowKit

/-- Where the shared range begins, ends. -/
def meetA (f f2 : List Nat) : List Nat := if 0 < cmpN f2 f then f2 else f
def meetB (t t2 : List Nat) : List Nat := if t.length = 0 ∨ (0 < t2.length ∧ cmpN t2 t < 0) then t2 else t
def meetN (f t f2 t2 : List Nat) : Option (List Nat × List Nat) :=
  if 0 < (meetB t t2).length ∧ 0 ≤ cmpN (meetA f f2) (meetB t t2) then none else some (meetA f f2, meetB t t2)

/-- A slice of bytes that may be read and copied. -/
def Bs (w : World) (B : Nat) (A : Option Addr) (n : Nat) (l : List Nat) : Prop := Reads w B 1 A n (byts l) ∧ Small l ∧ n ≤ 140737488355328
theorem Bs.len {w : World} {B n : Nat} {A : Option Addr} {l : List Nat} (h : Bs w B A n l) : l.length = n := by have := h.1.1; rw [byts_length] at this; omega

set_option maxHeartbeats 4000000 in
set_option maxRecDepth 100000 in
theorem meet_any (w : World) (B : Nat) (Af At Ag Au : Option Addr) (nf cf nt ct ng cg nu cu : Nat) (f t f2 t2 : List Nat) (hB : B ≤ w.heap.size)
    (hf : Bs w B Af nf f) (ht : Bs w B At nt t) (hg : Bs w B Ag ng f2) (hu : Bs w B Au nu t2) :
    Calls Try.prog 14 #[.slice Af nf cf, .slice At nt ct, .slice Ag ng cg, .slice Au nu cu] w fun e w' => ∃ A1 c1 A2 c2 x y, e = .returned (.tuple #[.slice A1 x.length x.length, .slice A2 y.length y.length, .bool (meetN f t f2 t2).isSome]) ∧
      (x, y) = (meetN f t f2 t2).getD ([], []) ∧ w'.ownsRow w.heap.size 5 1 (.slice A1 x.length c1) x.length (byts x) ∧ w'.ownsRow w.heap.size 5 1 (.slice A2 y.length c2) y.length (byts y) ∧
      (∀ k, blkOf A1 = some k → blkOf A2 ≠ some k) ∧ Below w.heap.size w w' := by
  obtain ⟨m, hm⟩ : ∃ m, meetN f t f2 t2 = m := ⟨_, rfl⟩
  rw [hm]
  unfold meetN at hm
  have c1 := compare_any w (c1 := cg) (c2 := cf) hg.1 hg.2.1 hf.1 hf.2.1
  have c2 := compare_any w (c1 := cu) (c2 := ct) hu.1 hu.2.1 ht.1 ht.2.1
  have lt := ht.len
  have lu := hu.len
  obtain ⟨x1, hx1⟩ : ∃ x, cmpN f2 f = x := ⟨_, rfl⟩
  obtain ⟨x2, hx2⟩ : ∃ x, cmpN t2 t = x := ⟨_, rfl⟩
  have ha : meetA f f2 = if 0 < x1 then f2 else f := by unfold meetA; rw [hx1]
  have hb : meetB t t2 = if nt = 0 ∨ (0 < nu ∧ x2 < 0) then t2 else t := by unfold meetB; rw [hx2, lt, lu]
  rw [hx1] at c1
  rw [hx2] at c2
  have HM := Lib.hid hm
  have HA := Lib.hid ha
  have HB := Lib.hid hb
  clear hm ha hb hx1 hx2
  go_enter Try.func14, Try.ntmps14
  go_upto_if 16 with (go_at_call 58; refine c1.mono ?_; clear c1; rintro e w' ⟨rfl, rfl⟩)
  go_cut [8] from 17 to 45 (fun v wx => ∃ A n c l, v = .slice A n c ∧ l = meetA f f2 ∧ Bs w B A n l ∧ wx = w)
  case first =>
    by_cases h1 : 0 < x1
    · have e := HA.out
      rw [if_pos h1] at e
      go_wp2
      go_meet
      exact ⟨_, _, _, _, rfl, e.symm, hg, rfl⟩
    · have e := HA.out
      rw [if_neg h1] at e
      go_wp2
      go_meet
      exact ⟨_, _, _, _, rfl, e.symm, hf, rfl⟩
  case rest =>
    obtain ⟨Aa, na, ca, a, rfl, hla, hba, hwc⟩ := hcut
    replace hwc := hwc.symm
    subst hwc
    go_upto_region 4 with (fail)
    go_cut [31] from 18 to 45 (fun v wx => v = .bool (decide (nt = 0 ∨ (0 < nu ∧ x2 < 0))) ∧ wx = w)
    case first =>
      rcases Nat.eq_zero_or_pos nt with h0 | h0
      · subst h0
        go_wp2
        go_meet
        exact ⟨by simp, rfl⟩
      · have q0 : ((nt : Int) == 0) = false := by rw [beq_eq_false_iff_ne]; omega
        rcases Nat.eq_zero_or_pos nu with h1 | h1
        · have q1 : decide ((0 : Int) < (nu : Int)) = false := decide_eq_false (by omega)
          go_wp2
          go_meet
          exact ⟨by rw [decide_eq_false (show ¬ (nt = 0 ∨ (0 < nu ∧ x2 < 0)) by omega)], rfl⟩
        · have q1 : decide ((0 : Int) < (nu : Int)) = true := decide_eq_true (by omega)
          have q2 : decide (nt = 0 ∨ (0 < nu ∧ x2 < 0)) = decide (x2 < 0) := by rw [decide_eq_decide]; omega
          have Q2 := Lib.hid q2
          clear q2
          go_wp2_with (go_at_call 58; refine c2.mono ?_; clear c2; rintro e w' ⟨rfl, rfl⟩)
          go_meet
          exact ⟨by rw [Q2.out], rfl⟩
    case rest =>
      obtain ⟨rfl, hwc⟩ := hcut
      replace hwc := hwc.symm
      subst hwc
      go_upto_if 31 with (fail)
      go_cut [9] from 32 to 45 (fun v wx => ∃ A n c l, v = .slice A n c ∧ l = meetB t t2 ∧ Bs w B A n l ∧ wx = w)
      case first =>
        by_cases h1 : nt = 0 ∨ (0 < nu ∧ x2 < 0)
        · have e := HB.out
          rw [if_pos h1] at e
          have q := decide_eq_true h1
          go_wp2
          go_meet
          exact ⟨_, _, _, _, rfl, e.symm, hu, rfl⟩
        · have e := HB.out
          rw [if_neg h1] at e
          have q := decide_eq_false h1
          go_wp2
          go_meet
          exact ⟨_, _, _, _, rfl, e.symm, ht, rfl⟩
      case rest =>
        obtain ⟨Ab, nb, cb, b, rfl, hlb, hbb, hwc⟩ := hcut
        replace hwc := hwc.symm
        subst hwc
        have c3 := compare_any w (c1 := ca) (c2 := cb) hba.1 hba.2.1 hbb.1 hbb.2.1
        obtain ⟨x3, hx3⟩ : ∃ x, cmpN a b = x := ⟨_, rfl⟩
        have hm := HM.out
        rw [← hla, ← hlb, hbb.len, hx3] at hm
        rw [hx3] at c3
        have HM2 := Lib.hid hm
        have hn1 := hba.len
        have hn2 := hbb.len
        clear hm hx3 hla hlb
        by_cases hno : 0 < nb ∧ 0 ≤ x3
        · obtain ⟨p1, p2⟩ := hno
          have q1 : decide ((0 : Int) < (nb : Int)) = true := decide_eq_true (by omega)
          have q2 : decide ((0 : Int) ≤ x3) = true := decide_eq_true p2
          go_wp2_with (go_at_call 58; refine c3.mono ?_; clear c3; rintro e w' ⟨rfl, rfl⟩)
          go_ret3
          have hm := HM2.out
          rw [if_pos ⟨p1, p2⟩] at hm
          subst hm
          exact ⟨none, 0, none, 0, [], [], rfl, rfl, World.ownsRow_nil _ _ _ _, World.ownsRow_nil _ _ _ _, fun k hk => (by cases hk), Below.refl _ _⟩
        · have q57a := own_any w B Aa na ca a hba.1 hB hba.2.2
          have q57b := fun (W : World) (hW : Below w.heap.size w W) => own_any W B Ab nb cb b (hbb.1.below (hW.mono hB)) (by have := hW.size; omega) hbb.2.2
          have hm := HM2.out
          rw [if_neg hno] at hm
          have HM3 := Lib.hid hm
          clear hm
          have fin : ∀ (w1 w2 : World) (A1 A2 : Option Addr) (e1 e2 : Nat), w1.ownsRow w.heap.size 5 1 (.slice A1 na e1) na (byts a) → Below w.heap.size w w1 → w2.ownsRow w1.heap.size 5 1 (.slice A2 nb e2) nb (byts b) → Below w1.heap.size w1 w2 →
              ∃ A1' c1 A2' c2 x y, Ending.returned (.tuple #[.slice A1 na na, .slice A2 nb nb, .bool true]) = .returned (.tuple #[.slice A1' x.length x.length, .slice A2' y.length y.length, .bool m.isSome]) ∧
                (x, y) = m.getD ([], []) ∧ w2.ownsRow w.heap.size 5 1 (.slice A1' x.length c1) x.length (byts x) ∧ w2.ownsRow w.heap.size 5 1 (.slice A2' y.length c2) y.length (byts y) ∧ (∀ k, blkOf A1' = some k → blkOf A2' ≠ some k) ∧ Below w.heap.size w w2 := by
            intro w1 w2 A1 A2 e1 e2 o1 b1 o2 b2
            rw [← HM3.out]
            refine ⟨A1, e1, A2, e2, a, b, by rw [hn1, hn2]; rfl, rfl, ?_, ?_, ?_, b1.trans (b2.mono b1.size)⟩
            · rw [hn1]; exact own_fr o1 (Fr.of_new (S := noB) b2) (fun _ _ h => h)
            · rw [hn2]; exact own_mono o2 b1.size
            · intro k h1 h2
              have i1 := (o1.lt k (by rw [ownBlock_slice]; exact h1)).2
              have i2 := (o2.lt k (by rw [ownBlock_slice]; exact h2)).1
              omega
          rcases Nat.eq_zero_or_pos nb with h0 | h0
          · subst h0
            go_wp2_with (first
              | (go_at_call 57; refine q57a.mono ?_; clear q57a; rintro e w1 ⟨A1, e1, rfl, o1, b1⟩; have q57c := q57b w1 b1)
              | (go_at_call 57; refine q57c.mono ?_; clear q57c q57b; rintro e w2 ⟨A2, e2, rfl, o2, b2⟩))
            go_ret3
            exact fin w1 w2 A1 A2 e1 e2 o1 b1 o2 b2
          · have q1 : decide ((0 : Int) < (nb : Int)) = true := decide_eq_true (by omega)
            have q2 : decide ((0 : Int) ≤ x3) = false := decide_eq_false (by omega)
            go_wp2_with (first
              | (go_at_call 58; refine c3.mono ?_; clear c3; rintro e w' ⟨rfl, rfl⟩)
              | (go_at_call 57; refine q57a.mono ?_; clear q57a; rintro e w1 ⟨A1, e1, rfl, o1, b1⟩; have q57c := q57b w1 b1)
              | (go_at_call 57; refine q57c.mono ?_; clear q57c q57b; rintro e w2 ⟨A2, e2, rfl, o2, b2⟩))
            go_ret3
            exact fin w1 w2 A1 A2 e1 e2 o1 b1 o2 b2

end Go.Proofs.Ytnghfnpmbjnjeaa
