/- The document's answers of names: Cmp, In, Behind, Meet. Conditions: those that each states. -/
import Derived.Test.YtnghfnpmbjnjeaaNamesBehind
import Derived.Test.YtnghfnpmbjnjeaaNamesMeet
namespace Go.Proofs.Ytnghfnpmbjnjeaa
open Go.RowKit

theorem drewN_drewN (w : World) (a b : Nat) : (w.drewN a).drewN b = w.drewN (a + b) := by simp [World.drewN, Nat.add_assoc]

section
variable {B1 B2 : Nat} {A1 A2 : Option Addr} {n1 c1 n2 c2 : Nat} {l m : List Nat}
set_option maxHeartbeats 2000000 in
set_option maxRecDepth 100000 in
theorem refCmp_any (w : World) (h1 : Reads w B1 1 A1 n1 (byts l)) (s1 : Small l) (h2 : Reads w B2 1 A2 n2 (byts m)) (s2 : Small m) (hn1 : n1 ≤ 140737488355328) (hn2 : n2 ≤ 140737488355328) :
    Calls Try.prog 17 #[.slice A1 n1 c1, .slice A2 n2 c2] w fun e w' => e = .returned (.int .i64 (cmpN l m)) ∧ ∃ q, w' = w.drewN q := by
  have l1 : l.length = n1 := by have := h1.1; rw [byts_length] at this; omega
  have l2 : m.length = n2 := by have := h2.1; rw [byts_length] at this; omega
  obtain ⟨R, hR⟩ : ∃ R, cmpN l m = R := ⟨_, rfl⟩
  rw [hR]
  have HR := Lib.hid hR
  have L1 := Lib.hid l1
  have L2 := Lib.hid l2
  clear hR l1 l2
  go_enter Try.func17, Try.ntmps17
  go_wp2
  go_loopw [5] (fun iv wr => ∃ i q : Nat, i ≤ n1 ∧ i ≤ n2 ∧ iv = .int .i64 i ∧ R = cmpN (l.drop i) (m.drop i) ∧ wr = w.drewN q) (fun iv _ => n1 - (intOf iv).toNat)
  case atStart => exact ⟨0, 0, Nat.zero_le _, Nat.zero_le _, rfl, HR.out.symm, rfl⟩
  case round =>
    obtain ⟨i, q, hi1, hi2, rfl, hr, hw⟩ := hrel
    subst hw
    by_cases k1 : i < n1
    · by_cases k2 : i < n2
      · have p1 : i < l.length := by have := L1.out; omega
        have p2 : i < m.length := by have := L2.out; omega
        rw [List.drop_eq_getElem_cons p1, List.drop_eq_getElem_cons p2] at hr
        obtain ⟨x, hx⟩ : ∃ x, l[i] = x := ⟨_, rfl⟩
        obtain ⟨y, hy⟩ : ∃ y, m[i] = y := ⟨_, rfl⟩
        have x8 : x < 256 := by rw [← hx]; exact s1.at_ _ p1
        have y8 : y < 256 := by rw [← hy]; exact s2.at_ _ p2
        obtain ⟨ad1, v1, rfl, _, hv1, hc1⟩ := h1.at_ k1
        obtain ⟨ad2, v2, rfl, _, hv2, hc2⟩ := h2.at_ k2
        obtain rfl : v1 = .int .u8 (x : Nat) := by
          simp [byts, List.getElem?_eq_getElem p1, hx] at hv1
          exact hv1.symm
        obtain rfl : v2 = .int .u8 (y : Nat) := by
          simp [byts, List.getElem?_eq_getElem p2, hy] at hv2
          exact hv2.symm
        rw [hx, hy] at hr
        have d1 : ∀ q, (w.drewN q).cell? (ad1.add i) = some (.int .u8 (x : Nat)) := fun _ => hc1
        have d2 : ∀ q, (w.drewN q).cell? (ad2.add i) = some (.int .u8 (y : Nat)) := fun _ => hc2
        have g0 : (0 : Int) ≤ (i : Int) := by omega
        have g1 : (i : Int) < (n1 : Int) := by omega
        have g2 : (i : Int) < (n2 : Int) := by omega
        have g3 : decide ((i : Int) < (n1 : Int)) = true := decide_eq_true g1
        clear hx hy hv1 hv2 hc1 hc2
        by_cases lt : x < y
        · have t1 : (x : Int) < (y : Int) := by omega
          have e : R = -1 := by rw [hr]; simp only [cmpN, if_pos lt]
          clear hr
          go_wp2
          go_quiet (fail)
          go_wp2
          go_ret
          exact ⟨by first | rfl | (rw [e]; rfl) | rw [e], by first | exact ⟨_, rfl⟩ | exact ⟨_, drewN_drewN _ _ _⟩ | exact ⟨_, by rw [drewN_drewN, drewN_drewN]⟩⟩
        · have t1 : ¬ (x : Int) < (y : Int) := by omega
          by_cases gt : y < x
          · have t2 : (y : Int) < (x : Int) := by omega
            have e : R = 1 := by rw [hr]; simp only [cmpN, if_neg lt, if_pos gt]
            clear hr
            go_wp2
            go_quiet (fail)
            go_wp2
            go_quiet (fail)
            go_wp2
            go_ret
            exact ⟨by first | rfl | (rw [e]; rfl) | rw [e], by first | exact ⟨_, rfl⟩ | exact ⟨_, drewN_drewN _ _ _⟩ | exact ⟨_, by rw [drewN_drewN, drewN_drewN]⟩⟩
          · have t2 : ¬ (y : Int) < (x : Int) := by omega
            have e : R = cmpN (l.drop (i + 1)) (m.drop (i + 1)) := by rw [hr]; simp only [cmpN, if_neg lt, if_neg gt]
            have E := Lib.hid e
            clear hr e
            go_wp2
            go_quiet (fail)
            go_wp2
            go_quiet (fail)
            go_wp2
            go_roundw
            case rel => exact ⟨i + 1, _, by omega, by omega, by go_num, E.out, rfl⟩
            case measure => simp [intOf]; omega
      · have hn : m.drop i = [] := List.drop_eq_nil_of_le (by have := L2.out; omega)
        have e : R = 1 := by
          rw [hr, hn]
          have p1 : i < l.length := by have := L1.out; omega
          rw [List.drop_eq_getElem_cons p1]
          rfl
        have g1 : (i : Int) < (n1 : Int) := by omega
        have g3 : decide ((i : Int) < (n1 : Int)) = true := decide_eq_true g1
        have g2 : ¬ (i : Int) < (n2 : Int) := by omega
        have g4 : ¬ (n1 : Int) < (n2 : Int) := by omega
        have g5 : (n2 : Int) < (n1 : Int) := by omega
        clear hr hn
        go_wp2
        go_ret
        exact ⟨by first | rfl | (rw [e]; rfl) | rw [e], by first | exact ⟨_, rfl⟩ | exact ⟨_, drewN_drewN _ _ _⟩ | exact ⟨_, by rw [drewN_drewN, drewN_drewN]⟩⟩
    · have hi : i = n1 := by omega
      subst hi
      have g3 : decide ((i : Int) < (i : Int)) = false := decide_eq_false (by omega)
      have hn : l.drop i = [] := List.drop_eq_nil_of_le (by have := L1.out; omega)
      rw [hn] at hr
      by_cases k2 : i < n2
      · have e : R = -1 := by
          rw [hr]
          have p2 : i < m.length := by have := L2.out; omega
          rw [List.drop_eq_getElem_cons p2]
          rfl
        have g4 : (i : Int) < (n2 : Int) := by omega
        clear hr hn
        go_wp2
        go_ret
        exact ⟨by first | rfl | (rw [e]; rfl) | rw [e], by first | exact ⟨_, rfl⟩ | exact ⟨_, drewN_drewN _ _ _⟩ | exact ⟨_, by rw [drewN_drewN, drewN_drewN]⟩⟩
      · have hm : m.drop i = [] := List.drop_eq_nil_of_le (by have := L2.out; omega)
        have e : R = 0 := by rw [hr, hm]; rfl
        have g4 : ¬ (i : Int) < (n2 : Int) := by omega
        have g5 : ¬ (n2 : Int) < (i : Int) := by omega
        clear hr hn hm
        go_wp2
        go_ret
        exact ⟨by first | rfl | (rw [e]; rfl) | rw [e], by first | exact ⟨_, rfl⟩ | exact ⟨_, drewN_drewN _ _ _⟩ | exact ⟨_, by rw [drewN_drewN, drewN_drewN]⟩⟩
end

section
variable {Bk Bf Bt : Nat} {Ak Af At : Option Addr} {nk ck nf cf nt ct : Nat} {k f t : List Nat}
set_option maxHeartbeats 1000000 in
set_option maxRecDepth 100000 in
theorem refIn_any (w : World) (hk : Reads w Bk 1 Ak nk (byts k)) (sk : Small k) (hf : Reads w Bf 1 Af nf (byts f)) (sf : Small f) (ht : Reads w Bt 1 At nt (byts t)) (st : Small t)
    (mk : nk ≤ 140737488355328) (mf : nf ≤ 140737488355328) (mt : nt ≤ 140737488355328) :
    Calls Try.prog 19 #[.slice Ak nk ck, .slice Af nf cf, .slice At nt ct] w fun e w' => e = .returned (.bool (inN k f t)) ∧ ∃ q, w' = w.drewN q := by
  have c1 := refCmp_any w (c1 := ck) (c2 := cf) hk sk hf sf mk mf
  have c2 := fun q : Nat => refCmp_any (w.drewN q) (c1 := ck) (c2 := ct) (hk.drewN q) sk (ht.drewN q) st mk mt
  have hl : t.length = nt := by have := ht.1; rw [byts_length] at this; omega
  unfold inN
  rw [hl]
  obtain ⟨x, hx⟩ : ∃ x, cmpN k f = x := ⟨_, rfl⟩
  obtain ⟨y, hy⟩ : ∃ y, cmpN k t = y := ⟨_, rfl⟩
  rw [hx] at c1 ⊢
  rw [hy] at c2 ⊢
  clear hx hy hl
  by_cases h1 : 0 ≤ x
  · by_cases h2 : nt = 0
    · subst h2
      simp only [h1, decide_true, Bool.true_or, Bool.and_true]
      go_enter Try.func19, Try.ntmps19
      go_wp2_with (go_at_call 17; refine c1.mono ?_; clear c1; rintro e w' ⟨rfl, q1, rfl⟩)
      go_ret
      exact ⟨rfl, _, rfl⟩
    · have h3 : ((nt : Int) == 0) = false := by rw [beq_eq_false_iff_ne]; omega
      simp only [h1, h2, decide_true, decide_false, Bool.false_or, Bool.true_and]
      go_enter Try.func19, Try.ntmps19
      go_wp2_with (first
        | (go_at_call 17; refine c1.mono ?_; clear c1; rintro e w' ⟨rfl, q1, rfl⟩)
        | (go_at_call 17; refine (c2 _).mono ?_; clear c2; rintro e w' ⟨rfl, q2, rfl⟩))
      go_ret
      exact ⟨rfl, _, rfl⟩
  · simp only [h1, decide_false, Bool.false_and]
    go_enter Try.func19, Try.ntmps19
    go_wp2_with (go_at_call 17; refine c1.mono ?_; clear c1; rintro e w' ⟨rfl, q1, rfl⟩)
    go_ret
    exact ⟨rfl, _, rfl⟩
end

set_option maxHeartbeats 2000000 in
set_option maxRecDepth 100000 in
theorem refBehind_any (w : World) (B : Nat) (A : Option Addr) (n c : Nat) (l : List Nat) (h : Reads w B 1 A n (byts l)) (hs : Small l) (hB : B ≤ w.heap.size) (hcap : n ≤ c) (hn : n ≤ 140737488355328) :
    Calls Try.prog 13 #[.slice A n c] w fun e w' => ∃ A2 c2 m, e = .returned (.tuple #[.slice A2 m.length c2, .bool (behN l).isSome]) ∧ m = (behN l).getD [] ∧ w'.ownsRow w.heap.size 5 1 (.slice A2 m.length c2) m.length (byts m) ∧ Below w.heap.size w w' := by
  obtain ⟨i0, hi, hz0, hz1, hz2⟩ := info_parts Try.info5w
  have hl : l.length = n := by have := h.1; rw [byts_length] at this; omega
  obtain ⟨b, hb⟩ : ∃ b, behN l = b := ⟨_, rfl⟩
  rw [hb]
  unfold behN at hb
  rw [hl] at hb
  have hcl := cutK_le l n
  have HB := Lib.hid hb
  clear hb
  go_enter Try.func13, Try.ntmps13
  go_wp2
  go_loop [4] (fun iv => ∃ k : Nat, k ≤ n ∧ iv = .int .i64 k ∧ cutK l n = cutK l k) (fun iv => (intOf iv).toNat)
  case atStart => exact ⟨n, Nat.le_refl _, rfl, rfl⟩
  case round =>
    obtain ⟨k, hk, rfl, hck⟩ := hrel
    rcases Nat.eq_zero_or_pos k with h0 | h0
    · subst h0
      have HC := Lib.hid hck
      clear hck
      go_wp2
      go_ret2
      have hb := HB.out
      rw [HC.out, if_pos (show cutK l 0 = 0 from rfl)] at hb
      subst hb
      exact ⟨none, 0, [], rfl, rfl, World.ownsRow_nil _ _ _ _, Below.refl _ _⟩
    · obtain ⟨j, rfl⟩ : ∃ j, k = j + 1 := ⟨k - 1, by omega⟩
      have hj : j < l.length := by omega
      obtain ⟨ad, v, rfl, hab, hxv, hcell⟩ := h.at_ (show j < n by omega)
      obtain ⟨d, hd⟩ : ∃ d, l[j] = d := ⟨_, rfl⟩
      have hd8 : d < 256 := by rw [← hd]; exact hs.at_ _ hj
      obtain rfl : v = .int .u8 (d : Nat) := by
        simp [byts, List.getElem?_eq_getElem hj, hd] at hxv
        exact hxv.symm
      have hgd : l.getD j 0 = d := by rw [List.getD_eq_getElem?_getD, List.getElem?_eq_getElem hj, hd]; rfl
      have u1 : IntKind.i64.wrap ((j + 1 : Nat) - 1 : Int) = (j : Int) := by rw [IntWalk.i64_in _ (by omega)]; omega
      have u0 : (((j + 1 : Nat) : Int) == 0) = false := by rw [beq_eq_false_iff_ne]; omega
      have uu : decide ((0 : Int) < ((j + 1 : Nat) : Int)) = true := decide_eq_true (by omega)
      have k0 : (0 : Int) ≤ (j : Int) := by omega
      have k1 : (j : Int) < (n : Int) := by omega
      by_cases h255 : d = 255
      · have hstep : cutK l (j + 1) = cutK l j := by simp only [cutK, hgd, h255, if_true]
        have q1 : ((d : Int) == 255) = true := by rw [beq_iff_eq]; omega
        have HC := Lib.hid (hck.trans hstep)
        clear hck hstep hd hxv hgd
        go_wp2
        go_round
        case rel => exact ⟨j, by omega, by go_num, HC.out⟩
        case measure => simp [intOf]
      · have hstep : cutK l (j + 1) = j + 1 := by simp only [cutK, hgd, h255, if_false]
        have q1 : ((d : Int) == 255) = false := by rw [beq_eq_false_iff_ne]; omega
        have HC := Lib.hid (hck.trans hstep)
        have HG := Lib.hid hgd
        have hbyt : (byts (l.take (j + 1)))[j]? = some (.int .u8 (d : Nat)) := by simp [byts, List.getElem?_take, List.getElem?_eq_getElem hj, hd]
        have hr := h.upto (k := j + 1) (by omega)
        rw [Nat.mul_one, ← byts_take] at hr
        have u2 : (0 : Int) ≤ ((j + 1 : Nat) : Int) := by omega
        have u3 : ((j + 1 : Nat) : Int) ≤ (c : Int) := by omega
        have u4 : ((d : Int) + 1) % 256 = (d : Int) + 1 := by omega
        have u5 : (j : Int) < ((j + 1 : Nat) : Int) := by omega
        clear hck hstep hd hxv hgd
        go_wp2_with (at_builtin; refine wpList_append_any _ rfl _ _ 22 rfl w.heap.size 5 i0 (.int .u8 0) 1 1 Try.underlying22 hi hz0 hz1 hz2 rfl (by decide) _ _ _ rfl (World.ownsRow_nil _ _ _ _) B (some ad) (j + 1) c _ rfl hr ?c1 ?c2 ?c3 ?c4 ?_)
        case c1 => exact byts_one _
        case c2 => unfold maxLen; omega
        case c3 => omega
        intro v2 w2 o2 g2 _
        obtain ⟨A2, c2, rfl⟩ := own_shape o2
        have b2 : Below w.heap.size w w2 := (Below.refl _ _).grown g2 (Nat.le_refl _) (fun k hk => by cases hk)
        try simp only [Nat.zero_add, List.nil_append] at o2
        obtain ⟨g, rfl, hg1, hg2, hcO, hfO, hsO⟩ := own_open o2 (by omega)
        have e1 := hcO j _ hbyt
        have e2 := hfO j
        go_wp2
        go_ret2
        have hb := HB.out
        rw [HC.out, if_neg (by omega), Nat.add_sub_cancel, HG.out] at hb
        subst hb
        have hset := hsO j (.int .u8 ((d : Int) + 1)) (by omega)
        have hlen : (l.take j ++ [d + 1]).length = j + 1 := by rw [List.length_append, List.length_take, Nat.min_eq_left (by omega)]; rfl
        have hxs : (byts (l.take (j + 1))).set j (.int .u8 ((d : Int) + 1)) = byts (l.take j ++ [d + 1]) := by
          rw [List.take_succ_eq_append_getElem hj, byts_append, byts_append, List.set_append_right _ _ (by rw [byts_length, List.length_take]; omega)]
          congr 1
          rw [byts_length, List.length_take, Nat.min_eq_left (by omega), Nat.sub_self]
          rfl
        rw [hxs] at hset
        refine ⟨some ⟨g, 0, none⟩, c2, _, ?_, rfl, ?_, b2.setCell (p := ⟨g, j, none⟩) hg1 _⟩
        · show _ = Ending.returned (.tuple #[.slice (some ⟨g, 0, none⟩) (l.take j ++ [d + 1]).length c2, .bool true])
          rw [hlen]
          rfl
        · show World.ownsRow _ _ _ _ (.slice (some ⟨g, 0, none⟩) (l.take j ++ [d + 1]).length c2) (l.take j ++ [d + 1]).length (byts (l.take j ++ [d + 1]))
          rw [hlen]
          exact hset

end Go.Proofs.Ytnghfnpmbjnjeaa
