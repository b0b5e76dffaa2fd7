/- The document's Read. Conditions: those that it states. -/
import Derived.Test.YtnghfnpmbjnjeaaNamesRefText
namespace Go.Proofs.Ytnghfnpmbjnjeaa
open Go.RowKit

theorem textN_small {b : List Nat} (hb : Small b) : Small (textN b) := by
  unfold textN
  split
  · intro c hc; simp at hc; omega
  · exact textF_small hb

set_option maxHeartbeats 4000000 in
set_option maxRecDepth 100000 in
theorem refRead_any (w : World) (l : List Nat) (hs : Small l) (hn : l.length ≤ 40000000000000) :
    Calls Try.prog 24 #[.string (strN l)] w fun e w' => ∃ A c, e = .returned (.tuple #[.slice A (refReadA l).1.length c, .int .i64 (refReadA l).2]) ∧ w'.ownsRow w.heap.size 5 1 (.slice A (refReadA l).1.length c) (refReadA l).1.length (byts (refReadA l).1) ∧ Below w.heap.size w w' := by
  obtain ⟨i0, hi, hz0, hz1, hz2⟩ := info_parts Try.info5w
  by_cases h37 : l = [37]
  · subst h37
    go_enter Try.func24, Try.ntmps24
    have e : strN [37] = { data := #[37] } := rfl
    go_wp2
    go_ret2
    exact ⟨none, 0, rfl, World.ownsRow_nil _ _ _ _, Below.refl _ _⟩
  · obtain ⟨R, hR⟩ : ∃ R, refReadA l = R := ⟨_, rfl⟩
    have hA : R = if l.length = 0 ∨ textN (rdecL l) ≠ l then ([], 4) else (rdecL l, 0) := by rw [← hR]; unfold refReadA; rw [if_neg h37]
    rw [hR]
    have x1 : ((strN l).toList == [37]) = false := by
      have := strN_ne hs (m := [37]) (fun c hc => by simp at hc; omega) h37
      simpa [strN] using this
    have xs := strN_size l
    have rsm : Small (rdecL l) := rdec_small _ l hs
    have rln : (rdecL l).length ≤ l.length := rdec_len _ l
    have xne : ∀ m : List Nat, Small m → m ≠ l → ((strN m).toList == (strN l).toList) = false := fun m hm h => by
      rw [beq_eq_false_iff_ne]
      exact strN_ne hm hs h
    obtain ⟨X, hX, xg, xe⟩ : ∃ X, strN l = X ∧ (∀ (k : Nat) (hk : k < l.length) (h : k < X.size), (X[k]'h).toNat = l[k]) ∧ (∀ m : List Nat, m = l → strN m = X) := ⟨_, rfl, fun k hk => strN_get l hs k hk, fun m h => by rw [h]⟩
    obtain ⟨n, hnl⟩ : ∃ n, l.length = n := ⟨_, rfl⟩
    simp only [hX] at xne
    rw [hX] at xs x1 ⊢
    rw [hnl] at xs hn rln
    have HA := Lib.hid hA
    have HN := Lib.hid hnl
    clear hR hX hA h37 hnl
    go_enter Try.func24, Try.ntmps24
    go_wp2
    go_loopw [4, 5] (fun bv iv wr => ∃ (k : Nat) (acc : List Nat) (G : Option Addr) (gc : Nat), k ≤ n ∧ iv = .int .i64 k ∧ bv = .slice G acc.length gc ∧ acc.length ≤ k ∧ wr.ownsRow w.heap.size 5 1 (.slice G acc.length gc) acc.length (byts acc) ∧ rdecL l = acc ++ rdecL (l.drop k) ∧ Below w.heap.size w wr) (fun _ iv _ => n - (intOf iv).toNat)
    case atStart => exact ⟨0, [], none, 0, Nat.zero_le _, rfl, rfl, Nat.le_refl _, World.ownsRow_nil _ _ _ _, rfl, Below.refl _ _⟩
    case round =>
      obtain ⟨k, acc, G, gc, hk, rfl, rfl, hacc, ho, hr, hb⟩ := hrel
      by_cases hlt : k < n
      · have hkl : k < l.length := by have := HN.out; omega
        obtain ⟨d, hd⟩ : ∃ d, l[k] = d := ⟨_, rfl⟩
        have hd8 : d < 256 := by rw [← hd]; exact hs.at_ _ hkl
        have g0 : ∀ h : k < X.size, (X[k]'h).toNat = d := fun h => by rw [xg k hkl, hd]
        have k0 : (0 : Int) ≤ (k : Int) := by omega
        have k1 : (k : Int) < (n : Int) := by omega
        rw [List.drop_eq_getElem_cons hkl, hd] at hr
        have hsz := hb.size
        obtain ⟨k2', hk2'⟩ : ∃ p, k + 2 = p := ⟨_, rfl⟩
        have v2 : IntKind.i64.wrap ((k : Int) + 2) = (k2' : Int) := by rw [IntWalk.i64_in _ (by omega)]; omega
        by_cases hcond : d = 37 ∧ k + 2 < n
        · obtain ⟨rfl, h2⟩ := hcond
          obtain ⟨k1', hk1'⟩ : ∃ p, k + 1 = p := ⟨_, rfl⟩
          have v3 : IntKind.i64.wrap ((k : Int) + 1) = (k1' : Int) := by rw [IntWalk.i64_in _ (by omega)]; omega
          have hk1l : k + 1 < l.length := by have := HN.out; omega
          have hk2l : k + 2 < l.length := by have := HN.out; omega
          rw [List.drop_eq_getElem_cons hk1l, List.drop_eq_getElem_cons hk2l] at hr
          obtain ⟨a, ha⟩ : ∃ a, l[k + 1] = a := ⟨_, rfl⟩
          obtain ⟨b, hb'⟩ : ∃ a, l[k + 2] = a := ⟨_, rfl⟩
          have ha8 : a < 256 := by rw [← ha]; exact hs.at_ _ hk1l
          have hb8 : b < 256 := by rw [← hb']; exact hs.at_ _ hk2l
          have g1 : ∀ h : k1' < X.size, (X[k1']'h).toNat = a := fun h => by subst hk1'; rw [xg (k + 1) hk1l, ha]
          have g2 : ∀ h : k2' < X.size, (X[k2']'h).toNat = b := fun h => by subst hk2'; rw [xg (k + 2) hk2l, hb']
          rw [ha, hb', rdecL_pair] at hr
          obtain ⟨va, hva⟩ : ∃ v, valN a = v := ⟨_, rfl⟩
          obtain ⟨vb, hvb⟩ : ∃ v, valN b = v := ⟨_, rfl⟩
          obtain ⟨m1, hm1⟩ : ∃ v, 16 * va % 256 = v := ⟨_, rfl⟩
          obtain ⟨z, hz⟩ : ∃ v, (m1 + vb) % 256 = v := ⟨_, rfl⟩
          have hpz : pairN a b = z := by unfold pairN; rw [hva, hvb, hm1, hz]
          rw [hpz] at hr
          have qa : ∀ W, Calls Try.prog 61 #[.int .u8 a] W fun e w' => e = .returned (.int .u8 va) ∧ W = w' := fun W => by rw [← hva]; exact value_any W a ha8
          have qb : ∀ W, Calls Try.prog 61 #[.int .u8 b] W fun e w' => e = .returned (.int .u8 vb) ∧ W = w' := fun W => by rw [← hvb]; exact value_any W b hb8
          have k3 : (0 : Int) ≤ (k1' : Int) := by omega
          have k4 : (0 : Int) ≤ (k2' : Int) := by omega
          have k5 : (k1' : Int) < (n : Int) := by omega
          have k6 : (k2' : Int) < (n : Int) := by omega
          have v4 : IntKind.i64.wrap ((k2' : Int) + 1) = (k2' : Int) + 1 := IntWalk.i64_in _ (by omega)
          have u1 : (16 * (va : Int)) % 256 = (m1 : Int) := by omega
          have u2 : ((m1 : Int) + (vb : Int)) % 256 = (z : Int) := by omega
          have u3 : IntKind.u8.wrap (16 * (va : Int)) = (m1 : Int) := by rw [IntKind.wrap_u8']; exact u1
          have u4 : IntKind.u8.wrap ((m1 : Int) + (vb : Int)) = (z : Int) := by rw [IntKind.wrap_u8']; exact u2
          have HR := Lib.hid hr
          clear hr hd ha hb' hva hvb hm1 hz hpz xg xe xne
          go_wp2
          have hr3 := (reads_one wr z).drew
          have ho' : ((wr.alloc (.cells #[.int .u8 (z : Int)] 5)).drew).ownsRow w.heap.size 5 1 (.slice G acc.length gc) acc.length (byts acc) := ho.alloc _
          have hbA : Below w.heap.size w ((wr.alloc (.cells #[.int .u8 (z : Int)] 5)).drew) := (hb.alloc hsz _).drew
          go_region_held_law (fun _ => True) (trivial) (first
            | (go_at_call 61; refine (qa _).mono ?_; clear qa; rintro e w' ⟨rfl, rfl⟩)
            | (go_at_call 61; refine (qb _).mono ?_; clear qb; rintro e w' ⟨rfl, rfl⟩)
            | (refine step_append_any ((wr.alloc (.cells #[.int .u8 (z : Int)] 5)).drew) rfl _ _ 22 rfl w.heap.size 5 i0 (.int .u8 0) 1 1 Try.underlying22 hi hz0 hz1 hz2 rfl (by decide) _ _ _ rfl ho' (wr.heap.size + 1) (some ⟨wr.heap.size, 0, none⟩) 1 1 _ rfl hr3 (byts_one _) (by unfold maxLen; omega) (by omega) hbA.size ?_; intro v2 w2 o2 g2 _; obtain ⟨G2, e2, rfl⟩ := own_shape o2))
          all_goals
            have hb2 : Below w.heap.size w w2 := hbA.grown g2 hbA.size (own_base ho)
            rw [← byts_append] at o2
            go_wp2
            go_roundw
            case rel =>
              refine ⟨k2' + 1, acc ++ [z], G2, e2, by omega, by go_num, by simp, by simp; omega, by simpa using o2, ?_, hb2⟩
              rw [HR.out, show k + 2 + 1 = k2' + 1 by omega]
              simp
            case measure => simp [intOf]; omega
        · have hr2 : rdecL l = (acc ++ [d]) ++ rdecL (l.drop (k + 1)) := by
            rw [hr, List.append_assoc]
            congr 1
            by_cases hc : d = 37
            · subst hc
              exact rdecL_short _ (by rw [List.length_drop]; have := HN.out; omega)
            · exact rdecL_other d _ hc
          have HR := Lib.hid hr2
          have v1 : IntKind.i64.wrap ((k : Int) + 1) = (k : Int) + 1 := IntWalk.i64_in _ (by omega)
          clear hr hr2 hd xg xe xne
          by_cases hc : d = 37
          · subst hc
            have c2 : ¬ (k2' : Int) < (n : Int) := by omega
            go_wp2_with (at_builtin; refine wpList_append_any _ rfl _ _ 22 rfl w.heap.size 5 i0 (.int .u8 0) 1 1 Try.underlying22 hi hz0 hz1 hz2 rfl (by decide) _ _ _ rfl (ho.alloc _) (wr.heap.size + 1) (some ⟨wr.heap.size, 0, none⟩) 1 1 _ rfl (reads_one wr 37) ?c1 ?c2 ?c3 ?c4 ?_)
            case c1 => exact byts_one _
            case c2 => unfold maxLen; omega
            case c3 => omega
            case c4 => first | omega | (simp; omega)
            intro v2 w2 o2 g2 _
            obtain ⟨G2, e2, rfl⟩ := own_shape o2
            have hb2 : Below w.heap.size w w2 := (hb.alloc hsz _).grown g2 (by first | omega | (simp; omega)) (own_base ho)
            rw [← byts_append] at o2
            go_wp2
            go_roundw
            case rel => exact ⟨k + 1, acc ++ [37], G2, e2, by omega, by go_num, by simp, by simp; omega, by simpa using o2, HR.out, hb2⟩
            case measure => simp [intOf]; omega
          · have c1 : ((d : Int) == 37) = false := by rw [beq_eq_false_iff_ne]; omega
            go_wp2_with (at_builtin; refine wpList_append_any _ rfl _ _ 22 rfl w.heap.size 5 i0 (.int .u8 0) 1 1 Try.underlying22 hi hz0 hz1 hz2 rfl (by decide) _ _ _ rfl (ho.alloc _) (wr.heap.size + 1) (some ⟨wr.heap.size, 0, none⟩) 1 1 _ rfl (reads_one wr d) ?c1 ?c2 ?c3 ?c4 ?_)
            case c1 => exact byts_one _
            case c2 => unfold maxLen; omega
            case c3 => omega
            case c4 => first | omega | (simp; omega)
            intro v2 w2 o2 g2 _
            obtain ⟨G2, e2, rfl⟩ := own_shape o2
            have hb2 : Below w.heap.size w w2 := (hb.alloc hsz _).grown g2 (by first | omega | (simp; omega)) (own_base ho)
            rw [← byts_append] at o2
            go_wp2
            go_roundw
            case rel => exact ⟨k + 1, acc ++ [d], G2, e2, by omega, by go_num, by simp, by simp; omega, by simpa using o2, HR.out, hb2⟩
            case measure => simp [intOf]; omega
      · have hkn : k = n := by omega
        subst hkn
        have hr2 : rdecL l = acc := by
          rw [hr, List.drop_eq_nil_of_le (by have := HN.out; omega), rdecL_nil, List.append_nil]
        have hA := HA.out
        rw [hr2] at hA rsm
        rw [HN.out] at hA
        have HA2 := Lib.hid hA
        clear hr hr2 xg hA
        rcases Nat.eq_zero_or_pos k with h0 | h0
        · subst h0
          have hA := HA2.out
          rw [if_pos (.inl rfl)] at hA
          subst hA
          go_wp2
          go_ret2
          exact ⟨none, 0, rfl, World.ownsRow_nil _ _ _ _, hb⟩
        · have z0 : ((k : Int) == 0) = false := by rw [beq_eq_false_iff_ne]; omega
          have q32 := refText_any wr wr.heap.size G acc.length gc acc (Reads.of_own ho) rsm (Nat.le_refl _) (by omega)
          have tsm := textN_small rsm
          by_cases ht : textN acc = l
          · have ex := xe _ ht
            have hA := HA2.out
            rw [if_neg (by simp [ht]; omega)] at hA
            subst hA
            rw [ex] at q32
            clear xne xe HA HA2
            go_wp2_with (go_at_call 32; refine q32.mono ?_; clear q32; rintro e w2 ⟨rfl, b2⟩)
            go_ret2
            exact ⟨G, gc, rfl, own_fr ho (Fr.of_new (S := noB) b2) (fun _ _ h => h), hb.trans (b2.mono hb.size)⟩
          · have ex := xne _ tsm ht
            have hA := HA2.out
            rw [if_pos (.inr ht)] at hA
            subst hA
            clear xne xe HA HA2
            go_wp2_with (go_at_call 32; refine q32.mono ?_; clear q32; rintro e w2 ⟨rfl, b2⟩)
            go_ret2
            exact ⟨none, 0, rfl, World.ownsRow_nil _ _ _ _, hb.trans (b2.mono hb.size)⟩

end Go.Proofs.Ytnghfnpmbjnjeaa
