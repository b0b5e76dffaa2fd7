/- names.Read. Conditions: those that each states. -/
import Derived.Test.YtnghfnpmbjnjeaaNamesRead
namespace Go.Proofs.Ytnghfnpmbjnjeaa
open Go.RowKit

theorem readF_fuel : ∀ (m : Nat) (x : List Nat), x.length ≤ m → readF m x = readF x.length x
  | 0, [], _ => rfl
  | 0, _ :: _, h => by simp at h
  | _ + 1, [], _ => rfl
  | m + 1, c :: r, h => by
    have hr : r.length ≤ m := by simpa using h
    have ih := readF_fuel m r hr
    show readF (m + 1) (c :: r) = readF (r.length + 1) (c :: r)
    simp only [readF, ih]
    split
    · rfl
    · split
      · rfl
      · match r, hr with
        | [], _ => rfl
        | [_], _ => rfl
        | x :: y :: r', hr =>
          have h1 : r'.length ≤ m := by simp at hr; omega
          have e1 := readF_fuel m r' h1
          have e2 := readF_fuel (r'.length + 1 + 1) r' (by omega)
          simp only [List.length_cons, e1, e2]
  termination_by m => m
def readL (x : List Nat) : Option (List Nat) := readF x.length x
theorem readL_nil : readL [] = some [] := rfl
theorem readL_plain (c : Nat) (r : List Nat) (h : plainN c = true) : readL (c :: r) = (readL r).map (c :: ·) := by
  simp only [readL, List.length_cons, readF, h, if_true]
theorem readL_bad (c : Nat) (r : List Nat) (h : plainN c = false) (h2 : c ≠ 37) : readL (c :: r) = none := by
  simp only [readL, List.length_cons, readF, h, Bool.false_eq_true, if_false, if_pos h2]
theorem readL_short (r : List Nat) (h : r.length < 2) : readL (37 :: r) = none := by
  match r, h with
  | [], _ => rfl
  | [_], _ => rfl
theorem readL_pair (a b : Nat) (r : List Nat) : readL (37 :: a :: b :: r) = (match nibN a, nibN b with
      | some x, some y => if plainN (16 * x + y) = true then none else (readL r).map ((16 * x + y) :: ·)
      | _, _ => none) := by
  have e := readF_fuel (r.length + 1 + 1) r (by omega)
  simp only [readL, List.length_cons, readF, show plainN 37 = false by decide, Bool.false_eq_true, if_false, ne_eq, not_true_eq_false, e]
  cases nibN a <;> cases nibN b <;> rfl

/-- What a text says, and the error's number. -/
def readA (l : List Nat) : List Nat × Nat := if l = [37] then ([], 0) else if l = [] then ([], 4) else match readL l with
  | some b => (b, 0)
  | none => ([], 4)

theorem strN_get (l : List Nat) (hs : Small l) (k : Nat) (hk : k < l.length) (h : k < (strN l).size) : ((strN l)[k]'h).toNat = l[k] := by
  have := hs.at_ k hk
  show ((l.map UInt8.ofNat).toArray[k]'(by simpa [strN, ByteArray.size] using h)).toNat = _
  simp
  omega
theorem strN_size (l : List Nat) : (strN l).size = l.length := by
  simp [strN, ByteArray.size]

set_option maxHeartbeats 4000000 in
set_option maxRecDepth 100000 in
theorem read_any (w : World) (l : List Nat) (hs : Small l) (hn : l.length ≤ 140737488355328) :
    Calls Try.prog 23 #[.string (strN l)] w fun e w' => ∃ A c, e = .returned (.tuple #[.slice A (readA l).1.length c, .int .i64 (readA l).2]) ∧ w'.ownsRow w.heap.size 5 1 (.slice A (readA l).1.length c) (readA l).1.length (byts (readA l).1) ∧ Below w.heap.size w w' := by
  obtain ⟨i0, hi, hz0, hz1, hz2⟩ := info_parts Try.info5w
  by_cases h37 : l = [37]
  · subst h37
    go_enter Try.func23, Try.ntmps23
    have e : strN [37] = { data := #[37] } := rfl
    go_wp2
    go_ret2
    exact ⟨none, 0, rfl, World.ownsRow_nil _ _ _ _, Below.refl _ _⟩
  · by_cases h0 : l = []
    · subst h0
      go_enter Try.func23, Try.ntmps23
      have e : strN [] = { data := #[] } := rfl
      go_wp2
      go_ret2
      exact ⟨none, 0, rfl, World.ownsRow_nil _ _ _ _, Below.refl _ _⟩
    · obtain ⟨R, hR⟩ : ∃ R, readA l = R := ⟨_, rfl⟩
      have hA : R = match readL l with
        | some b => (b, 0)
        | none => ([], 4) := by rw [← hR]; unfold readA; rw [if_neg h37, if_neg h0]
      rw [hR]
      have x1 : ((strN l).toList == [37]) = false := by
        have := strN_ne hs (m := [37]) (fun c hc => by simp at hc; omega) h37
        simpa [strN] using this
      have x2 : (strN l).toList.isEmpty = false := by
        have := strN_ne hs (m := []) (fun c hc => by simp at hc) h0
        simpa [strN] using this
      have xs := strN_size l
      obtain ⟨X, hX, xg⟩ : ∃ X, strN l = X ∧ ∀ (k : Nat) (hk : k < l.length) (h : k < X.size), (X[k]'h).toNat = l[k] := ⟨_, rfl, fun k hk => strN_get l hs k hk⟩
      obtain ⟨n, hnl⟩ : ∃ n, l.length = n := ⟨_, rfl⟩
      rw [hX] at xs x1 x2 ⊢
      rw [hnl] at xs hn
      have HA := Lib.hid hA
      have HN := Lib.hid hnl
      clear hR hX hA h37 h0 hnl
      go_enter Try.func23, Try.ntmps23
      go_wp2
      go_loopw [4, 5] (fun bv iv wr => ∃ (k : Nat) (acc : List Nat) (G : Option Addr) (gc : Nat), k ≤ n ∧ iv = .int .i64 k ∧ bv = .slice G acc.length gc ∧ acc.length ≤ k ∧ wr.ownsRow w.heap.size 5 1 (.slice G acc.length gc) acc.length (byts acc) ∧ readL l = (readL (l.drop k)).map (acc ++ ·) ∧ Below w.heap.size w wr) (fun _ iv _ => n - (intOf iv).toNat)
      case atStart => exact ⟨0, [], none, 0, Nat.zero_le _, rfl, rfl, Nat.le_refl _, World.ownsRow_nil _ _ _ _, by simp, Below.refl _ _⟩
      case round =>
        obtain ⟨k, acc, G, gc, hk, rfl, rfl, hacc, ho, hr, hb⟩ := hrel
        by_cases hlt : k < n
        · have hkl : k < l.length := by have := HN.out; omega
          obtain ⟨d, hd⟩ : ∃ d, l[k] = d := ⟨_, rfl⟩
          have hd8 : d < 256 := by rw [← hd]; exact hs.at_ _ hkl
          have g0 : ∀ h : k < X.size, (X[k]'h).toNat = d := fun h => by rw [xg k hkl, hd]
          have k0 : (0 : Int) ≤ (k : Int) := by omega
          have k1 : (k : Int) < (n : Int) := by omega
          rw [List.drop_eq_getElem_cons hkl, hd] at hr
          have hsz := hb.size
          have q59 := plain_any wr d hd8
          have v1 : IntKind.i64.wrap ((k : Int) + 1) = (k : Int) + 1 := IntWalk.i64_in _ (by omega)
          by_cases hp : plainN d = true
          · rw [readL_plain d _ hp, Option.map_map] at hr
            rw [hp] at q59
            have HR := Lib.hid hr
            clear hr hd xg
            go_wp2_with (first
              | (go_at_call 59; refine q59.mono ?_; clear q59; rintro e w' ⟨rfl, rfl⟩)
              | (at_builtin; refine wpList_append_any _ rfl _ _ 22 rfl w.heap.size 5 i0 (.int .u8 0) 1 1 Try.underlying22 hi hz0 hz1 hz2 rfl (by decide) _ _ _ rfl (ho.alloc _) (wr.heap.size + 1) (some ⟨wr.heap.size, 0, none⟩) 1 1 _ rfl (reads_one wr d) ?c1 ?c2 ?c3 ?c4 ?_))
            case c1 => exact byts_one _
            case c2 => unfold maxLen; omega
            case c3 => omega
            case c4 => simp; omega
            intro v2 w2 o2 g2 _
            obtain ⟨G2, e2, rfl⟩ := own_shape o2
            have hb2 : Below w.heap.size w w2 := (hb.alloc hsz _).grown g2 (by simp; omega) (own_base ho)
            rw [← byts_append] at o2
            go_wp2
            go_roundw
            case rel =>
              refine ⟨k + 1, acc ++ [d], G2, e2, by omega, by go_num, by simp, by simp; omega, by simpa using o2, ?_, hb2⟩
              rw [HR.out]
              congr 1
              funext z
              simp
            case measure => simp [intOf]; omega
          · have hp' : plainN d = false := by simpa using hp
            rw [hp'] at q59
            have fin : ∀ wr' : World, readL l = none → Below w.heap.size w wr' → ∃ A c, Ending.returned (.tuple #[.slice none 0 0, .int .i64 4]) = .returned (.tuple #[.slice A R.1.length c, .int .i64 R.2]) ∧ wr'.ownsRow w.heap.size 5 1 (.slice A R.1.length c) R.1.length (byts R.1) ∧ Below w.heap.size w wr' := by
              intro wr' hn hb'
              have e := HA.out
              rw [hn] at e
              subst e
              exact ⟨none, 0, rfl, World.ownsRow_nil _ _ _ _, hb'⟩
            by_cases h37 : d = 37
            · subst h37
              obtain ⟨k1', hk1'⟩ : ∃ p, k + 1 = p := ⟨_, rfl⟩
              obtain ⟨k2', hk2'⟩ : ∃ p, k + 2 = p := ⟨_, rfl⟩
              have v2 : IntKind.i64.wrap ((k : Int) + 2) = (k2' : Int) := by rw [IntWalk.i64_in _ (by omega)]; omega
              have v3 : IntKind.i64.wrap ((k : Int) + 1) = (k1' : Int) := by rw [IntWalk.i64_in _ (by omega)]; omega
              have z37 : ((37 : Int) == 37) = true := rfl
              by_cases h2 : n ≤ k2'
              · have hr2 : readL l = none := by
                  rw [hr, readL_short _ (by rw [List.length_drop]; have := HN.out; omega)]
                  rfl
                have q2 : (n : Int) ≤ (k2' : Int) := by omega
                have HR := Lib.hid hr2
                clear hr hr2 hd xg v1
                go_wp2_with (go_at_call 59; refine q59.mono ?_; clear q59; rintro e w' ⟨rfl, rfl⟩)
                go_ret2
                exact fin _ HR.out hb
              · have q2 : ¬ (n : Int) ≤ (k2' : Int) := by omega
                have hk1l : k + 1 < l.length := by have := HN.out; omega
                have hk2l : k + 2 < l.length := by have := HN.out; omega
                rw [List.drop_eq_getElem_cons hk1l, List.drop_eq_getElem_cons hk2l] at hr
                obtain ⟨a, ha⟩ : ∃ a, l[k + 1] = a := ⟨_, rfl⟩
                obtain ⟨b, hb'⟩ : ∃ a, l[k + 2] = a := ⟨_, rfl⟩
                have ha8 : a < 256 := by rw [← ha]; exact hs.at_ _ hk1l
                have hb8 : b < 256 := by rw [← hb']; exact hs.at_ _ hk2l
                have g1 : ∀ h : k1' < X.size, (X[k1']'h).toNat = a := fun h => by subst hk1'; rw [xg (k + 1) hk1l, ha]
                have g2 : ∀ h : k2' < X.size, (X[k2']'h).toNat = b := fun h => by subst hk2'; rw [xg (k + 2) hk2l, hb']
                rw [ha, hb', readL_pair] at hr
                have qa := nibble_any wr a ha8
                have qb := nibble_any wr b hb8
                have k3 : (0 : Int) ≤ (k1' : Int) := by omega
                have k4 : (0 : Int) ≤ (k2' : Int) := by omega
                have k5 : (k1' : Int) < (n : Int) := by omega
                have k6 : (k2' : Int) < (n : Int) := by omega
                clear hd ha hb' v1
                cases hx : nibN a with
                | none =>
                  rw [hx] at qa hr
                  have HR := Lib.hid hr
                  clear hr xg hx
                  go_wp2_with (first
                    | (go_at_call 59; refine q59.mono ?_; clear q59; rintro e w' ⟨rfl, rfl⟩)
                    | (go_at_call 60; refine qa.mono ?_; clear qa; rintro e w' ⟨rfl, rfl⟩)
                    | (go_at_call 60; refine qb.mono ?_; clear qb; rintro e w' ⟨rfl, rfl⟩))
                  go_ret2
                  exact fin _ HR.out hb
                | some x =>
                  cases hy : nibN b with
                  | none =>
                    rw [hx] at qa
                    rw [hx, hy] at hr
                    rw [hy] at qb
                    have HR := Lib.hid hr
                    clear hr xg hx hy
                    go_wp2_with (first
                      | (go_at_call 59; refine q59.mono ?_; clear q59; rintro e w' ⟨rfl, rfl⟩)
                      | (go_at_call 60; refine qa.mono ?_; clear qa; rintro e w' ⟨rfl, rfl⟩)
                      | (go_at_call 60; refine qb.mono ?_; clear qb; rintro e w' ⟨rfl, rfl⟩))
                    go_ret2
                    exact fin _ HR.out hb
                  | some y =>
                    rw [hx] at qa
                    rw [hx, hy] at hr
                    rw [hy] at qb
                    have hx16 : x < 16 := by unfold nibN at hx; split at hx <;> (try split at hx) <;> simp at hx <;> omega
                    have hy16 : y < 16 := by unfold nibN at hy; split at hy <;> (try split at hy) <;> simp at hy <;> omega
                    obtain ⟨z, hz⟩ : ∃ z, 16 * x + y = z := ⟨_, rfl⟩
                    dsimp only at hr
                    rw [hz] at hr
                    have q59z := plain_any wr z (by omega)
                    have ub : bits .or .u8 ((x : Int) * 16) (y : Int) = (z : Int) := by
                      rw [show (x : Int) * 16 = ((16 * x : Nat) : Int) by omega, u8_or_nat (16 * x) y (by omega) (by omega), nat_join 4 (16 * x) y (by omega) (by omega), hz]
                    by_cases hpz : plainN z = true
                    · rw [hpz, if_pos rfl] at hr
                      rw [hpz] at q59z
                      have HR := Lib.hid hr
                      clear hr xg hx hy
                      go_wp2_with (first
                        | (go_at_call 59; refine q59.mono ?_; clear q59; rintro e w' ⟨rfl, rfl⟩)
                        | (go_at_call 60; refine qa.mono ?_; clear qa; rintro e w' ⟨rfl, rfl⟩)
                        | (go_at_call 60; refine qb.mono ?_; clear qb; rintro e w' ⟨rfl, rfl⟩)
                        | (go_at_call 59; refine q59z.mono ?_; clear q59z; rintro e w' ⟨rfl, rfl⟩))
                      go_ret2
                      exact fin _ HR.out hb
                    · have hpz' : plainN z = false := by simpa using hpz
                      rw [hpz', if_neg (by decide), Option.map_map] at hr
                      rw [hpz'] at q59z
                      have HR := Lib.hid hr
                      have v4 : IntKind.i64.wrap ((k2' : Int) + 1) = (k2' : Int) + 1 := IntWalk.i64_in _ (by omega)
                      clear hr xg hx hy fin
                      go_wp2_with (first
                        | (go_at_call 59; refine q59.mono ?_; clear q59; rintro e w' ⟨rfl, rfl⟩)
                        | (go_at_call 60; refine qa.mono ?_; clear qa; rintro e w' ⟨rfl, rfl⟩)
                        | (go_at_call 60; refine qb.mono ?_; clear qb; rintro e w' ⟨rfl, rfl⟩)
                        | (go_at_call 59; refine q59z.mono ?_; clear q59z; rintro e w' ⟨rfl, rfl⟩)
                        | (at_builtin; refine wpList_append_any _ rfl _ _ 22 rfl w.heap.size 5 i0 (.int .u8 0) 1 1 Try.underlying22 hi hz0 hz1 hz2 rfl (by decide) _ _ _ rfl (ho.alloc _) (wr.heap.size + 1) (some ⟨wr.heap.size, 0, none⟩) 1 1 _ rfl (reads_one wr z) ?c1 ?c2 ?c3 ?c4 ?_))
                      case c1 => exact byts_one _
                      case c2 => unfold maxLen; omega
                      case c3 => omega
                      case c4 => simp; omega
                      intro v2 w2 o2 g2 _
                      obtain ⟨G2, e2, rfl⟩ := own_shape o2
                      have hb2 : Below w.heap.size w w2 := (hb.alloc hsz _).grown g2 (by simp; omega) (own_base ho)
                      rw [← byts_append] at o2
                      go_wp2
                      go_roundw
                      case rel =>
                        refine ⟨k2' + 1, acc ++ [z], G2, e2, by omega, by go_num, by simp, by simp; omega, by simpa using o2, ?_, hb2⟩
                        rw [HR.out, show k + 2 + 1 = k2' + 1 by omega]
                        congr 1
                        funext z
                        simp
                      case measure => simp [intOf]; omega
            · have hr2 : readL l = none := by rw [hr, readL_bad d _ hp' h37]; rfl
              have z37 : ((d : Int) == 37) = false := by rw [beq_eq_false_iff_ne]; omega
              have z38 : ¬ ((d : Int) = 37) := by omega
              have HR := Lib.hid hr2
              clear hr hr2 hd xg
              go_wp2_with (go_at_call 59; refine q59.mono ?_; clear q59; rintro e w' ⟨rfl, rfl⟩)
              go_ret2
              exact fin _ HR.out hb
        · have hkn : k = n := by omega
          subst hkn
          have hr2 : readL l = some acc := by
            rw [hr, List.drop_eq_nil_of_le (by have := HN.out; omega), readL_nil]
            simp
          have hA := HA.out
          rw [hr2] at hA
          subst hA
          clear hr hr2 xg
          go_wp2
          go_ret2
          exact ⟨G, gc, rfl, ho, hb⟩

end Go.Proofs.Ytnghfnpmbjnjeaa
