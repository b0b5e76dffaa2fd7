/- Small functions of names and of the document's answer. Conditions: those that each states. -/
import Derived.Test.YtnghfnpmbjnjeaaNamesTable
import Derived.Test.YtnghfnpmbjnjeaaNamesText
namespace Go.Proofs.Ytnghfnpmbjnjeaa
open Go.RowKit

set_option maxHeartbeats 1000000 in
theorem refPlain_any (w : World) (c : Nat) : Calls Try.prog 62 #[.int .u8 c] w fun e w' => e = .returned (.bool (plainN c)) ∧ w = w' := by
  by_cases h1 : 33 ≤ c
  · have q1 : decide ((33 : Int) ≤ (c : Int)) = true := decide_eq_true (by omega)
    by_cases h2 : c ≤ 126
    · have q2 : decide ((c : Int) ≤ 126) = true := decide_eq_true (by omega)
      have q2' : (c : Int) ≤ 126 := by omega
      by_cases h3 : c = 37
      · subst h3
        go_enter Try.func62, Try.ntmps62
        go_wp2
        go_ret
        exact ⟨rfl, rfl⟩
      · have e1 : ((c : Int) != 37) = true := by rw [bne_iff_ne]; omega
        by_cases h4 : c = 44
        · subst h4
          go_enter Try.func62, Try.ntmps62
          go_wp2
          go_ret
          exact ⟨rfl, rfl⟩
        · have e2 : ((c : Int) != 44) = true := by rw [bne_iff_ne]; omega
          by_cases h5 : c = 59
          · subst h5
            go_enter Try.func62, Try.ntmps62
            go_wp2
            go_ret
            exact ⟨rfl, rfl⟩
          · have e3 : ((c : Int) != 59) = true := by rw [bne_iff_ne]; omega
            have e : plainN c = true := by simp [plainN]; omega
            rw [e]
            go_enter Try.func62, Try.ntmps62
            go_wp2
            go_ret
            exact ⟨rfl, rfl⟩
    · have q2 : decide ((c : Int) ≤ 126) = false := decide_eq_false (by omega)
      have q2' : ¬ (c : Int) ≤ 126 := by omega
      have e : plainN c = false := by simp [plainN]; omega
      rw [e]
      go_enter Try.func62, Try.ntmps62
      go_wp2
      go_ret
      exact ⟨rfl, rfl⟩
  · have q1 : decide ((33 : Int) ≤ (c : Int)) = false := decide_eq_false (by omega)
    have e : plainN c = false := by simp [plainN]; omega
    rw [e]
    go_enter Try.func62, Try.ntmps62
    go_wp2
    go_ret
    exact ⟨rfl, rfl⟩

theorem ret_u8 {x : Int} {n : Nat} (h : x = n) : Ending.returned (.int .u8 x) = .returned (.int .u8 (n : Int)) := by rw [h]

set_option maxHeartbeats 1000000 in
theorem value_any (w : World) (c : Nat) (hc : c < 256) : Calls Try.prog 61 #[.int .u8 c] w fun e w' => e = .returned (.int .u8 (valN c)) ∧ w = w' := by
  obtain ⟨v, hv⟩ : ∃ v, valN c = v := ⟨_, rfl⟩
  rw [hv]
  unfold valN at hv
  by_cases h1 : 65 ≤ c
  · have q1 : decide ((65 : Int) ≤ (c : Int)) = true := decide_eq_true (by omega)
    by_cases h2 : c ≤ 70
    · have q2 : (c : Int) ≤ 70 := by omega
      rw [if_pos ⟨h1, h2⟩] at hv
      have V := Lib.hid hv
      clear hv
      go_enter Try.func61, Try.ntmps61
      go_wp2
      go_ret
      have hv := V.out
      exact ⟨ret_u8 (by omega), rfl⟩
    · have q2 : ¬ (c : Int) ≤ 70 := by omega
      rw [if_neg (by omega)] at hv
      have u : ((c : Int) - 48) % 256 = (v : Int) := by omega
      clear hv
      go_enter Try.func61, Try.ntmps61
      go_wp2
      go_ret
      exact ⟨ret_u8 (by omega), rfl⟩
  · have q1 : decide ((65 : Int) ≤ (c : Int)) = false := decide_eq_false (by omega)
    rw [if_neg (by omega)] at hv
    have u : ((c : Int) - 48) % 256 = (v : Int) := by omega
    clear hv
    go_enter Try.func61, Try.ntmps61
    go_wp2
    go_ret
    exact ⟨ret_u8 (by omega), rfl⟩

set_option maxHeartbeats 1000000 in
theorem digit_any (w : World) (n : Nat) (hn : n < 16) : Calls Try.prog 63 #[.int .u8 n] w fun e w' => e = .returned (.int .u8 (digN n)) ∧ w = w' := by
  obtain ⟨v, hv⟩ : ∃ v, digN n = v := ⟨_, rfl⟩
  rw [hv]
  unfold digN at hv
  by_cases h1 : n < 10
  · have q1 : (n : Int) < 10 := by omega
    rw [if_pos h1] at hv
    have V := Lib.hid hv
    clear hv
    go_enter Try.func63, Try.ntmps63
    go_wp2
    go_ret
    have hv := V.out
    exact ⟨ret_u8 (by omega), rfl⟩
  · have q1 : ¬ (n : Int) < 10 := by omega
    rw [if_neg h1] at hv
    have V := Lib.hid hv
    clear hv
    go_enter Try.func63, Try.ntmps63
    go_wp2
    go_ret
    have hv := V.out
    exact ⟨ret_u8 (by omega), rfl⟩

def keyN (n : Nat) : Bool := decide (1 ≤ n) && decide (n ≤ 64)
section
variable (w : World) (A : Option Addr) (n c : Nat)
theorem key_walk (f : FuncId) (hf : f = 27 ∨ f = 28) : Calls Try.prog f #[.slice A n c] w fun e w' => e = .returned (.bool (keyN n)) ∧ w = w' := by
  unfold keyN
  by_cases h1 : 1 ≤ n
  · have q1 : decide ((1 : Int) ≤ (n : Int)) = true := decide_eq_true (by omega)
    have e : (decide (1 ≤ n) && decide (n ≤ 64)) = decide ((n : Int) ≤ 64) := by
      rw [decide_eq_true h1, Bool.true_and, decide_eq_decide]; omega
    rw [e]
    rcases hf with rfl | rfl
    · go_enter Try.func27, Try.ntmps27
      go_wp2
      go_ret
      exact ⟨rfl, rfl⟩
    · go_enter Try.func28, Try.ntmps28
      go_wp2
      go_ret
      exact ⟨rfl, rfl⟩
  · have q1 : decide ((1 : Int) ≤ (n : Int)) = false := decide_eq_false (by omega)
    have e : (decide (1 ≤ n) && decide (n ≤ 64)) = false := by rw [decide_eq_false h1, Bool.false_and]
    rw [e]
    rcases hf with rfl | rfl
    · go_enter Try.func27, Try.ntmps27
      go_wp2
      go_ret
      exact ⟨rfl, rfl⟩
    · go_enter Try.func28, Try.ntmps28
      go_wp2
      go_ret
      exact ⟨rfl, rfl⟩
theorem value_walk (f : FuncId) (hf : f = 29 ∨ f = 30) : Calls Try.prog f #[.slice A n c] w fun e w' => e = .returned (.bool (decide ((n : Int) ≤ 256))) ∧ w = w' := by
  rcases hf with rfl | rfl
  · go_enter Try.func29, Try.ntmps29
    go_wp2
    go_ret
    exact ⟨rfl, rfl⟩
  · go_enter Try.func30, Try.ntmps30
    go_wp2
    go_ret
    exact ⟨rfl, rfl⟩
end

set_option maxHeartbeats 2000000 in
set_option maxRecDepth 100000 in
theorem refTable_any (w : World) (l : List Nat) (hs : Small l) (hn : l.length ≤ 140737488355328) :
    Calls Try.prog 26 #[.string (strN l)] w fun e w' => e = .returned (.bool (tableN l)) ∧ w = w' := by
  have xs := strN_size l
  obtain ⟨X, hX, xg⟩ : ∃ X, strN l = X ∧ ∀ (k : Nat) (hk : k < l.length) (h : k < X.size), (X[k]'h).toNat = l[k] := ⟨_, rfl, fun k hk => strN_get l hs k hk⟩
  obtain ⟨n, hnl⟩ : ∃ n, l.length = n := ⟨_, rfl⟩
  obtain ⟨R, hR⟩ : ∃ R, tableN l = R := ⟨_, rfl⟩
  rw [hR]
  unfold tableN at hR
  rw [hX] at xs ⊢
  rw [hnl] at xs hn hR
  have HN := Lib.hid hnl
  have hR0 : ∀ x, l.all letN = x → R = (!(decide (n < 1) || decide (16 < n)) && x) := fun x hx => by rw [← hR, hx]
  have HR := Lib.hid hR0
  clear hX hnl hR hR0
  go_enter Try.func26, Try.ntmps26
  go_wp2
  go_loop [3] (fun iv => ∃ k : Nat, k ≤ n ∧ iv = .int .i64 k ∧ l.all letN = (l.drop k).all letN) (fun iv => n - (intOf iv).toNat)
  case atStart => exact ⟨0, Nat.zero_le _, rfl, rfl⟩
  case round =>
    obtain ⟨k, hk, rfl, hr2⟩ := hrel
    by_cases hlt : k < n
    · have hkl : k < l.length := by have := HN.out; omega
      obtain ⟨d, hd⟩ : ∃ d, l[k] = d := ⟨_, rfl⟩
      have g0 : ∀ h : k < X.size, (X[k]'h).toNat = d := fun h => by rw [xg k hkl, hd]
      rw [List.drop_eq_getElem_cons hkl, hd, List.all_cons] at hr2
      have k0 : (0 : Int) ≤ (k : Int) := by omega
      have k1 : (k : Int) < (n : Int) := by omega
      by_cases hg : letN d = true
      · rw [hg, Bool.true_and] at hr2
        have HR2 := Lib.hid hr2
        by_cases g1 : 97 ≤ d ∧ d ≤ 122
        · have p1 : decide ((97 : Int) ≤ (d : Int)) = true := decide_eq_true (by omega)
          have p2 : decide ((d : Int) ≤ 122) = true := decide_eq_true (by omega)
          have p2' : (d : Int) ≤ 122 := by omega
          clear hr2 hd hg xg
          go_wp2
          go_round
          case rel => exact ⟨k + 1, by omega, by go_num, HR2.out⟩
          case measure => simp [intOf]; omega
        · have g2 : 48 ≤ d ∧ d ≤ 57 := by
            simp [letN] at hg
            omega
          have p1 : decide ((97 : Int) ≤ (d : Int)) = false := decide_eq_false (by omega)
          have p3 : decide ((48 : Int) ≤ (d : Int)) = true := decide_eq_true (by omega)
          have p4 : (d : Int) ≤ 57 := by omega
          clear hr2 hd hg xg
          go_wp2
          go_round
          case rel => exact ⟨k + 1, by omega, by go_num, HR2.out⟩
          case measure => simp [intOf]; omega
      · have hg' : letN d = false := by simpa using hg
        rw [hg', Bool.false_and] at hr2
        have e : R = false := by rw [HR.out _ hr2, Bool.and_false]
        subst e
        have g2 : (d < 97 ∨ 122 < d) ∧ (d < 48 ∨ 57 < d) := by
          simp [letN] at hg'
          omega
        clear HR hd hg hg' xg hr2
        by_cases g3 : d < 97
        · have p1 : decide ((97 : Int) ≤ (d : Int)) = false := decide_eq_false (by omega)
          by_cases g4 : d < 48
          · have p3 : decide ((48 : Int) ≤ (d : Int)) = false := decide_eq_false (by omega)
            go_wp2
            go_ret
            exact ⟨rfl, rfl⟩
          · have p3 : decide ((48 : Int) ≤ (d : Int)) = true := decide_eq_true (by omega)
            have p4 : ¬ (d : Int) ≤ 57 := by omega
            go_wp2
            go_ret
            exact ⟨rfl, rfl⟩
        · have p1 : decide ((97 : Int) ≤ (d : Int)) = true := decide_eq_true (by omega)
          have p2 : decide ((d : Int) ≤ 122) = false := decide_eq_false (by omega)
          have p2' : ¬ (d : Int) ≤ 122 := by omega
          have p3 : decide ((48 : Int) ≤ (d : Int)) = true := decide_eq_true (by omega)
          have p4 : ¬ (d : Int) ≤ 57 := by omega
          go_wp2
          go_ret
          exact ⟨rfl, rfl⟩
    · have hkn : k = n := by omega
      subst hkn
      rw [List.drop_eq_nil_of_le (by have := HN.out; omega)] at hr2
      have e := HR.out _ hr2
      clear HR hr2 xg
      by_cases h1 : 1 ≤ k
      · have p1 : decide ((1 : Int) ≤ (k : Int)) = true := decide_eq_true (by omega)
        have e2 : R = decide ((k : Int) ≤ 16) := by
          rw [e, decide_eq_false (show ¬ k < 1 by omega), Bool.false_or, List.all_nil, Bool.and_true, ← decide_not, decide_eq_decide]
          omega
        have E2 := Lib.hid e2
        clear e e2
        go_wp2
        go_ret
        rw [E2.out]
        exact ⟨rfl, rfl⟩
      · have p1 : decide ((1 : Int) ≤ (k : Int)) = false := decide_eq_false (by omega)
        have e2 : R = false := by rw [e, decide_eq_true (show k < 1 by omega)]; rfl
        subst e2
        clear e
        go_wp2
        go_ret
        exact ⟨rfl, rfl⟩

end Go.Proofs.Ytnghfnpmbjnjeaa
