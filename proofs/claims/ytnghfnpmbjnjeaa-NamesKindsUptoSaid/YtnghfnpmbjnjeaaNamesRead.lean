/- names.Read, names.Table. Conditions: those that each states. -/
import Derived.Test.YtnghfnpmbjnjeaaNamesFn
namespace Go.Proofs.Ytnghfnpmbjnjeaa
open Go.RowKit

def plainN (c : Nat) : Bool := decide (33 ≤ c) && decide (c ≤ 126) && decide (c ≠ 37) && decide (c ≠ 44) && decide (c ≠ 59)
def nibN (c : Nat) : Option Nat := if 48 ≤ c ∧ c ≤ 57 then some (c - 48) else if 65 ≤ c ∧ c ≤ 70 then some (c - 55) else none
/-- What a text says, from its first letter on. -/
def readF : Nat → List Nat → Option (List Nat)
  | 0, _ => some []
  | _ + 1, [] => some []
  | n + 1, c :: r => if plainN c = true then (readF n r).map (c :: ·) else if c ≠ 37 then none else match r with
    | h :: l :: r' => match nibN h, nibN l with
      | some x, some y => if plainN (16 * x + y) = true then none else (readF n r').map ((16 * x + y) :: ·)
      | _, _ => none
    | _ => none

set_option maxHeartbeats 1000000 in
theorem plain_any (w : World) (c : Nat) (hc : c < 256) : Calls Try.prog 59 #[.int .u8 c] w fun e w' => e = .returned (.bool (plainN c)) ∧ w = w' := by
  by_cases h1 : c < 33
  · have e : plainN c = false := by simp [plainN]; omega
    rw [e]
    have q : (c : Int) < 33 := by omega
    go_enter Try.func59, Try.ntmps59
    go_wp2
    go_ret
    exact ⟨rfl, rfl⟩
  · by_cases h2 : 126 < c
    · have e : plainN c = false := by simp [plainN]; omega
      rw [e]
      have q : ¬ (c : Int) < 33 := by omega
      have q2 : (126 : Int) < (c : Int) := by omega
      go_enter Try.func59, Try.ntmps59
      go_wp2
      go_ret
      exact ⟨rfl, rfl⟩
    · have q : ¬ (c : Int) < 33 := by omega
      have q2 : ¬ (126 : Int) < (c : Int) := by omega
      by_cases h3 : c = 37
      · subst h3
        go_enter Try.func59, Try.ntmps59
        go_wp2
        go_ret
        exact ⟨rfl, rfl⟩
      · by_cases h4 : c = 44
        · subst h4
          go_enter Try.func59, Try.ntmps59
          go_wp2
          go_ret
          exact ⟨rfl, rfl⟩
        · by_cases h5 : c = 59
          · subst h5
            go_enter Try.func59, Try.ntmps59
            go_wp2
            go_ret
            exact ⟨rfl, rfl⟩
          · have e : plainN c = true := by simp [plainN]; omega
            rw [e]
            have e1 : ((c : Int) == 37) = false := by rw [beq_eq_false_iff_ne]; omega
            have e2 : ((c : Int) == 44) = false := by rw [beq_eq_false_iff_ne]; omega
            have e3 : ((c : Int) == 59) = false := by rw [beq_eq_false_iff_ne]; omega
            go_enter Try.func59, Try.ntmps59
            go_wp2
            go_ret
            exact ⟨rfl, rfl⟩

set_option maxHeartbeats 1000000 in
theorem nibble_any (w : World) (c : Nat) (hc : c < 256) : Calls Try.prog 60 #[.int .u8 c] w fun e w' => e = .returned (.tuple #[.int .u8 ((nibN c).getD 0), .bool (nibN c).isSome]) ∧ w = w' := by
  by_cases h1 : 48 ≤ c ∧ c ≤ 57
  · have e : nibN c = some (c - 48) := by unfold nibN; rw [if_pos h1]
    rw [e]
    have q : decide ((48 : Int) ≤ (c : Int)) = true := decide_eq_true (by omega)
    have q2 : (c : Int) ≤ 57 := by omega
    have u : ((c : Int) - 48) % 256 = ((c - 48 : Nat) : Int) := by omega
    go_enter Try.func60, Try.ntmps60
    go_wp2
    go_ret2
    refine ⟨congrArg (fun z : Int => Ending.returned (.tuple #[.int .u8 z, .bool true])) (?_ : _ = ((c - 48 : Nat) : Int)), rfl⟩
    omega
  · by_cases h2 : 65 ≤ c ∧ c ≤ 70
    · have e : nibN c = some (c - 55) := by unfold nibN; rw [if_neg h1, if_pos h2]
      rw [e]
      have q : decide ((48 : Int) ≤ (c : Int)) = true := decide_eq_true (by omega)
      have q2 : ¬ (c : Int) ≤ 57 := by omega
      have q3 : decide ((65 : Int) ≤ (c : Int)) = true := decide_eq_true (by omega)
      have q4 : (c : Int) ≤ 70 := by omega
      have u : (((c : Int) - 65) % 256 + 10) % 256 = ((c - 55 : Nat) : Int) := by omega
      have u2 : ((c : Int) - 65 + 10) % 256 = ((c - 55 : Nat) : Int) := by omega
      go_enter Try.func60, Try.ntmps60
      go_wp2
      go_ret2
      refine ⟨congrArg (fun z : Int => Ending.returned (.tuple #[.int .u8 z, .bool true])) (?_ : _ = ((c - 55 : Nat) : Int)), rfl⟩
      omega
    · have e : nibN c = none := by unfold nibN; rw [if_neg h1, if_neg h2]
      rw [e]
      by_cases h3 : 48 ≤ c
      · have q : decide ((48 : Int) ≤ (c : Int)) = true := decide_eq_true (by omega)
        have q2 : ¬ (c : Int) ≤ 57 := by omega
        by_cases h4 : 65 ≤ c
        · have q3 : decide ((65 : Int) ≤ (c : Int)) = true := decide_eq_true (by omega)
          have q4 : ¬ (c : Int) ≤ 70 := by omega
          go_enter Try.func60, Try.ntmps60
          go_wp2
          go_ret2
          exact ⟨rfl, rfl⟩
        · have q3 : decide ((65 : Int) ≤ (c : Int)) = false := decide_eq_false (by omega)
          go_enter Try.func60, Try.ntmps60
          go_wp2
          go_ret2
          exact ⟨rfl, rfl⟩
      · have q : decide ((48 : Int) ≤ (c : Int)) = false := decide_eq_false (by omega)
        have q3 : decide ((65 : Int) ≤ (c : Int)) = false := decide_eq_false (by omega)
        go_enter Try.func60, Try.ntmps60
        go_wp2
        go_ret2
        exact ⟨rfl, rfl⟩

end Go.Proofs.Ytnghfnpmbjnjeaa
