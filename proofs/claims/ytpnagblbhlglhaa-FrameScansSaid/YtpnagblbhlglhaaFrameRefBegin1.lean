/- The document's Begin: the frame with which bytes begin. Conditions: those that each states. -/
import Derived.Test.YtpnagblbhlglhaaFrameFlip
import Derived.Deep.RegionHeld
namespace Go.Proofs.Ytpnagblbhlglhaa
open Go.RowKit

theorem list9 {b : List Nat} (h : 9 ≤ b.length) : ∃ a0 a1 a2 a3 a4 a5 a6 a7 a8 l, b = a0 :: a1 :: a2 :: a3 :: a4 :: a5 :: a6 :: a7 :: a8 :: l := by
  have step : ∀ {m : Nat} {b : List Nat}, m + 1 ≤ b.length → ∃ a l, b = a :: l ∧ m ≤ l.length := by
    intro m b h
    cases b with
    | nil => simp at h
    | cons a l => exact ⟨a, l, rfl, by simpa using h⟩
  obtain ⟨a0, l0, rfl, h1⟩ := step (m := 8) h
  obtain ⟨a1, l1, rfl, h2⟩ := step (m := 7) h1
  obtain ⟨a2, l2, rfl, h3⟩ := step (m := 6) h2
  obtain ⟨a3, l3, rfl, h4⟩ := step (m := 5) h3
  obtain ⟨a4, l4, rfl, h5⟩ := step (m := 4) h4
  obtain ⟨a5, l5, rfl, h6⟩ := step (m := 3) h5
  obtain ⟨a6, l6, rfl, h7⟩ := step (m := 2) h6
  obtain ⟨a7, l7, rfl, h8⟩ := step (m := 1) h7
  obtain ⟨a8, l8, rfl, h9⟩ := step (m := 0) h8
  exact ⟨_, _, _, _, _, _, _, _, _, _, rfl⟩
/-- A frame is what its bytes are, just where their sum is. -/
theorem frame_is {b : List Nat} {N : Nat} (hs : Small b) (hN : bgN b = N) (hl : 9 + N ≤ b.length) : frameN (b.getD 0 0) (bodyN b) = b.take (9 + N) ↔ crcSum (b.take 5 ++ bodyN b) = bgS b := by
  obtain ⟨k, a1, a2, a3, a4, s1, s2, s3, s4, l, rfl⟩ := list9 (show 9 ≤ b.length by omega)
  · skip
    have hbody := body_cons k a1 a2 a3 a4 s1 s2 s3 s4 l N hN
    have hlN : (l.take N).length = N := by rw [List.length_take]; simp at hl; omega
    have h4 : word4 N = [a1, a2, a3, a4] := by
      rw [← hN, bg_cons]
      exact word4_num4 a1 a2 a3 a4 (hs a1 (by simp)) (hs a2 (by simp)) (hs a3 (by simp)) (hs a4 (by simp))
    have hhead : headN k N = [k, a1, a2, a3, a4] := by unfold headN; rw [h4]
    have ht : (k :: a1 :: a2 :: a3 :: a4 :: s1 :: s2 :: s3 :: s4 :: l).take (9 + N) = [k, a1, a2, a3, a4] ++ [s1, s2, s3, s4] ++ l.take N := by
      rw [Nat.add_comm 9 N, take_nine]; rfl
    have h5 : (k :: a1 :: a2 :: a3 :: a4 :: s1 :: s2 :: s3 :: s4 :: l).take 5 = [k, a1, a2, a3, a4] := rfl
    have h0 : (k :: a1 :: a2 :: a3 :: a4 :: s1 :: s2 :: s3 :: s4 :: l).getD 0 0 = k := rfl
    rw [hbody, ht, h5, h0, bgS_cons]
    unfold frameN
    rw [hlN, hhead]
    obtain ⟨S, hS⟩ : ∃ S, crcSum ([k, a1, a2, a3, a4] ++ l.take N) = S := ⟨_, rfl⟩
    rw [hS]
    have hSl : S < 4294967296 := by rw [← hS]; exact crcSum_lt _
    have hw := word4_num4 s1 s2 s3 s4 (hs s1 (by simp)) (hs s2 (by simp)) (hs s3 (by simp)) (hs s4 (by simp))
    constructor
    · intro h
      have h1 := List.append_cancel_right h
      have h2 : word4 S = [s1, s2, s3, s4] := List.append_cancel_left h1
      have h3 := num4_word4 S hSl
      injection h2 with e1 h2
      injection h2 with e2 h2
      injection h2 with e3 h2
      injection h2 with e4 h2
      rw [e1, e2, e3, e4] at h3
      exact h3.symm
    · intro h
      rw [h, hw]

theorem strN_neF {l m : List Nat} (hl : Small l) (hm : Small m) (h : ¬ l = m) : ¬ (strN l).toList = (strN m).toList := strN_ne hl hm h
end Go.Proofs.Ytpnagblbhlglhaa
