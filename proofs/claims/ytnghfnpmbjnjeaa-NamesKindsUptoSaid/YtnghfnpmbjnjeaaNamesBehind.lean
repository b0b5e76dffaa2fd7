/- names.Behind: the least bytes above all that begin with some. Conditions: those that each states. -/
import Derived.Test.YtnghfnpmbjnjeaaNamesFn
namespace Go.Proofs.Ytnghfnpmbjnjeaa
open Go.RowKit

/-- How many bytes are left without the bytes 255 at the end, of the first k. -/
def cutK (l : List Nat) : Nat → Nat
  | 0 => 0
  | k + 1 => if l.getD k 0 = 255 then cutK l k else k + 1
theorem cutK_le (l : List Nat) : ∀ k, cutK l k ≤ k
  | 0 => Nat.le_refl _
  | k + 1 => by
    unfold cutK
    split
    · exact Nat.le_succ_of_le (cutK_le l k)
    · exact Nat.le_refl _
/-- The bytes behind: none where all are 255. -/
def behN (l : List Nat) : Option (List Nat) :=
  if cutK l l.length = 0 then none else some (l.take (cutK l l.length - 1) ++ [l.getD (cutK l l.length - 1) 0 + 1])
theorem cutK_last (l : List Nat) : ∀ k, 0 < cutK l k → l.getD (cutK l k - 1) 0 ≠ 255
  | 0, h => by simp [cutK] at h
  | k + 1, h => by
    unfold cutK at h ⊢
    split
    · rename_i h1
      rw [if_pos h1] at h
      exact cutK_last l k h
    · rename_i h1
      simpa using h1
theorem behN_small {l m : List Nat} (hs : Small l) (h : behN l = some m) : Small m := by
  unfold behN at h
  split at h
  · cases h
  · rename_i h0
    injection h with h
    subst h
    refine (hs.take _).append fun c hc => ?_
    have hle := cutK_le l l.length
    have hne := cutK_last l l.length (by omega)
    simp at hc
    subst hc
    have hk : cutK l l.length - 1 < l.length := by omega
    rw [List.getElem?_eq_getElem hk]
    have := hs.at_ _ hk
    rw [List.getD_eq_getElem?_getD, List.getElem?_eq_getElem hk] at hne
    simp at hne ⊢
    omega

set_option maxHeartbeats 2000000 in
set_option maxRecDepth 100000 in
theorem behind_any (w : World) (B : Nat) (A : Option Addr) (n c : Nat) (l : List Nat) (h : Reads w B 1 A n (byts l)) (hs : Small l) (hB : B ≤ w.heap.size) (hcap : n ≤ c) (hn : n ≤ 140737488355328) :
    Calls Try.prog 12 #[.slice A n c] w fun e w' => ∃ A2 c2 m, e = .returned (.tuple #[.slice A2 m.length m.length, .bool (behN l).isSome]) ∧ m = (behN l).getD [] ∧ w'.ownsRow w.heap.size 5 1 (.slice A2 m.length c2) m.length (byts m) ∧ Below w.heap.size w w' := by
  have hl : l.length = n := by have := h.1; rw [byts_length] at this; omega
  obtain ⟨b, hb⟩ : ∃ b, behN l = b := ⟨_, rfl⟩
  rw [hb]
  unfold behN at hb
  rw [hl] at hb
  have hcl := cutK_le l n
  have HB := Lib.hid hb
  clear hb
  go_enter Try.func12, Try.ntmps12
  go_wp2
  go_step3
  go_wp2
  go_step3
  go_wp2
  go_loop [4] (fun iv => ∃ k : Nat, k ≤ n ∧ iv = .int .i64 k ∧ cutK l n = cutK l k) (fun iv => (intOf iv).toNat)
  case atStart => exact ⟨n, Nat.le_refl _, rfl, rfl⟩
  case round =>
    obtain ⟨k, hk, rfl, hck⟩ := hrel
    rcases Nat.eq_zero_or_pos k with h0 | h0
    · subst h0
      have HC := Lib.hid hck
      clear hck
      go_wp2
      go_ret2
      have hb := HB.out
      rw [HC.out, if_pos (show cutK l 0 = 0 from rfl)] at hb
      subst hb
      exact ⟨none, 0, [], rfl, rfl, World.ownsRow_nil _ _ _ _, Below.refl _ _⟩
    · obtain ⟨j, rfl⟩ : ∃ j, k = j + 1 := ⟨k - 1, by omega⟩
      have hj : j < l.length := by omega
      obtain ⟨ad, v, rfl, hab, hxv, hcell⟩ := h.at_ (show j < n by omega)
      obtain ⟨d, hd⟩ : ∃ d, l[j] = d := ⟨_, rfl⟩
      have hd8 : d < 256 := by rw [← hd]; exact hs.at_ _ hj
      obtain rfl : v = .int .u8 (d : Nat) := by
        simp [byts, List.getElem?_eq_getElem hj, hd] at hxv
        exact hxv.symm
      have hgd : l.getD j 0 = d := by rw [List.getD_eq_getElem?_getD, List.getElem?_eq_getElem hj, hd]; rfl
      have u1 : IntKind.i64.wrap ((j + 1 : Nat) - 1 : Int) = (j : Int) := by rw [IntWalk.i64_in _ (by omega)]; omega
      have u0 : (((j + 1 : Nat) : Int) == 0) = false := by rw [beq_eq_false_iff_ne]; omega
      have k0 : (0 : Int) ≤ (j : Int) := by omega
      have k1 : (j : Int) < (n : Int) := by omega
      by_cases h255 : d = 255
      · have hstep : cutK l (j + 1) = cutK l j := by simp only [cutK, hgd, h255, if_true]
        have q1 : ¬ (d : Int) < 255 := by omega
        have HC := Lib.hid (hck.trans hstep)
        clear hck hstep hd hxv hgd
        go_wp2
        go_round
        case rel => exact ⟨j, by omega, by go_num, HC.out⟩
        case measure => simp [intOf]
      · have hstep : cutK l (j + 1) = j + 1 := by simp only [cutK, hgd, h255, if_false]
        have q1 : (d : Int) < 255 := by omega
        have HC := Lib.hid (hck.trans hstep)
        have HG := Lib.hid hgd
        have hbyt : (byts (l.take (j + 1)))[j]? = some (.int .u8 (d : Nat)) := by simp [byts, List.getElem?_take, List.getElem?_eq_getElem hj, hd]
        have hr := h.upto (k := j + 1) (by omega)
        rw [Nat.mul_one, ← byts_take] at hr
        have q57 := own_any w B (some ad) (j + 1) c (l.take (j + 1)) hr hB (by omega)
        have u2 : (0 : Int) ≤ ((j + 1 : Nat) : Int) := by omega
        have u3 : ((j + 1 : Nat) : Int) ≤ (c : Int) := by omega
        have u4 : ((d : Int) + 1) % 256 = (d : Int) + 1 := by omega
        have u5 : (j : Int) < ((j + 1 : Nat) : Int) := by omega
        clear hck hstep hd hxv hgd
        go_wp2_with (go_at_call 57; refine q57.mono ?_; clear q57; rintro e w2 ⟨A2, c2, rfl, o2, b2⟩; obtain ⟨g, rfl, hg1, hg2, hcO, hfO, hsO⟩ := own_open o2 (by omega); have e1 := hcO j _ hbyt; have e2 := hfO j)
        simp (config := { zetaDelta := true }) only [Exit.noGoto, Exit.then, Exit.inBlock]
        go_ret2
        have hb := HB.out
        rw [HC.out, if_neg (by omega), Nat.add_sub_cancel, HG.out] at hb
        subst hb
        have hset := hsO j (.int .u8 ((d : Int) + 1)) (by omega)
        have hlen : (l.take j ++ [d + 1]).length = j + 1 := by rw [List.length_append, List.length_take, Nat.min_eq_left (by omega)]; rfl
        have hxs : (byts (l.take (j + 1))).set j (.int .u8 ((d : Int) + 1)) = byts (l.take j ++ [d + 1]) := by
          rw [List.take_succ_eq_append_getElem hj, byts_append, byts_append, List.set_append_right _ _ (by rw [byts_length, List.length_take]; omega)]
          congr 1
          rw [byts_length, List.length_take, Nat.min_eq_left (by omega), Nat.sub_self]
          rfl
        rw [hxs] at hset
        refine ⟨some ⟨g, 0, none⟩, c2, _, ?_, rfl, ?_, b2.setCell (p := ⟨g, j, none⟩) hg1 _⟩
        · show _ = Ending.returned (.tuple #[.slice (some ⟨g, 0, none⟩) (l.take j ++ [d + 1]).length (l.take j ++ [d + 1]).length, .bool true])
          rw [hlen]
          rfl
        · show World.ownsRow _ _ _ _ (.slice (some ⟨g, 0, none⟩) (l.take j ++ [d + 1]).length c2) (l.take j ++ [d + 1]).length (byts (l.take j ++ [d + 1]))
          rw [hlen]
          exact hset

end Go.Proofs.Ytnghfnpmbjnjeaa
