/- wicketlaw16.known answers true, and leaves what was there; times counts. Conditions: those that each states. -/
import Derived.Test.YtbbjbbcakfmpgaaTakeI
namespace Go.Proofs.Ytbbjbbcakfmpgaa
open Go.RowKit

set_option maxHeartbeats 1000000 in
set_option maxRecDepth 100000 in
theorem knownB (w : World) : Calls Try.prog 8 #[] w fun e w' => e = .returned (.bool true) ∧ Below w.heap.size w w' := by
  go_enter Try.func8, Try.ntmps8
  go_wp2_with (go_at_call 6; refine (newI _).mono ?_; rintro e w1 ⟨rfl, n1, b1⟩)
  have hz : Reads (w1.alloc (.cells #[.int .i64 5, .int .i64 6, .int .i64 7] 3)) (w1.heap.size + 1) 1 (some ⟨w1.heap.size, 0, none⟩) 3 (ints [5, 6, 7]) := by
    refine ⟨rfl, fun _ => ⟨_, rfl, by simp, fun j u hu => ?_⟩⟩
    have hj : j < 3 := by have := (List.getElem?_eq_some_iff.1 hu).1; simpa [ints] using this
    rw [addr_add, (Blk.new w1 3 _).cell j, ← hu]
    match j, hj with
    | 0, _ => rfl
    | 1, _ => rfl
    | 2, _ => rfl
  have n1' := n1.below ((Below.refl w1.heap.size w1).alloc (Nat.le_refl _) (.cells #[.int .i64 5, .int .i64 6, .int .i64 7] 3)) (Nat.le_refl _)
  have hsend := sendI_n _ _ _ _ _ _ _ n1' _ _ 3 3 _ hz (by simp) (by simp) (by omega) (by omega)
  have s1 : w1.heap.size = w1.heap.size := rfl
  clear s1
  go_wp2_with (go_at_call 7; refine hsend.mono ?_; rintro e w2 ⟨rfl, A2, c2, n2, st2⟩)
  have m2 : NetI w2 w.heap.size w.heap.size A2 c2 [5, 6, 7] 3 := by simpa using n2
  have q2 : Below w.heap.size w w2 := (b1.alloc b1.size _).trans (StI.below n1' st2)
  clear hsend hz n1' n1 n2 b1 st2
  have ht := takeI_int w2 _ _ _ _ _ _ 1 m2 (by simp) (by simp) (by simp)
  go_wp2_with (go_at_call 11; refine ht.mono ?_; rintro e w3 ⟨rfl, A3, c3, n3, st3⟩)
  have m3 : NetI w3 w.heap.size w.heap.size A3 c3 [5, 7] 3 := n3
  have q3 : Below w.heap.size w w3 := q2.trans (StI.below m2 st3)
  have htw := twinI_int w3 _ _ _ _ _ _ 0 m3 (by simp) (by simp) (by simp) (by simp) (by simp)
  clear ht n3
  go_wp2_with (go_at_call 10; refine htw.mono ?_; rintro e w4 ⟨rfl, A4, c4, n4, st4⟩)
  have m4 : NetI w4 w.heap.size w.heap.size A4 c4 [5, 7, 5] 4 := n4
  have q4 : Below w.heap.size w w4 := q3.trans (StI.below m3 st4)
  clear htw n4 q2 q3 st3 st4
  have ha := atI_int w4 _ _ _ _ _ _ 2 m4 (by simp) (by simp) (by simp)
  go_wp2_with (go_at_call 26; refine ha.mono ?_; clear ha; rintro e w5 ⟨rfl, rfl⟩)
  have hao := atI_out w4 _ _ _ _ _ _ 3 m4 (by simp)
  go_wp2_with (go_at_call 26; refine hao.mono ?_; rintro e w5 ⟨rfl, rfl⟩)
  have hl := lenI w4 _ _ _ _ _ _ m4
  have hsn := sentI w4 _ _ _ _ _ _ m4
  clear hao
  go_wp2_with (first | (go_at_call 9; refine hl.mono ?_; rintro e w5 ⟨rfl, rfl⟩) | (go_at_call 12; refine hsn.mono ?_; rintro e w5 ⟨rfl, rfl⟩))
  go_ret
  exact ⟨rfl, q4⟩

/-- How often a number is in a list, from a place on. -/
def cnt (x : Int) : List Int → Nat
  | [] => 0
  | y :: l => (if y = x then 1 else 0) + cnt x l
theorem cnt_append (x : Int) (l m : List Int) : cnt x (l ++ m) = cnt x l + cnt x m := by
  induction l with
  | nil => simp [cnt]
  | cons y l ih => simp only [List.cons_append, cnt, ih]; omega
theorem cnt_le (x : Int) (l : List Int) : cnt x l ≤ l.length := by
  induction l with
  | nil => simp [cnt]
  | cons y l ih => simp only [cnt, List.length_cons]; split <;> omega
theorem cnt_take (x : Int) (l : List Int) (k : Nat) (h : k < l.length) : cnt x (l.take (k + 1)) = cnt x (l.take k) + (if geti l k = x then 1 else 0) := by
  rw [List.take_succ_eq_append_getElem h, cnt_append]
  simp [cnt, geti, List.getElem?_eq_getElem h]
theorem cnt_eraseIdx (x : Int) (l : List Int) (k : Nat) (h : k < l.length) : cnt x (l.eraseIdx k) + (if geti l k = x then 1 else 0) = cnt x l := by
  have e : l = l.take k ++ [l[k]] ++ l.drop (k + 1) := by simp
  have e2 : cnt x l = cnt x (l.take k) + cnt x [l[k]] + cnt x (l.drop (k + 1)) := by
    rw [← cnt_append, ← cnt_append, ← e]
  rw [List.eraseIdx_eq_take_drop_succ, cnt_append, e2]
  simp [cnt, geti, List.getElem?_eq_getElem h]
  omega

set_option maxHeartbeats 400000 in
theorem timesI (w : World) (B : Nat) (A : Option Addr) (n c : Nat) (x : Int) (xs : List Int) (h : Reads w B 1 A n (ints xs)) (hn : n ≤ 1000000) :
    Calls Try.prog 13 #[.slice A n c, .int .i64 x] w fun e w' => e = .returned (.int .i64 (cnt x xs)) ∧ w = w' := by
  have hl : xs.length = n := by have := h.1; rw [ints_length] at this; omega
  go_enter Try.func13, Try.ntmps13
  go_wp2
  go_loop [5, 6] (fun s i => ∃ k : Nat, k ≤ n ∧ i = .int .i64 k ∧ s = .int .i64 (cnt x (xs.take k))) (fun _ i => n - (intOf i).toNat)
  case atStart => exact ⟨0, Nat.zero_le _, rfl, rfl⟩
  case round =>
    obtain ⟨k, hk, rfl, rfl⟩ := hrel
    have hcl := cnt_le x (xs.take k)
    have hcl2 : (xs.take k).length ≤ k := List.length_take_le _ _
    by_cases hlt : k < n
    · obtain ⟨ad, u, rfl, hab, hxu, hcell⟩ := h.at_ hlt
      have hu : u = .int .i64 (geti xs k) := by
        simp [ints, List.getElem?_eq_getElem (show k < xs.length by omega)] at hxu
        rw [← hxu]
        simp [geti, List.getElem?_eq_getElem (show k < xs.length by omega)]
      subst hu
      have hct := cnt_take x xs k (by omega)
      by_cases hx : geti xs k = x
      · rw [if_pos hx] at hct
        have hx1 : (geti xs k == x) = true := by simp [hx]
        have H := Lib.hid hct
        clear hct hx
        go_wp2
        go_round
        case rel => exact ⟨k + 1, by omega, by go_num, by rw [H.out]; go_num⟩
        case measure => simp [intOf]; omega
      · rw [if_neg hx] at hct
        have hx1 : (geti xs k == x) = false := by simp [hx]
        have H := Lib.hid hct
        clear hct hx
        go_wp2
        go_round
        case rel => exact ⟨k + 1, by omega, by go_num, by rw [H.out]; go_num⟩
        case measure => simp [intOf]; omega
    · go_wp2
      go_ret
      exact ⟨ret_int (by rw [List.take_of_length_le (by omega)]), rfl⟩

end Go.Proofs.Ytbbjbbcakfmpgaa
