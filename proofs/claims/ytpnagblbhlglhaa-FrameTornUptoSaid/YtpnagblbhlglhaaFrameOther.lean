/- wicketlaw04.other: a frame with one bit other is none. Conditions: those that it states. -/
import Derived.Test.YtpnagblbhlglhaaFrameFlip
import Derived.Test.YtpnagblbhlglhaaFrameOne
import Derived.Test.YtpnagblbhlglhaaFrameScan
namespace Go.Proofs.Ytpnagblbhlglhaa
open Go.RowKit

theorem numO_any (w : World) (n : Int) : Calls Try.prog 55 #[.int .i64 n] w fun e w' => e = .returned (.int .i64 n) ∧ w = w' := by
  go_enter Try.func55, Try.ntmps55
  go_wp2
  go_ret
  exact ⟨rfl, rfl⟩
set_option maxHeartbeats 4000000 in
set_option maxRecDepth 100000 in
theorem other_any (w : World) (B : Nat) (k : Nat) (A : Option Addr) (n c : Nat) (b : List Nat) (bit : Int) (hk : k < 256) (h : Reads w B 1 A n (byts b)) (hs : Small b) (hB : B ≤ w.heap.size) (hn : n ≤ 1048576) (_hb0 : -9223372036854775808 ≤ bit) (_hb1 : bit ≤ 9223372036854775807) :
    Calls Try.prog 64 #[.agg #[.int .i64 k, .slice A n c], .int .i64 bit] w fun e w' => e = .returned (.bool true) ∧ Below w.heap.size w w' := by
  have hlen : b.length = n := by have := h.1; rw [byts_length] at this; omega
  have hal : Below w.heap.size w (w.alloc (.cells #[.int .i64 k, .slice A n c] 94)) := (Below.refl _ w).alloc (Nat.le_refl _) _
  have c60 := put_any (w.alloc (.cells #[.int .i64 k, .slice A n c] 94)) w.heap.size k A n c b hk ((h.more hB).below hal) hs hal.size hn
  have hfl0 : (frameN k b).length = 9 + n := by rw [frameN_len, hlen]
  have hsF : Small (frameN k b) := by
    unfold frameN
    exact small_append (small_append (headN_small hk) (word4_small _)) hs
  have hflip := flip_none k b hk hs
  rw [hlen] at hflip
  obtain ⟨F, hF⟩ : ∃ F, frameN k b = F := ⟨_, rfl⟩
  rw [hF] at c60 hfl0 hsF
  simp only [hF] at hflip
  obtain ⟨N, hN⟩ : ∃ N, 9 + n = N := ⟨_, rfl⟩
  rw [hN] at c60 hfl0 hflip
  have hN1 : 9 ≤ N := by omega
  have hN2 : N ≤ 2000000 := by omega
  have kf := Blk.new w 94 #[.int .i64 k, .slice A n c]
  have z0 := (kf.cell 0).trans rfl
  have z1 := (kf.cell 1).trans rfl
  have w8 : IntKind.i64.wrap (8 * (N : Int)) = 8 * (N : Int) := IntWalk.i64_in _ (by omega)
  have r1 : -(8 * (N : Int)) < bit.tmod (8 * (N : Int)) := Int.lt_tmod_of_pos bit (by omega)
  have r2 : bit.tmod (8 * (N : Int)) < 8 * (N : Int) := Int.tmod_lt_of_pos bit (by omega)
  have r3 : ((8 * (N : Int)) == 0) = false := by rw [beq_eq_false_iff_ne]; omega
  obtain ⟨r, hr⟩ : ∃ r, bit.tmod (8 * (N : Int)) = r := ⟨_, rfl⟩
  rw [hr] at r1 r2
  obtain ⟨p, hp⟩ : ∃ p : Nat, (p : Int) = if r < 0 then -r else r := by
    by_cases h : r < 0
    · exact ⟨(-r).toNat, by rw [if_pos h]; omega⟩
    · exact ⟨r.toNat, by rw [if_neg h]; omega⟩
  have hp8 : p < 8 * N := by by_cases h : r < 0 <;> simp only [h, if_true, if_false] at hp <;> omega
  have hno := hflip p hp8
  have hfl := flipB_set F p (by omega)
  have hln2 := flipB_length F p
  have hsf : Small (flipB F p) := flipB_small hsF p
  obtain ⟨y, hy⟩ : ∃ y, flipB F p = y := ⟨_, rfl⟩
  rw [hy] at hfl hln2 hsf hno
  obtain ⟨j, hjp⟩ : ∃ j, p / 8 = j := ⟨_, rfl⟩
  obtain ⟨s, hsp⟩ : ∃ s, p % 8 = s := ⟨_, rfl⟩
  have hj : j < N := by omega
  have hjx : j < F.length := by rw [hfl0]; exact hj
  obtain ⟨v, hv⟩ : ∃ v, F[j]'hjx = v := ⟨_, rfl⟩
  have hv8 : v < 256 := by rw [← hv]; exact hsF.at_ j hjx
  have hby : (byts F).set j (.int .u8 (v ^^^ 2 ^ s : Nat)) = byts y := by
    subst hjp; subst hsp; subst hv
    rw [hfl]
    simp [byts, List.map_set]
  have q1 : (p : Int).tdiv 8 = (j : Int) := by rw [Int.tdiv_eq_ediv_of_nonneg (by omega)]; omega
  have q2 : (p : Int).tmod 8 = (s : Int) := by rw [Int.tmod_eq_emod_of_nonneg (by omega)]; omega
  have q3 : (p : Int) / 8 = (j : Int) := by omega
  have q4 : (p : Int) % 8 = (s : Int) := by omega
  have q5 : (0 : Int) ≤ (j : Int) := by omega
  have q6 : (j : Int) < (N : Int) := by omega
  have q7 : (0 : Int) ≤ (s : Int) := by omega
  have q8 : (s : Int) < 8 := by omega
  have hpw : 2 ^ s < 256 := by rw [← hsp]; exact pow_small p
  have E3 : bits .xor .u8 (v : Int) ((2 : Int) ^ s % 256) = ((v ^^^ 2 ^ s : Nat) : Int) := by
    have e0 : ((2 ^ s : Nat) : Int) = (2 : Int) ^ s := by simp
    rw [show ((2 : Int) ^ s % 256) = ((2 ^ s : Nat) : Int) by rw [← e0]; obtain ⟨z, hz⟩ : ∃ z, 2 ^ s = z := ⟨_, rfl⟩; rw [hz] at hpw ⊢; omega]
    exact u8_xor_nat v (2 ^ s) hv8 hpw
  have C60 : Calls Try.prog 60 #[.int .i64 k, .slice A n c] (w.alloc (.cells #[.int .i64 k, .slice A n c] 94)) fun e w2 => ∃ g c2, e = .returned (.tuple #[.slice (some ⟨g, 0, none⟩) N c2, .int .i64 0]) ∧ w2.cell? ⟨g, j, none⟩ = some (.int .u8 v) ∧ w2.frozen? ⟨g, j, none⟩ = false ∧ N ≤ c2 ∧
      Hid (Reads (w2.setCell ⟨g, j, none⟩ (.int .u8 (v ^^^ 2 ^ s : Nat))).drew (w2.setCell ⟨g, j, none⟩ (.int .u8 (v ^^^ 2 ^ s : Nat))).drew.heap.size 1 (some ⟨g, 0, none⟩) N (byts y) ∧ Below w.heap.size w (w2.setCell ⟨g, j, none⟩ (.int .u8 (v ^^^ 2 ^ s : Nat))).drew) := by
    refine c60.mono ?_
    rintro e w2 ⟨A2, c2, rfl, ho, hb⟩
    obtain ⟨g, rfl, hg1, hg2, hcell, hfr, hset⟩ := own_open ho (by omega)
    refine ⟨g, c2, rfl, hcell j _ (by simp [byts, hjx, hv]), hfr j, (own_cap ho).1, Lib.hid ?_⟩
    have hb' := hal.trans (hb.mono hal.size)
    have h3 := hset j (.int .u8 (v ^^^ 2 ^ s : Nat)) hj
    rw [hby] at h3
    exact ⟨(Reads.of_own h3).drew, (hb'.setCell (p := ⟨g, j, none⟩) (Nat.le_trans hal.size hg1) _).drew⟩
  have hyl : y.length = N := by rw [hln2, hfl0]
  have HY := Lib.hid (And.intro hno (And.intro hsf hyl))
  clear hno hsf hyl hby hflip hfl hln2 hsF hy hF hfl0 c60 h hs hlen hjp hsp hpw hv hal
  by_cases hneg : r < 0
  · rw [if_pos hneg] at hp
    obtain rfl : r = -(p : Int) := by omega
    clear hp
    go_enter Try.func64, Try.ntmps64
    go_wp2_with (first
      | (go_at_call 60; refine C60.mono ?_; clear C60; rintro e w2 ⟨g, c2, rfl, cj, fj, hc2, HW⟩)
      | (go_at_call 55; refine (numO_any _ _).mono ?_; rintro e w6 ⟨rfl, rfl⟩))
    go_region
    obtain ⟨w3, hw3⟩ : ∃ w3, (w2.setCell ⟨g, j, none⟩ (.int .u8 (v ^^^ 2 ^ s : Nat))).drew = w3 := ⟨_, rfl⟩
    rw [hw3] at HW ⊢
    have c58 := one_any w3 w3.heap.size (some ⟨g, 0, none⟩) N c2 y HW.out.1 HY.out.2.1 (Nat.le_refl _) (by omega) hc2
    have C58 : Calls Try.prog 58 #[.slice (some ⟨g, 0, none⟩) N c2] w3 fun e w' => e = .returned (.tuple #[.agg #[.int .i64 0, .slice none 0 0], .int .i64 4]) ∧ Below w3.heap.size w3 w' := by
      refine c58.mono ?_
      rintro e w' ⟨hb, ⟨_, rfl⟩ | ⟨h, _⟩⟩
      · exact ⟨rfl, hb⟩
      · exact absurd h HY.out.1
    have hBw := HW.out.2
    clear hw3 c58 HW E3 cj fj
    go_wp2_with (first
      | (go_at_call 58; refine C58.mono ?_; clear C58; rintro e w4 ⟨rfl, b4⟩; have kg := Blk.new w4 94 #[.int .i64 0, .slice none 0 0]; have y0 := (kg.cell 0).trans rfl; have y1 := (kg.cell 1).trans rfl)
      | (go_at_call 55; refine (numO_any _ _).mono ?_; rintro e w6 ⟨rfl, rfl⟩))
    go_ret
    have h4 := hBw.trans (b4.mono hBw.size)
    exact ⟨rfl, h4.alloc h4.size _⟩
  · rw [if_neg hneg] at hp
    subst hp
    go_enter Try.func64, Try.ntmps64
    go_wp2_with (first
      | (go_at_call 60; refine C60.mono ?_; clear C60; rintro e w2 ⟨g, c2, rfl, cj, fj, hc2, HW⟩)
      | (go_at_call 55; refine (numO_any _ _).mono ?_; rintro e w6 ⟨rfl, rfl⟩))
    go_region
    obtain ⟨w3, hw3⟩ : ∃ w3, (w2.setCell ⟨g, j, none⟩ (.int .u8 (v ^^^ 2 ^ s : Nat))).drew = w3 := ⟨_, rfl⟩
    rw [hw3] at HW ⊢
    have c58 := one_any w3 w3.heap.size (some ⟨g, 0, none⟩) N c2 y HW.out.1 HY.out.2.1 (Nat.le_refl _) (by omega) hc2
    have C58 : Calls Try.prog 58 #[.slice (some ⟨g, 0, none⟩) N c2] w3 fun e w' => e = .returned (.tuple #[.agg #[.int .i64 0, .slice none 0 0], .int .i64 4]) ∧ Below w3.heap.size w3 w' := by
      refine c58.mono ?_
      rintro e w' ⟨hb, ⟨_, rfl⟩ | ⟨h, _⟩⟩
      · exact ⟨rfl, hb⟩
      · exact absurd h HY.out.1
    have hBw := HW.out.2
    clear hw3 c58 HW E3 cj fj
    go_wp2_with (first
      | (go_at_call 58; refine C58.mono ?_; clear C58; rintro e w4 ⟨rfl, b4⟩; have kg := Blk.new w4 94 #[.int .i64 0, .slice none 0 0]; have y0 := (kg.cell 0).trans rfl; have y1 := (kg.cell 1).trans rfl)
      | (go_at_call 55; refine (numO_any _ _).mono ?_; rintro e w6 ⟨rfl, rfl⟩))
    go_ret
    have h4 := hBw.trans (b4.mono hBw.size)
    exact ⟨rfl, h4.alloc h4.size _⟩
end Go.Proofs.Ytpnagblbhlglhaa
