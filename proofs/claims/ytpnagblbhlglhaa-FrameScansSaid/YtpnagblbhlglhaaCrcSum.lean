/- crc.Sum, More, Holds; the reference's step, More, Sum, Zeros. Conditions: those that each states. -/
import Derived.Test.YtpnagblbhlglhaaCrcRun
namespace Go.Proofs.Ytpnagblbhlglhaa
open Go.RowKit

theorem not_u32 (x : Nat) (h : x < 4294967296) : bits .xor .u32 IntKind.u32.max (x : Int) = ((4294967295 - x : Nat) : Int) := by
  have h1 := u32_xor_nat 4294967295 x (by decide) h
  rw [compl_xor h, Nat.xor_comm x]
  rw [← h1, show IntKind.u32.max = ((4294967295 : Nat) : Int) by decide]
theorem ones_u32 (x : Nat) (h : x < 4294967296) : bits .xor .u32 (x : Int) 4294967295 = ((4294967295 - x : Nat) : Int) := by
  have h1 := u32_xor_nat x 4294967295 h (by decide)
  rw [compl_xor h]
  exact h1

/-- The register behind the first k lists. -/
def reg2To (ls : List (List Nat)) (k : Nat) : Nat := reg 4294967295 (ls.take k).flatten
theorem reg2To_succ (ls : List (List Nat)) (k : Nat) (h : k < ls.length) : reg2To ls (k + 1) = reg (reg2To ls k) ls[k] := by
  unfold reg2To
  rw [List.take_succ_eq_append_getElem h, List.flatten_append, reg_append]
  simp
theorem Small_flatten {ls : List (List Nat)} (h : ∀ k (hk : k < ls.length), Small ls[k]) : Small ls.flatten := by
  intro c hc
  obtain ⟨l, hl, hcl⟩ := List.mem_flatten.1 hc
  obtain ⟨k, hk, rfl⟩ := List.getElem_of_mem hl
  exact h k hk c hcl
theorem reg2To_lt {ls : List (List Nat)} (k : Nat) (h : ∀ k (hk : k < ls.length), Small ls[k]) : reg2To ls k < 4294967296 := by
  refine reg_lt (by decide) ?_
  intro c hc
  obtain ⟨l, hl, hcl⟩ := List.mem_flatten.1 hc
  obtain ⟨j, hj, rfl⟩ := List.getElem_of_mem (List.mem_of_mem_take hl)
  exact h j hj c hcl

set_option maxHeartbeats 1000000 in
set_option maxRecDepth 100000 in
theorem sum_any (w : World) (B : Nat) (A : Option Addr) (n c : Nat) (ls : List (List Nat)) (h : Reads2 w B A n ls) (hB : B ≤ w.heap.size) (hn : n ≤ 140737488355328) :
    Calls Try.prog 15 #[.slice A n c] w fun e w' => e = .returned (.int .u32 (crcSum ls.flatten)) ∧ Below w.heap.size w w' := by
  have hsm : ∀ k (hk : k < ls.length), Small ls[k] := fun k hk => by obtain ⟨_, _, _, _, _, _, _, hs, _⟩ := h.at_ k hk; exact hs
  have hlen := h.len
  have HL := Lib.hid hlen
  clear hlen
  go_enter Try.func15, Try.ntmps15
  go_wp2
  go_loopw [3, 8] (fun sv iv wr => ∃ k : Nat, k ≤ n ∧ iv = .int .i64 k ∧ sv = .int .u32 (reg2To ls k) ∧ Below w.heap.size w wr) (fun _ iv _ => n - (intOf iv).toNat)
  case atStart => exact ⟨0, by omega, rfl, rfl, Below.refl _ _⟩
  case round =>
    obtain ⟨k, hk, rfl, rfl, hb⟩ := hrel
    have q1 := reg2To_lt k hsm
    by_cases hlt : k < n
    · have hl := HL.out
      have hk2 : k < ls.length := by omega
      obtain ⟨ad, A', c', rfl, hab, hc, hr, hs, hm⟩ := (h.below (hb.mono hB)).at_ k hk2
      have hstep := reg2To_succ ls k hk2
      have HF := Lib.hid hstep
      have hrun := fun (s : Nat) (hs2 : s < 4294967296) => run_any wr B A' _ c' s _ hr (by have := hb.size; omega) hs hs2 (by omega)
      clear hstep hl
      go_wp2_with (go_at_call 66; refine (hrun _ q1).mono ?_; rintro e w1 ⟨rfl, b1⟩)
      go_roundw
      case rel => exact ⟨k + 1, by omega, by go_num, by rw [HF.out], hb.trans (b1.mono hb.size)⟩
      case measure => simp [intOf]; omega
    · have hk3 : reg2To ls k = reg 4294967295 ls.flatten := by
        have : k = ls.length := by have := HL.out; omega
        rw [this]; unfold reg2To; rw [List.take_length]
      have HF := Lib.hid hk3
      clear hk3
      go_wp2
      go_ret
      refine ⟨ret_int ?_, hb⟩
      rw [not_u32 _ q1, HF.out]
      unfold crcSum crcMore
      rw [Nat.sub_zero]

theorem crcMore_lt (sum : Nat) (l : List Nat) : crcMore sum l < 4294967296 := by unfold crcMore; omega
theorem crcSum_lt (l : List Nat) : crcSum l < 4294967296 := crcMore_lt 0 l

set_option maxHeartbeats 400000 in
theorem more_any (w : World) (B : Nat) (A : Option Addr) (n c s : Nat) (bs : List Nat) (h : Reads w B 1 A n (byts bs)) (hB : B ≤ w.heap.size) (hbs : Small bs) (hs : s < 4294967296) (hn : n ≤ 9223372036854775807) :
    Calls Try.prog 17 #[.int .u32 s, .slice A n c] w fun e w' => e = .returned (.int .u32 (crcMore s bs)) ∧ Below w.heap.size w w' := by
  have E1 := not_u32 s hs
  obtain ⟨t, ht⟩ : ∃ t, 4294967295 - s = t := ⟨_, rfl⟩
  rw [ht] at E1
  have t1 : t < 4294967296 := by omega
  have r1 : reg t bs < 4294967296 := reg_lt t1 hbs
  have hrun := run_any w B A n c t bs h hB hbs t1 hn
  have HT := Lib.hid ht
  clear ht
  go_enter Try.func17, Try.ntmps17
  go_wp2_with fail
  go_wp2_with (go_at_call 66; refine hrun.mono ?_; rintro e w1 ⟨rfl, b1⟩)
  go_ret
  refine ⟨ret_int ?_, b1⟩
  rw [not_u32 _ r1]
  unfold crcMore
  rw [HT.out]

set_option maxHeartbeats 400000 in
theorem holds_any (w : World) (B : Nat) (A : Option Addr) (n c s : Nat) (bs : List Nat) (h : Reads w B 1 A n (byts bs)) (hB : B ≤ w.heap.size) (hbs : Small bs) (hn : n ≤ 140737488355328) :
    Calls Try.prog 19 #[.slice A n c, .int .u32 s] w fun e w' => e = .returned (.bool (decide (crcSum bs = s))) ∧ Below w.heap.size w w' := by
  have hl : bs.length = n := by have := h.1; rw [byts_length] at this; omega
  have h2 : Reads2 (w.alloc (.cells #[.slice A n c] 24)) (w.heap.size + 1) (some ⟨w.heap.size, 0, none⟩) 1 [bs] := by
    refine ⟨rfl, fun k hk => ?_⟩
    obtain rfl : k = 0 := by simpa using hk
    refine ⟨_, A, c, rfl, by simp, ?_, ?_, hbs, ?_⟩
    · simp only [List.getElem_cons_zero, hl]
      exact ((Blk.new w 24 #[.slice A n c]).cell 0).trans rfl
    · simp only [List.getElem_cons_zero, hl]
      exact (h.alloc hB _).more (by omega)
    · simp only [List.getElem_cons_zero, hl]; omega
  have hsum := sum_any _ _ _ _ 1 _ h2 (by simp) (by omega)
  have e1 : [bs].flatten = bs := by simp
  rw [e1] at hsum
  clear hl e1
  go_enter Try.func19, Try.ntmps19
  go_wp2_with (go_at_call 15; refine hsum.mono ?_; rintro e w1 ⟨rfl, b1⟩)
  go_ret
  refine ⟨ret_bool ?_, ((Below.refl w.heap.size w).alloc (Nat.le_refl _) _).trans (b1.mono (by simp))⟩
  rw [Bool.eq_iff_iff]
  simp
  omega

set_option maxHeartbeats 1000000 in
theorem refStep_any (w : World) (s : Nat) (hs : s < 4294967296) :
    Calls Try.prog 67 #[.int .u32 s] w fun e w' => e = .returned (.int .u32 (st8 s)) ∧ w = w' := by
  go_enter Try.func67, Try.ntmps67
  go_wp2
  go_loop [0, 3] (fun sv iv => ∃ k : Nat, k ≤ 8 ∧ iv = .int .i64 k ∧ sv = .int .u32 (stN k s)) (fun _ iv => 8 - (intOf iv).toNat)
  case atStart => exact ⟨0, by omega, rfl, rfl⟩
  case round =>
    obtain ⟨k, hk, rfl, rfl⟩ := hrel
    have q1 := stN_lt k hs
    by_cases hlt : k < 8
    · have hstep := stN_succ k s
      obtain ⟨x, hx⟩ : ∃ x, stN k s = x := ⟨_, rfl⟩
      rw [hx] at hstep q1 ⊢
      have HF := Lib.hid hstep
      clear hstep hx
      rcases Nat.mod_two_eq_zero_or_one x with h2 | h2
      · have t1 : ((x : Int) % 2 == 1) = false := by rw [beq_eq_false_iff_ne]; omega
        have H2 := Lib.hid h2
        clear h2
        go_wp2
        go_round
        case rel => exact ⟨k + 1, by omega, by go_num, int_eq (by rw [HF.out]; unfold st; rw [if_neg (by have := H2.out; omega)]; omega)⟩
        case measure => simp [intOf]; omega
      · have t1 : ((x : Int) % 2 == 1) = true := by rw [beq_iff_eq]; omega
        have H2 := Lib.hid h2
        clear h2
        go_wp2
        go_round
        case rel => exact ⟨k + 1, by omega, by go_num, int_eq (by
          rw [HF.out, show ((x : Int) / 2) = ((x / 2 : Nat) : Int) by omega]
          have := xor_cast (x / 2) 2197175160 (by omega) (by decide)
          unfold st polyC
          rw [if_pos H2.out]
          exact this)⟩
        case measure => simp [intOf]; omega
    · obtain rfl : k = 8 := by omega
      go_wp2
      go_ret
      exact ⟨rfl, rfl⟩

set_option maxHeartbeats 1000000 in
theorem refMore_any (w : World) (B : Nat) (A : Option Addr) (n c s : Nat) (bs : List Nat) (h : Reads w B 1 A n (byts bs)) (hbs : Small bs) (hs : s < 4294967296) (hn : n ≤ 9223372036854775807) :
    Calls Try.prog 18 #[.int .u32 s, .slice A n c] w fun e w' => e = .returned (.int .u32 (crcMore s bs)) ∧ w = w' := by
  have hl : bs.length = n := by have := h.1; rw [byts_length] at this; omega
  have HL := Lib.hid hl
  have E1 := ones_u32 s hs
  obtain ⟨t, ht⟩ : ∃ t, 4294967295 - s = t := ⟨_, rfl⟩
  rw [ht] at E1
  have t1 : t < 4294967296 := by omega
  have HT := Lib.hid ht
  clear ht hl
  go_enter Try.func18, Try.ntmps18
  go_wp2
  go_loop [5, 6] (fun sv iv => ∃ k : Nat, k ≤ n ∧ iv = .int .i64 k ∧ sv = .int .u32 (regTo t bs k)) (fun _ iv => n - (intOf iv).toNat)
  case atStart => exact ⟨0, by omega, rfl, rfl⟩
  case round =>
    obtain ⟨k, hk, rfl, rfl⟩ := hrel
    have q1 := regTo_lt k t1 hbs
    by_cases hlt : k < n
    · obtain ⟨ad, u, rfl, hab, hxu, hcell⟩ := h.at_ hlt
      have hl := HL.out
      have hk2 : k < bs.length := by omega
      have hstep := regTo_succ t bs k hk2
      have hc := hbs.at_ k hk2
      obtain ⟨cc, hcc⟩ : ∃ cc, bs[k] = cc := ⟨_, rfl⟩
      have hu : u = .int .u8 (cc : Int) := by
        simp only [byts, List.getElem?_map, List.getElem?_eq_getElem hk2, Option.map_some] at hxu
        injection hxu with hxu
        rw [← hxu, hcc]
      rw [hcc] at hc hstep
      subst hu
      clear hxu hcc hl
      obtain ⟨r, hr⟩ : ∃ r, regTo t bs k = r := ⟨_, rfl⟩
      rw [hr] at q1 hstep ⊢
      obtain ⟨x, hx⟩ : ∃ x, r ^^^ cc = x := ⟨_, rfl⟩
      have x1 : x < 4294967296 := by rw [← hx]; exact xor_lt32 q1 (by omega)
      rw [hx] at hstep
      have E2 : bits .xor .u32 (r : Int) (cc : Int) = (x : Int) := by rw [xor_cast _ _ q1 (by omega), hx]
      have HF := Lib.hid hstep
      clear hstep hx hr
      go_wp2_with (go_at_call 67; refine (refStep_any _ _ x1).mono ?_; rintro e w' ⟨rfl, rfl⟩)
      go_round
      case rel => exact ⟨k + 1, by omega, by go_num, by rw [HF.out]⟩
      case measure => simp [intOf]; omega
    · have hfin : regTo t bs k = reg t bs := by
        have : k = bs.length := by have := HL.out; omega
        rw [this, regTo_all]
      have HF := Lib.hid hfin
      clear hfin
      go_wp2
      go_ret
      refine ⟨ret_int ?_, rfl⟩
      rw [ones_u32 _ q1, HF.out]
      unfold crcMore
      rw [HT.out]

set_option maxHeartbeats 400000 in
theorem refSum_any (w : World) (B : Nat) (A : Option Addr) (n c : Nat) (bs : List Nat) (h : Reads w B 1 A n (byts bs)) (hbs : Small bs) (hn : n ≤ 9223372036854775807) :
    Calls Try.prog 16 #[.slice A n c] w fun e w' => e = .returned (.int .u32 (crcSum bs)) ∧ w = w' := by
  have hm := refMore_any w B A n c 0 bs h hbs (by decide) hn
  go_enter Try.func16, Try.ntmps16
  go_wp2_with (go_at_call 18; refine hm.mono ?_; rintro e w' ⟨rfl, rfl⟩)
  go_ret
  exact ⟨rfl, rfl⟩

set_option maxHeartbeats 1000000 in
theorem refZeros_any (w : World) (s : Nat) (n : Int) (hs : s < 4294967296) (hn : n ≤ 500) :
    Calls Try.prog 22 #[.int .u32 s, .int .i64 n] w fun e w' => e = .returned (.int .u32 (4294967295 - far0 n.toNat (4294967295 - s) : Nat)) ∧ w = w' := by
  have E1 := ones_u32 s hs
  obtain ⟨t, ht⟩ : ∃ t, 4294967295 - s = t := ⟨_, rfl⟩
  rw [ht] at E1 ⊢
  have t1 : t < 4294967296 := by omega
  clear ht
  go_enter Try.func22, Try.ntmps22
  go_wp2
  go_loop [5, 6] (fun sv iv => ∃ k : Nat, k ≤ n.toNat ∧ iv = .int .i64 k ∧ sv = .int .u32 (far0 k t)) (fun _ iv => n.toNat - (intOf iv).toNat)
  case atStart => exact ⟨0, by omega, rfl, rfl⟩
  case round =>
    obtain ⟨k, hk, rfl, rfl⟩ := hrel
    have q1 : far0 k t < 4294967296 := far0_lt t1
    by_cases hlt : (k : Int) < n
    · have hstep := far0_succ k t
      have HF := Lib.hid hstep
      clear hstep
      go_wp2_with (go_at_call 67; refine (refStep_any _ _ q1).mono ?_; rintro e w' ⟨rfl, rfl⟩)
      go_round
      case rel => exact ⟨k + 1, by omega, by go_num, by rw [HF.out]⟩
      case measure => simp [intOf]; omega
    · have hk2 : k = n.toNat := by omega
      have HF := Lib.hid hk2
      clear hk2
      go_wp2
      go_ret
      exact ⟨ret_int (by rw [ones_u32 _ q1, HF.out]), rfl⟩

end Go.Proofs.Ytpnagblbhlglhaa
