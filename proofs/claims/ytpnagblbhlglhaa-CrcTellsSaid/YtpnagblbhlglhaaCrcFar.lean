/- crc.square.of, twice, far, Zeros; the reference's through, Far. Conditions: those that each states. -/
import Derived.Test.YtpnagblbhlglhaaCrcSum
import Derived.Deep.RegionHeld3
import Derived.Deep.DrawnRows
namespace Go.Proofs.Ytpnagblbhlglhaa
open Go.RowKit
attribute [local go_sem ↓] Go.wp_at_zero Go.wp_at_succ

/-- All images of x's low k bits, xor-ed. -/
def thr (f : Nat → Nat) (x : Nat) : Nat → Nat
  | 0 => 0
  | k + 1 => thr f x k ^^^ (if x.testBit k then f k else 0)
theorem thr_lt {f : Nat → Nat} (hf : ∀ i, f i < 4294967296) (x k : Nat) : thr f x k < 4294967296 := by
  induction k with
  | zero => show 0 < 4294967296; decide
  | succ k ih =>
    refine xor_lt32 ih ?_
    split
    · exact hf k
    · decide
theorem thr_far (n : Nat) (x k : Nat) : thr (fun i => far0 n (2 ^ i)) x k = far0 n (x % 2 ^ k) := by
  induction k with
  | zero => rw [Nat.pow_zero, Nat.mod_one]; exact (stN_zero _).symm
  | succ k ih => rw [thr, ih, far0_low]
theorem thr_far32 (n : Nat) (x : Nat) (h : x < 4294967296) : thr (fun i => far0 n (2 ^ i)) x 32 = far0 n x := by
  rw [thr_far, Nat.mod_eq_of_lt h]
theorem thr_congr (f g : Nat → Nat) (x k : Nat) (h : ∀ i, i < k → f i = g i) : thr f x k = thr g x k := by
  induction k with
  | zero => rfl
  | succ k ih => rw [thr, thr, ih (fun i hi => h i (by omega)), h k (by omega)]
theorem bit_int (x i : Nat) : ((x / 2 ^ i % 2 : Nat) : Int) = if x.testBit i then 1 else 0 := by
  have h : x.testBit i = decide (x / 2 ^ i % 2 = 1) := by
    rw [Nat.testBit_eq_decide_div_mod_eq]
  rw [h]
  rcases Nat.mod_two_eq_zero_or_one (x / 2 ^ i) with e | e <;> simp [e]

theorem tab_next (n : Nat) (f : Nat → Nat) (i : Nat) : tabV n (fun j => if j < i + 1 then f j else 0) = tabV n (fun j => if j = i then f i else if j < i then f j else 0) :=
  tabV_congr n _ _ fun j _ => by
    by_cases e : j = i
    · subst e; rw [if_pos (by omega), if_pos rfl]
    · rw [if_neg e]
      by_cases e2 : j < i
      · rw [if_pos (by omega), if_pos e2]
      · rw [if_neg (by omega), if_neg e2]
theorem tabV_one (n : Nat) (f : Nat → Nat) : (tabV n f).all (·.oneCell') = true := by
  rw [Array.all_eq_true_iff_forall_mem]
  intro v hv
  simp only [tabV, List.mem_toArray, List.mem_map] at hv
  obtain ⟨j, _, rfl⟩ := hv
  rfl
theorem tmod_two (y : Nat) : (y : Int).tmod 2 = ((y % 2 : Nat) : Int) := by
  rw [Int.tmod_eq_emod_of_nonneg (by omega)]
  omega

set_option maxHeartbeats 1000000 in
set_option maxRecDepth 100000 in
theorem of_any (w : World) (f : Nat → Nat) (hf : ∀ i, f i < 4294967296) (x : Nat) (hx : x < 4294967296) :
    Calls Try.prog 87 #[.agg (tabV 32 f), .int .u32 x] w fun e w' => e = .returned (.int .u32 (thr f x 32)) ∧ Below w.heap.size w w' := by
  go_enter Try.func87, Try.ntmps87
  go_wp2
  have bz := Blk.new w 144 (tabV 32 f)
  generalize hw : World.alloc _ _ = w1
  rw [hw] at bz
  have b1 : Below w.heap.size w w1 := by subst hw; exact (Below.refl _ w).alloc (Nat.le_refl _) _
  clear hw
  go_loopw [5, 7] (fun sv iv wr => ∃ k m : Nat, k ≤ 32 ∧ iv = .int .i64 k ∧ sv = .int .u32 (thr f x k) ∧ wr = w1.drewN m) (fun _ iv _ => 32 - (intOf iv).toNat)
  case atStart => exact ⟨0, 0, by omega, rfl, rfl, rfl⟩
  case round =>
    obtain ⟨k, m, hk, rfl, rfl, hw⟩ := hrel
    subst hw
    have q1 := thr_lt hf x k
    by_cases hlt : k < 32
    · have c1 : w1.cell? ⟨w.heap.size, k, none⟩ = some (.int .u32 (f k)) := by rw [bz.cell, tabV_at 32 f k hlt]
      have i0 : (0 : Int) ≤ (k : Int) := by omega
      have i1 : (k : Int) < 32 := by omega
      have i2 : (k : Int) ≤ 32 := by omega
      have hfk := hf k
      have hstep : thr f x (k + 1) = thr f x k ^^^ (if x.testBit k then f k else 0) := rfl
      have hb := bit_int x k
      have E0 : bits .and .u32 ((x : Int) / 2 ^ k) 1 = ((x / 2 ^ k % 2 : Nat) : Int) := by
        have h1 := and_one (x / 2 ^ k) (Nat.lt_of_le_of_lt (Nat.div_le_self _ _) hx)
        have e : ((x : Int) / 2 ^ k) = ((x / 2 ^ k : Nat) : Int) := by simp
        rw [e]
        exact h1
      rw [hb] at E0
      obtain ⟨v, hv⟩ : ∃ v, f k = v := ⟨_, rfl⟩
      obtain ⟨r, hr⟩ : ∃ r, thr f x k = r := ⟨_, rfl⟩
      rw [hv] at c1 hfk hstep
      rw [hr] at hstep q1 ⊢
      by_cases ht : x.testBit k = true
      · rw [ht] at E0 hstep
        simp only [if_true] at E0 hstep
        have HF := Lib.hid hstep
        clear hstep hb ht hv hr
        go_wp2
        go_quiet (fail)
        go_wp2
        go_roundw
        case rel => exact ⟨k + 1, _, by omega, by go_num, int_eq (by rw [xor_cast _ _ q1 hfk, HF.out]), rfl⟩
        case measure => simp [intOf]; omega
      · have ht2 : x.testBit k = false := by simpa using ht
        rw [ht2] at E0 hstep
        simp only [if_false, Bool.false_eq_true] at E0 hstep
        have HF := Lib.hid hstep
        clear hstep hb ht ht2 hv hr
        go_wp2
        go_quiet (fail)
        go_wp2
        go_roundw
        case rel => exact ⟨k + 1, _, by omega, by go_num, int_eq (by rw [HF.out]; exact xor_cast _ 0 q1 (by decide)), rfl⟩
        case measure => simp [intOf]; omega
    · obtain rfl : k = 32 := by omega
      go_wp2
      go_ret
      exact ⟨rfl, below_drewN b1 m⟩

set_option maxHeartbeats 1000000 in
set_option maxRecDepth 100000 in
theorem through_any (w : World) (f : Nat → Nat) (hf : ∀ i, f i < 4294967296) (x : Nat) (hx : x < 4294967296) :
    Calls Try.prog 68 #[.agg (tabV 32 f), .int .u32 x] w fun e w' => e = .returned (.int .u32 (thr f x 32)) ∧ Below w.heap.size w w' := by
  go_enter Try.func68, Try.ntmps68
  go_wp2
  have bz := Blk.new w 109 (tabV 32 f)
  generalize hw : World.alloc _ _ = w1
  rw [hw] at bz
  have b1 : Below w.heap.size w w1 := by subst hw; exact (Below.refl _ w).alloc (Nat.le_refl _) _
  clear hw
  go_loop [5, 6] (fun sv iv => ∃ k : Nat, k ≤ 32 ∧ iv = .int .i64 k ∧ sv = .int .u32 (thr f x k)) (fun _ iv => 32 - (intOf iv).toNat)
  case atStart => exact ⟨0, by omega, rfl, rfl⟩
  case round =>
    obtain ⟨k, hk, rfl, rfl⟩ := hrel
    have q1 := thr_lt hf x k
    by_cases hlt : k < 32
    · have c1 : w1.cell? ⟨w.heap.size, k, none⟩ = some (.int .u32 (f k)) := by rw [bz.cell, tabV_at 32 f k hlt]
      have i0 : (0 : Int) ≤ (k : Int) := by omega
      have i1 : (k : Int) < 32 := by omega
      have i2 : (k : Int) ≤ 32 := by omega
      have hfk := hf k
      have hstep : thr f x (k + 1) = thr f x k ^^^ (if x.testBit k then f k else 0) := rfl
      have hb := bit_int x k
      have e2 : ((x : Int) / 2 ^ k) = ((x / 2 ^ k : Nat) : Int) := by simp
      have E1 : ((x : Int) / 2 ^ k).tmod 2 = if x.testBit k then 1 else 0 := by
        rw [e2, ← hb]
        exact tmod_two _
      have E0 : (((x : Int) / 2 ^ k).tmod 2 == 1) = x.testBit k := by
        rw [E1]
        cases x.testBit k <;> rfl
      clear E1 e2
      obtain ⟨v, hv⟩ : ∃ v, f k = v := ⟨_, rfl⟩
      obtain ⟨r, hr⟩ : ∃ r, thr f x k = r := ⟨_, rfl⟩
      rw [hv] at c1 hfk hstep
      rw [hr] at hstep q1 ⊢
      by_cases ht : x.testBit k = true
      · rw [ht] at E0 hstep
        simp only [if_true] at hstep
        have HF := Lib.hid hstep
        clear hstep hb ht hv hr
        go_wp2
        go_round
        case rel => exact ⟨k + 1, by omega, by go_num, int_eq (by rw [xor_cast _ _ q1 hfk, HF.out])⟩
        case measure => simp [intOf]; omega
      · have ht2 : x.testBit k = false := by simpa using ht
        rw [ht2] at E0 hstep
        simp only [if_false, Bool.false_eq_true, Nat.xor_zero] at hstep
        have HF := Lib.hid hstep
        clear hstep hb ht ht2 hv hr
        go_wp2
        go_round
        case rel => exact ⟨k + 1, by omega, by go_num, int_eq (by rw [HF.out])⟩
        case measure => simp [intOf]; omega
    · obtain rfl : k = 32 := by omega
      go_wp2
      go_ret
      exact ⟨rfl, b1⟩

/-! ### Squares: f n's images -/
/-- What each bit of a register becomes behind n bytes 0. -/
def sq (n : Nat) : Nat → Nat := fun i => far0 n (2 ^ i % 4294967296)
theorem sq_lt (n i : Nat) : sq n i < 4294967296 := far0_lt (Nat.mod_lt _ (by decide))
theorem sq_at (n i : Nat) (h : i < 32) : sq n i = far0 n (2 ^ i) := by
  unfold sq
  rw [Nat.mod_eq_of_lt (Nat.lt_of_lt_of_le (Nat.pow_lt_pow_right (by decide) h) (by decide))]
theorem thr_sq (n x : Nat) (h : x < 4294967296) : thr (sq n) x 32 = far0 n x := by
  rw [thr_congr (sq n) (fun i => far0 n (2 ^ i)) x 32 (fun i hi => sq_at n i hi), thr_far32 n x h]
theorem thr_sq_sq (n i : Nat) : thr (sq n) (sq n i) 32 = sq (n + n) i := by
  rw [thr_sq n _ (sq_lt n i)]
  unfold sq
  rw [far0_add]

set_option maxHeartbeats 1000000 in
set_option maxRecDepth 100000 in
theorem twice_any (w : World) (n : Nat) :
    Calls Try.prog 88 #[.agg (tabV 32 (sq n))] w fun e w' => e = .returned (.agg (tabV 32 (sq (n + n)))) ∧ Below w.heap.size w w' := by
  go_enter Try.func88, Try.ntmps88
  go_wp2
  generalize hw : World.alloc (World.alloc (World.alloc _ _) _) _ = w1
  have z0 : Blk w1 w.heap.size 144 (tabV 32 (sq n)) := by subst hw; exact ((Blk.new w 144 _).alloc _).alloc _
  have z1 : Blk w1 (w.heap.size + 1) 144 (tabV 32 fun _ => 0) := by
    subst hw
    exact (by have := (Blk.new (w.alloc (.cells (tabV 32 (sq n)) 144)) 144 (tabV 32 fun _ => 0)).alloc (.cells (tabV 32 fun _ => 0) 144); rwa [World.size_alloc] at this)
  have z2 : Blk w1 (w.heap.size + 1 + 1) 144 (tabV 32 fun _ => 0) := by
    subst hw
    exact (by have := Blk.new ((w.alloc (.cells (tabV 32 (sq n)) 144)).alloc (.cells (tabV 32 fun _ => 0) 144)) 144 (tabV 32 fun _ => 0); rwa [World.size_alloc, World.size_alloc] at this)
  have hb1 : Below w.heap.size w w1 := by subst hw; exact (((Below.refl _ w).alloc (Nat.le_refl _) _).alloc (by simp) _).alloc (by simp; omega) _
  clear hw
  go_loopw [5] (fun iv wr => ∃ i : Nat, i ≤ 32 ∧ iv = .int .i64 i ∧ Blk wr (w.heap.size + 1 + 1) 144 (tabV 32 fun j => if j < i then sq (n + n) j else 0) ∧ Blk wr (w.heap.size + 1) 144 (tabV 32 fun _ => 0) ∧ Blk wr w.heap.size 144 (tabV 32 (sq n)) ∧ Below w.heap.size w wr) (fun iv _ => 32 - (intOf iv).toNat)
  case atStart => exact ⟨0, by omega, rfl, by simpa using z2, z1, z0, hb1⟩
  case round =>
    clear z0 z1 z2 hb1
    obtain ⟨i, hi, rfl, z2, z1, z0, hb⟩ := hrel
    by_cases hlt : i < 32
    · have hi0 : (0 : Int) ≤ (i : Int) := by omega
      have hi1 : (i : Int) < 32 := by omega
      have c0 : wr.cell? ⟨w.heap.size, i, none⟩ = some (.int .u32 (sq n i)) := by rw [z0.cell, tabV_at 32 _ i hlt]
      have r0 : wr.rangeAt w.heap.size 0 (tabV 32 (sq n)).toList := fun j v hv => by rw [z0.cell, Nat.zero_add, ← hv]; simp
      have c2 : wr.cell? ⟨w.heap.size + 1 + 1, i, none⟩ = some (.int .u32 0) := by rw [z2.cell, tabV_at 32 _ i hlt, if_neg (by omega)]; rfl
      have f2 := z2.frozen i
      have hu := Try.underlying144
      have hi2 : (Try.prog.info? 144).map (·.size) = some (tabV 32 (sq n)).toList.length := by rw [Array.length_toList, tabV_size]; kernel_rfl
      have hcall : Calls Try.prog 87 #[.agg (tabV 32 (sq n)), .int .u32 (sq n i)] wr.drew fun e w4 => e = .returned (.int .u32 (sq (n + n) i)) ∧
          w4.rangeAt w.heap.size 0 (tabV 32 (sq n)).toList ∧ w4.cell? ⟨w.heap.size, i, none⟩ = some (.int .u32 (sq n i)) ∧ w4.cell? ⟨w.heap.size + 1 + 1, i, none⟩ = some (.int .u32 0) ∧ w4.frozen? ⟨w.heap.size + 1 + 1, i, none⟩ = false ∧ Below wr.heap.size wr w4 := by
        refine (of_any wr.drew (sq n) (sq_lt n) (sq n i) (sq_lt n i)).mono ?_
        rintro e w4 ⟨rfl, hb4⟩
        have hb5 : Below wr.heap.size wr w4 := (Below.refl wr.heap.size wr).drew.trans hb4
        have y0 := z0.below hb5 z0.lt
        have y2 := z2.below hb5 z2.lt
        exact ⟨by rw [thr_sq_sq], fun j v hv => by rw [y0.cell, Nat.zero_add, ← hv]; simp, (y0.cell i).trans (tabV_at 32 _ i hlt), by rw [y2.cell, tabV_at 32 _ i hlt, if_neg (by omega)]; rfl, y2.frozen i, hb5⟩
      go_wp2
      go_region_held3 (fun w' => w'.rangeAt w.heap.size 0 (tabV 32 (sq n)).toList ∧ w'.cell? ⟨w.heap.size, i, none⟩ = some (.int .u32 (sq n i))) (first | go_keep_ranges | (exact ⟨fun j v hv => (World.cell?_setCell_other _ _ _ _ (by intro e; injection e with e; omega)).trans (s1 j v hv), (World.cell?_setCell_other _ _ _ _ (by intro e; injection e with e; omega)).trans s2⟩)) (first | (go_at_call 87; refine hcall.mono ?_; rintro e w4 ⟨rfl, s1, s2, s3, s4, s5⟩))
      go_wp2
      go_roundw
      case rel =>
        have y0 := z0.below s5 z0.lt
        have y1 := z1.below s5 z1.lt
        have y2 := z2.below s5 z2.lt
        refine ⟨i + 1, by omega, by go_num, ?_, y1.far (p := ⟨w.heap.size + 1 + 1, i, none⟩) (by show _ ≠ w.heap.size + 1 + 1; omega) _, y0.far (p := ⟨w.heap.size + 1 + 1, i, none⟩) (by show _ ≠ w.heap.size + 1 + 1; omega) _, (hb.trans (s5.mono hb.size)).setCell (p := ⟨w.heap.size + 1 + 1, i, none⟩) (by simp; omega) _⟩
        have := y2.set_ i (.int .u32 (sq (n + n) i))
        rw [tabV_set 32 _ i _ hlt] at this
        rw [tab_next]
        exact this
      case measure => simp [intOf]; omega
    · obtain rfl : i = 32 := by omega
      have e : tabV 32 (fun j => if j < 32 then sq (n + n) j else 0) = tabV 32 (sq (n + n)) := tabV_congr 32 _ _ fun j hj => if_pos hj
      rw [e] at z2
      go_wp2_with (first | (refine wpList_load_row rfl 144 _ rfl (w.heap.size + 1 + 1) rfl 144 (tabV 32 (sq (n + n))) (0, 0) _ z2 Try.underlying144 rfl (by rw [tabV_size]; kernel_rfl) ?_) | (refine wpList_store_blk rfl 144 _ _ rfl (w.heap.size + 1) 144 (tabV 32 fun _ => 0) (tabV 32 (sq (n + n))) z1 rfl rfl (by rw [tabV_size]; kernel_rfl) (by rw [tabV_size, tabV_size]) (tabV_one _ _) ?_; intro w3 z3 f3))
      refine bodyPost_ret (results_cell_row rfl _ _ (w.heap.size + 1) 144 (tabV 32 (sq (n + n))) (0, 0) _ rfl z3 Try.underlying144 rfl (by rw [tabV_size]; kernel_rfl)) rfl ?_
      exact ⟨rfl, hb.trans (f3.below (B := w.heap.size) (fun k e => by omega) hb.size)⟩

theorem ofInt_i64 (a : Nat) (ha : a < 9223372036854775808) : (BitVec.ofInt 64 (a : Int)).toNat = a := by
  rw [BitVec.ofInt_natCast, BitVec.toNat_ofNat]; exact Nat.mod_eq_of_lt (by omega)
theorem i64_and_one (a : Nat) (ha : a < 9223372036854775808) : bits .and .i64 (a : Int) 1 = ((a % 2 : Nat) : Int) := by
  have hx : a &&& 1 < 2 ^ 63 := Nat.and_lt_two_pow _ (by decide)
  have h1 : (BitVec.ofInt 64 ((1 : Nat) : Int)).toNat = 1 := ofInt_i64 1 (by decide)
  show IntKind.i64.wrap ((BitVec.ofInt 64 (a : Int) &&& BitVec.ofInt 64 ((1 : Nat) : Int)).toNat : Int) = _
  rw [BitVec.toNat_and, ofInt_i64 a ha, h1, Nat.and_one_is_mod, IntKind.wrap_i64]
  omega
theorem far_odd (q N s : Nat) (h : N % 2 = 1) : far0 (q * N) s = far0 ((q + q) * (N / 2)) (far0 q s) := by
  rw [← far0_add]
  congr 1
  have e : N = 2 * (N / 2) + 1 := by omega
  conv => lhs; rw [e]
  rw [Nat.mul_add, Nat.mul_one, ← Nat.mul_assoc, Nat.mul_two, Nat.add_comm]
theorem far_even (q N s : Nat) (h : N % 2 = 0) : far0 (q * N) s = far0 ((q + q) * (N / 2)) s := by
  congr 1
  have e : N = 2 * (N / 2) := by omega
  conv => lhs; rw [e]
  rw [← Nat.mul_assoc, Nat.mul_two]

set_option maxHeartbeats 2000000 in
set_option maxRecDepth 100000 in
theorem far_any (w : World) (s : Nat) (n : Int) (hs : s < 4294967296) (hn : n ≤ 9223372036854775807) :
    Calls Try.prog 69 #[.int .u32 s, .int .i64 n] w fun e w' => e = .returned (.int .u32 (far0 n.toNat s)) ∧ Below w.heap.size w w' := by
  go_enter Try.func69, Try.ntmps69
  go_wp2
  generalize hw : World.alloc _ _ = w1
  have z1 : Blk w1 w.heap.size 144 (tabV 32 fun _ => 0) := by subst hw; exact Blk.new w 144 _
  have hb1 : Below w.heap.size w w1 := by subst hw; exact (Below.refl _ w).alloc (Nat.le_refl _) _
  clear hw
  go_loopw [7] (fun iv wr => ∃ i : Nat, i ≤ 32 ∧ iv = .int .i64 i ∧ Blk wr w.heap.size 144 (tabV 32 fun j => if j < i then sq 1 j else 0) ∧ Below w.heap.size w wr) (fun iv _ => 32 - (intOf iv).toNat)
  case atStart => exact ⟨0, by omega, rfl, by simpa using z1, hb1⟩
  case round =>
    clear z1 hb1
    obtain ⟨i, hi, rfl, z, hb⟩ := hrel
    by_cases hlt : i < 32
    · have hi0 : (0 : Int) ≤ (i : Int) := by omega
      have hi1 : (i : Int) < 32 := by omega
      have hi2 : (i : Int) ≤ 32 := by omega
      have hp : (2 : Int) ^ i % 4294967296 = ((2 ^ i % 4294967296 : Nat) : Int) := by simp
      have hq : sq 1 i = st8 (2 ^ i % 4294967296) := rfl
      obtain ⟨p, hpe⟩ : ∃ p : Nat, 2 ^ i % 4294967296 = p := ⟨_, rfl⟩
      have p1 : p < 4294967296 := by rw [← hpe]; exact Nat.mod_lt _ (by decide)
      rw [hpe] at hp hq
      have hrun := run_any (wr.alloc (.cells #[.int .u8 0] 5)) (wr.heap.size + 1) (some ⟨wr.heap.size, 0, none⟩) 1 1 p [0] (by
        refine ⟨rfl, fun _ => ⟨_, rfl, by simp, fun j u hu => ?_⟩⟩
        match j, hu with
        | 0, hu => simp [byts] at hu; subst hu; exact ((Blk.new wr 5 #[.int .u8 0]).cell 0).trans rfl) (by simp) (by intro c hc; simp at hc; omega) p1 (by omega)
      have e1 : reg p [0] = sq 1 i := by rw [hq, reg_cons, Nat.xor_zero]; rfl
      rw [e1] at hrun
      clear hpe hq e1
      go_wp2_with fail
      refine hrun.mono ?_
      rintro e w2 ⟨rfl, b2⟩
      have b3 : Below wr.heap.size wr w2 := ((Below.refl wr.heap.size wr).alloc (Nat.le_refl _) _).trans (b2.mono (by simp))
      have y := z.below b3 z.lt
      have yc : w2.cell? ⟨w.heap.size, i, none⟩ = some (.int .u32 0) := by rw [y.cell, tabV_at 32 _ i hlt, if_neg (by omega)]; rfl
      have yf := y.frozen i
      go_wp2
      go_roundw
      case rel =>
        refine ⟨i + 1, by omega, by go_num, ?_, (hb.trans (b3.mono hb.size)).setCell (p := ⟨w.heap.size, i, none⟩) (Nat.le_refl _) _⟩
        have := y.set_ i (.int .u32 (sq 1 i))
        rw [tabV_set 32 _ i _ hlt] at this
        rw [tab_next]
        exact this
      case measure => simp [intOf]; omega
    · obtain rfl : i = 32 := by omega
      have e : tabV 32 (fun j => if j < 32 then sq 1 j else 0) = tabV 32 (sq 1) := tabV_congr 32 _ _ fun j hj => if_pos hj
      rw [e] at z
      go_wp2
      obtain ⟨wo, rfl⟩ : ∃ wo : World, wo = wr := ⟨_, rfl⟩
      go_loopw [0, 1] (fun sv nv w' => ∃ (q t : Nat) (x : Int), sv = .int .u32 t ∧ nv = .int .i64 x ∧ t < 4294967296 ∧ x ≤ 9223372036854775807 ∧ far0 n.toNat s = far0 (q * x.toNat) t ∧ Blk w' w.heap.size 144 (tabV 32 (sq q)) ∧ Below w.heap.size w w') (fun _ nv _ => (intOf nv).toNat)
      case atStart => exact ⟨1, s, n, rfl, rfl, hs, hn, by rw [Nat.one_mul], z, hb⟩
      case round =>
        clear z hb
        obtain ⟨q, t, x, rfl, rfl, ht, hx, hfin, z, hb⟩ := hrel
        have HF := Lib.hid hfin
        clear hfin
        by_cases hpos : 0 < x
        · obtain ⟨N, rfl⟩ := Int.eq_ofNat_of_zero_le (Int.le_of_lt hpos)
          have E1 := i64_and_one N (by omega)
          have hsz := z.lt
          have go2 : ∀ (w2 : World), Blk w2 w.heap.size 144 (tabV 32 (sq q)) → Calls Try.prog 88 #[.agg (tabV 32 (sq q))] w2 fun e w3 => e = .returned (.agg (tabV 32 (sq (q + q)))) ∧ Blk w3 w.heap.size 144 (tabV 32 (sq q)) ∧ Below w2.heap.size w2 w3 := by
            intro w2 z2
            refine (twice_any w2 q).mono ?_
            rintro e w3 ⟨rfl, b3⟩
            exact ⟨rfl, z2.below b3 z2.lt, b3⟩
          rcases Nat.mod_two_eq_zero_or_one N with h2 | h2
          · rw [h2] at E1
            have HE := Lib.hid (far_even q N t h2)
            clear h2
            go_wp2_with (first | (refine wpList_load_row rfl 144 _ rfl w.heap.size rfl 144 (tabV 32 (sq q)) (0, 0) _ z Try.underlying144 rfl (by rw [tabV_size]; kernel_rfl) ?_) | (go_at_call 88; refine (go2 _ z).mono ?_; rintro e w3 ⟨rfl, z3, b3⟩) | (refine wpList_store_blk rfl 144 _ _ rfl w.heap.size 144 (tabV 32 (sq q)) (tabV 32 (sq (q + q))) z3 rfl rfl (by rw [tabV_size]; kernel_rfl) (by rw [tabV_size, tabV_size]) (tabV_one _ _) ?_; intro w4 z4 f4))
            go_roundw
            case rel =>
              have hb4 : Below w.heap.size w w4 := (hb.trans (b3.mono hb.size)).trans (f4.below (B := w.heap.size) (fun k e => by omega) (by have := b3.size; have := hb.size; omega))
              have hn2 : (N : Int) / 2 ≤ 9223372036854775807 := by omega
              have c1 : far0 n.toNat s = far0 ((q + q) * ((N : Int) / 2).toNat) t := by
                rw [HF.out, show ((N : Int) / 2).toNat = N / 2 by omega, Int.toNat_natCast, HE.out]
              first
                | exact ⟨q + q, t, (N : Int) / 2, rfl, rfl, ht, hn2, c1, z4, hb4⟩
                | ((repeat apply Exists.intro); exact ⟨⟨q + q, t, (N : Int) / 2, rfl, rfl, ht, hn2, c1, z4, hb4⟩, rfl⟩)
            case measure => simp [intOf]; omega
          · rw [h2] at E1
            have HE := Lib.hid (far_odd q N t h2)
            have hof := fun (w2 : World) => of_any w2 (sq q) (sq_lt q) t ht
            have hq : thr (sq q) t 32 = far0 q t := thr_sq q t ht
            rw [hq] at hof
            have ht2 : far0 q t < 4294967296 := far0_lt ht
            clear h2 hq
            go_wp2_with (first | (refine wpList_load_row rfl 144 _ rfl w.heap.size rfl 144 (tabV 32 (sq q)) (0, 0) _ z Try.underlying144 rfl (by rw [tabV_size]; kernel_rfl) ?_) | (go_at_call 87; refine (hof _).mono ?_; clear hof; rintro e w2 ⟨rfl, b2⟩; have y := z.below b2 z.lt; clear z) | (refine wpList_load_row rfl 144 _ rfl w.heap.size rfl 144 (tabV 32 (sq q)) (0, 0) _ y Try.underlying144 rfl (by rw [tabV_size]; kernel_rfl) ?_) | (go_at_call 88; refine (go2 _ y).mono ?_; rintro e w3 ⟨rfl, z3, b3⟩) | (refine wpList_store_blk rfl 144 _ _ rfl w.heap.size 144 (tabV 32 (sq q)) (tabV 32 (sq (q + q))) z3 rfl rfl (by rw [tabV_size]; kernel_rfl) (by rw [tabV_size, tabV_size]) (tabV_one _ _) ?_; intro w4 z4 f4))
            go_roundw
            case rel =>
              have hb2 : Below w.heap.size w w2 := hb.trans (b2.mono hb.size)
              have hb4 : Below w.heap.size w w4 := (hb2.trans (b3.mono hb2.size)).trans (f4.below (B := w.heap.size) (fun k e => by omega) (by have := b3.size; have := hb2.size; omega))
              have hn2 : (N : Int) / 2 ≤ 9223372036854775807 := by omega
              have c1 : far0 n.toNat s = far0 ((q + q) * ((N : Int) / 2).toNat) (far0 q t) := by
                rw [HF.out, show ((N : Int) / 2).toNat = N / 2 by omega, Int.toNat_natCast, HE.out]
              first
                | exact ⟨q + q, far0 q t, (N : Int) / 2, rfl, rfl, ht2, hn2, c1, z4, hb4⟩
                | ((repeat apply Exists.intro); exact ⟨⟨q + q, far0 q t, (N : Int) / 2, rfl, rfl, ht2, hn2, c1, z4, hb4⟩, rfl⟩)
            case measure => simp [intOf]; omega
        · have hx0 : x.toNat = 0 := by omega
          have H0 := Lib.hid hx0
          clear hx0
          go_wp2
          go_ret
          exact ⟨ret_int (by rw [HF.out, H0.out, Nat.mul_zero]; rfl), hb⟩

set_option maxHeartbeats 400000 in
theorem zeros_any (w : World) (s : Nat) (n : Int) (hs : s < 4294967296) (hn : n ≤ 9223372036854775807) :
    Calls Try.prog 21 #[.int .u32 s, .int .i64 n] w fun e w' => e = .returned (.int .u32 (4294967295 - far0 n.toNat (4294967295 - s) : Nat)) ∧ Below w.heap.size w w' := by
  have E1 := not_u32 s hs
  obtain ⟨t, ht⟩ : ∃ t, 4294967295 - s = t := ⟨_, rfl⟩
  rw [ht] at E1 ⊢
  have t1 : t < 4294967296 := by omega
  have hrun := far_any w t n t1 hn
  clear ht
  go_enter Try.func21, Try.ntmps21
  go_wp2_with fail
  refine hrun.mono ?_
  rintro e w1 ⟨rfl, b1⟩
  go_wp2
  go_ret
  exact ⟨ret_int (not_u32 _ (far0_lt t1)), b1⟩

set_option maxHeartbeats 400000 in
theorem join_any (w : World) (a b : Nat) (n : Int) (ha : a < 4294967296) (hb : b < 4294967296) (hn : n ≤ 9223372036854775807) :
    Calls Try.prog 65 #[.int .u32 a, .int .u32 b, .int .i64 n] w fun e w' => e = .returned (.int .u32 (far0 n.toNat a ^^^ b : Nat)) ∧ Below w.heap.size w w' := by
  go_enter Try.func65, Try.ntmps65
  go_wp2_with (go_at_call 69; refine (far_any _ a n ha hn).mono ?_; rintro e w1 ⟨rfl, b1⟩)
  go_ret
  exact ⟨ret_int (xor_cast _ _ (far0_lt ha) hb), b1⟩

end Go.Proofs.Ytpnagblbhlglhaa
