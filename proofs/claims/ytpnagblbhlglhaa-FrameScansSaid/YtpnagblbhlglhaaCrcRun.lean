/- crc.run, Sum, More, Holds: a register that goes on over bytes. Conditions: those that each states. -/
import Derived.Test.YtpnagblbhlglhaaCrcHalf
import Derived.Test.YtpnagblbhlglhaaBytes
namespace Go.Proofs.Ytpnagblbhlglhaa
open Go.RowKit

/-- The register behind k bytes. -/
def regTo (s : Nat) (l : List Nat) (k : Nat) : Nat := reg s (l.take k)
theorem regTo_succ (s : Nat) (l : List Nat) (k : Nat) (h : k < l.length) : regTo s l (k + 1) = st8 (regTo s l k ^^^ l[k]) := by
  unfold regTo
  rw [List.take_succ_eq_append_getElem h, reg_append]
  rfl
theorem regTo_all (s : Nat) (l : List Nat) : regTo s l l.length = reg s l := by unfold regTo; rw [List.take_length]
theorem regTo_lt {s : Nat} {l : List Nat} (k : Nat) (hs : s < 4294967296) (hl : Small l) : regTo s l k < 4294967296 := reg_lt hs (hl.take k)

set_option maxHeartbeats 1000000 in
set_option maxRecDepth 100000 in
theorem run_any (w : World) (B : Nat) (A : Option Addr) (n c s : Nat) (bs : List Nat) (h : Reads w B 1 A n (byts bs)) (hB : B ≤ w.heap.size) (hbs : Small bs) (hs : s < 4294967296) (hn : n ≤ 9223372036854775807) :
    Calls Try.prog 66 #[.int .u32 s, .slice A n c] w fun e w' => e = .returned (.int .u32 (reg s bs)) ∧ Below w.heap.size w w' := by
  have hl : bs.length = n := by have := h.1; rw [byts_length] at this; omega
  have HL := Lib.hid hl
  clear hl
  go_enter Try.func66, Try.ntmps66
  go_wp2_with (first | (go_at_call 86; refine (half_any _).mono ?_; rintro e w1 ⟨rfl, b1⟩) | (refine wpList_store_blk rfl 142 _ _ rfl _ 142 (tabV 16 fun _ => 0) (tabV 16 (stN 4)) (Blk.new _ 142 _) rfl rfl (by kernel_rfl) (by kernel_rfl) (by kernel_rfl) ?_; intro w3 z3 f3))
  have b3 : Below w.heap.size w w3 := (b1.alloc b1.size _).trans (f3.below (B := w.heap.size) (fun k e => by have := b1.size; omega) (by have := b1.size; simp; omega))
  have r3 := h.below (b3.mono hB)
  clear f3
  go_loop [0, 11] (fun sv iv => ∃ k : Nat, k ≤ n ∧ iv = .int .i64 k ∧ sv = .int .u32 (regTo s bs k)) (fun _ iv => n - (intOf iv).toNat)
  case atStart => exact ⟨0, by omega, rfl, rfl⟩
  case round =>
    obtain ⟨k, hk, rfl, rfl⟩ := hrel
    have q1 := regTo_lt k hs hbs
    by_cases hlt : k < n
    · obtain ⟨ad, u, rfl, hab, hxu, hcell⟩ := r3.at_ hlt
      have hl := HL.out
      have hk2 : k < bs.length := by omega
      have hstep := regTo_succ s bs k hk2
      have hc := hbs.at_ k hk2
      obtain ⟨cc, hcc⟩ : ∃ cc, bs[k] = cc := ⟨_, rfl⟩
      have hu : u = .int .u8 (cc : Int) := by
        simp only [byts, List.getElem?_map, List.getElem?_eq_getElem hk2, Option.map_some] at hxu
        injection hxu with hxu
        rw [← hxu, hcc]
      rw [hcc] at hc hstep
      subst hu
      clear hxu hcc hl
      obtain ⟨r, hr⟩ : ∃ r, regTo s bs k = r := ⟨_, rfl⟩
      rw [hr] at q1 hstep ⊢
      obtain ⟨x, hx⟩ : ∃ x, r ^^^ cc = x := ⟨_, rfl⟩
      have x1 : x < 4294967296 := by rw [← hx]; exact xor_lt32 q1 (by omega)
      obtain ⟨m1, hm1⟩ : ∃ m, x % 16 = m := ⟨_, rfl⟩
      have m1l : m1 < 16 := by omega
      obtain ⟨y, hy⟩ : ∃ y, stN 4 x = y := ⟨_, rfl⟩
      have y1 : y < 4294967296 := by rw [← hy]; exact stN_lt 4 x1
      obtain ⟨m2, hm2⟩ : ∃ m, y % 16 = m := ⟨_, rfl⟩
      have m2l : m2 < 16 := by omega
      obtain ⟨t1, ht1⟩ : ∃ t, stN 4 m1 = t := ⟨_, rfl⟩
      obtain ⟨t2, ht2⟩ : ∃ t, stN 4 m2 = t := ⟨_, rfl⟩
      obtain ⟨z, hz⟩ : ∃ z, stN 4 y = z := ⟨_, rfl⟩
      have t1l : t1 < 4294967296 := by rw [← ht1]; exact stN_lt 4 (by omega)
      have t2l : t2 < 4294967296 := by rw [← ht2]; exact stN_lt 4 (by omega)
      have hfin : regTo s bs (k + 1) = z := by rw [hstep, hx, ← hz, ← hy]; exact stN_add 4 4 x
      -- the walk's own forms
      have E1 : bits .xor .u32 (r : Int) (cc : Int) = (x : Int) := by rw [xor_cast _ _ q1 (by omega), hx]
      have E2 : bits .and .u32 (x : Int) 15 = (m1 : Int) := by
        have := u32_and_nat x 15 x1 (by decide)
        rw [show x &&& 15 = x % 16 from Nat.and_two_pow_sub_one_eq_mod x 4, hm1] at this
        exact this
      have E3 : bits .xor .u32 ((x : Int) / 16) (t1 : Int) = (y : Int) := by
        rw [show ((x : Int) / 16) = ((x / 16 : Nat) : Int) by omega, xor_cast _ _ (by omega) t1l, ← ht1, ← hm1, ← st4_table, hy]
      have E4 : bits .and .u32 (y : Int) 15 = (m2 : Int) := by
        have := u32_and_nat y 15 y1 (by decide)
        rw [show y &&& 15 = y % 16 from Nat.and_two_pow_sub_one_eq_mod y 4, hm2] at this
        exact this
      have E5 : bits .xor .u32 ((y : Int) / 16) (t2 : Int) = (z : Int) := by
        rw [show ((y : Int) / 16) = ((y / 16 : Nat) : Int) by omega, xor_cast _ _ (by omega) t2l, ← ht2, ← hm2, ← st4_table, hz]
      have c1 : w3.cell? ⟨w1.heap.size, m1, none⟩ = some (.int .u32 (t1 : Int)) := by rw [z3.cell, tabV_at 16 _ m1 m1l, ht1]
      have c2 : w3.cell? ⟨w1.heap.size, m2, none⟩ = some (.int .u32 (t2 : Int)) := by rw [z3.cell, tabV_at 16 _ m2 m2l, ht2]
      have HF := Lib.hid hfin
      have i1 : (m1 : Int) < 16 := by omega
      have i2 : (m2 : Int) < 16 := by omega
      clear hfin hstep hx hm1 hy hm2 ht1 ht2 hz hr
      go_wp2
      go_round
      case rel => exact ⟨k + 1, by omega, by go_num, by rw [HF.out]⟩
      case measure => simp [intOf]; omega
    · have hfin : regTo s bs k = reg s bs := by
        have : k = bs.length := by have := HL.out; omega
        rw [this, regTo_all]
      have HF := Lib.hid hfin
      clear hfin
      go_wp2
      go_ret
      exact ⟨ret_int (by rw [HF.out]), b3⟩

end Go.Proofs.Ytpnagblbhlglhaa
