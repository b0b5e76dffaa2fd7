/- wire.Bytes, Signed, Flag, Join and the document's; spoil. Conditions: those that each states. -/
import Derived.Test.YtpnagblbhlglhaaWireNum
import Derived.Test.YtpnagblbhlglhaaFlat
import Derived.Test.YtpnagblbhlglhaaCrcMath
namespace Go.Proofs.Ytpnagblbhlglhaa
open Go.RowKit

/-- A call that tells bytes in a row of its own, and leaves all that was there. -/
def Tells (w : World) (f : FuncId) (args : Array Value) (bs : List Nat) : Prop :=
  Calls Try.prog f args w fun e w' => ∃ A c, e = .returned (.slice A bs.length c) ∧ w'.ownsRow w.heap.size 5 1 (.slice A bs.length c) bs.length (byts bs) ∧ Below w.heap.size w w'

theorem number_tells (w : World) (n : Nat) (hn : n < 18446744073709551616) : Tells w 24 #[.int .u64 n] (numF n) := number_any w n hn
theorem refNumber_tells (w : World) (n : Nat) (hn : n < 18446744073709551616) : Tells w 27 #[.int .u64 n] (numF n) := refNumber_any w n hn

set_option maxHeartbeats 1000000 in
set_option maxRecDepth 100000 in
theorem bytes_tells (w : World) (B : Nat) (A : Option Addr) (n c : Nat) (bs : List Nat) (h : Reads w B 1 A n (byts bs)) (hB : B ≤ w.heap.size) (hn : n ≤ 140737488355318) : Tells w 23 #[.slice A n c] (numF n ++ bs) := by
  obtain ⟨i0, hi, hz0, hz1, hz2⟩ := info_parts Try.info5w
  have hl : bs.length = n := by have := h.1; rw [byts_length] at this; omega
  have hcall := number_any w n (by omega)
  have h10 := numF_le n (by omega)
  obtain ⟨F, hF⟩ : ∃ F, numF n = F := ⟨_, rfl⟩
  rw [hF] at hcall h10 ⊢
  clear hF
  have HL := Lib.hid hl
  clear hl
  unfold Tells
  go_enter Try.func23, Try.ntmps23
  go_wp2_with (first | (go_at_call 24; refine hcall.mono ?_; clear hcall; rintro e w1 ⟨A1, c1, rfl, ho, hb⟩; have hr := h.below (hb.mono hB); have hsz := hb.size) | (at_builtin; refine wpList_append_any _ rfl _ _ 24 rfl w.heap.size 5 i0 (.int .u8 0) 1 1 Try.underlying24 hi hz0 hz1 hz2 rfl (by decide) _ _ _ rfl ho B A n c _ rfl hr ?c1 ?c2 ?c3 ?c4 ?_))
  case c1 => exact byts_one _
  case c2 => unfold maxLen; omega
  case c3 => omega
  case c4 => exact hsz
  intro v2 w2 ho2 hg2 _
  obtain ⟨A2, c2, rfl⟩ := own_shape ho2
  go_wp2
  go_ret
  rw [List.length_append, HL.out, byts_append]
  exact ⟨A2, c2, rfl, ho2, hb.grown hg2 hsz (own_base ho)⟩

set_option maxHeartbeats 1000000 in
set_option maxRecDepth 100000 in
theorem refBytes_tells (w : World) (B : Nat) (A : Option Addr) (n c : Nat) (bs : List Nat) (h : Reads w B 1 A n (byts bs)) (hB : B ≤ w.heap.size) (hn : n ≤ 140737488355318) : Tells w 26 #[.slice A n c] (numF n ++ bs) := by
  obtain ⟨i0, hi, hz0, hz1, hz2⟩ := info_parts Try.info5w
  have hl : bs.length = n := by have := h.1; rw [byts_length] at this; omega
  have hcall := refNumber_any w n (by omega)
  have h10 := numF_le n (by omega)
  obtain ⟨F, hF⟩ : ∃ F, numF n = F := ⟨_, rfl⟩
  rw [hF] at hcall h10 ⊢
  clear hF
  have HL := Lib.hid hl
  clear hl
  unfold Tells
  go_enter Try.func26, Try.ntmps26
  go_wp2_with (first | (go_at_call 27; refine hcall.mono ?_; clear hcall; rintro e w1 ⟨A1, c1, rfl, ho, hb⟩; have hr := h.below (hb.mono hB); have hsz := hb.size) | (at_builtin; refine wpList_append_any _ rfl _ _ 24 rfl w.heap.size 5 i0 (.int .u8 0) 1 1 Try.underlying24 hi hz0 hz1 hz2 rfl (by decide) _ _ _ rfl ho B A n c _ rfl hr ?c1 ?c2 ?c3 ?c4 ?_))
  case c1 => exact byts_one _
  case c2 => unfold maxLen; omega
  case c3 => omega
  case c4 => exact hsz
  intro v2 w2 ho2 hg2 _
  obtain ⟨A2, c2, rfl⟩ := own_shape ho2
  go_wp2
  go_ret
  rw [List.length_append, HL.out, byts_append]
  exact ⟨A2, c2, rfl, ho2, hb.grown hg2 hsz (own_base ho)⟩

/-! ### Flags -/
def flagF (b : Bool) : List Nat := if b then [1] else [0]
/-- A new row of one byte. -/
theorem own_one (w : World) (v : Nat) : (w.alloc (.cells #[.int .u8 (v : Int)] 5)).ownsRow w.heap.size 5 1 (.slice (some ⟨w.heap.size, 0, none⟩) 1 1) 1 (byts [v]) :=
  ⟨rfl, .inr ⟨w.heap.size, 1, #[.int .u8 (v : Int)], rfl, Nat.le_refl _, heap_alloc_new w _, Nat.le_refl _, by unfold maxLen; omega, rfl, rfl⟩⟩
theorem flag_tells (w : World) (b : Bool) : Tells w 30 #[.bool b] (flagF b) := by
  cases b
  · unfold Tells
    go_enter Try.func30, Try.ntmps30
    go_wp2
    go_ret
    exact ⟨_, _, rfl, own_one w 0, (Below.refl _ w).alloc (Nat.le_refl _) _⟩
  · unfold Tells
    go_enter Try.func30, Try.ntmps30
    go_wp2
    go_ret
    exact ⟨_, _, rfl, own_one w 1, (Below.refl _ w).alloc (Nat.le_refl _) _⟩
theorem refFlag_tells (w : World) (b : Bool) : Tells w 31 #[.bool b] (flagF b) := by
  cases b
  · unfold Tells
    go_enter Try.func31, Try.ntmps31
    go_wp2
    go_ret
    exact ⟨_, _, rfl, own_one w 0, (Below.refl _ w).alloc (Nat.le_refl _) _⟩
  · unfold Tells
    go_enter Try.func31, Try.ntmps31
    go_wp2
    go_ret
    exact ⟨_, _, rfl, own_one w 1, (Below.refl _ w).alloc (Nat.le_refl _) _⟩

/-! ### Signed numbers -/
def zig (s : Int) : Nat := if s < 0 then 2 * (-(s + 1)).toNat + 1 else 2 * s.toNat
theorem zig_lt {s : Int} (h0 : -9223372036854775808 ≤ s) (h1 : s ≤ 9223372036854775807) : zig s < 18446744073709551616 := by unfold zig; split <;> omega

set_option maxHeartbeats 400000 in
set_option maxRecDepth 100000 in
theorem folded_any (w : World) (s : Int) (h0 : -9223372036854775808 ≤ s) (h1 : s ≤ 9223372036854775807) :
    Calls Try.prog 70 #[.int .i64 s] w fun e w' => e = .returned (.int .u64 (zig s)) ∧ w = w' := by
  by_cases hs : s < 0
  · go_enter Try.func70, Try.ntmps70
    go_wp2
    go_ret
    refine ⟨ret_int ?_, rfl⟩
    unfold zig
    rw [if_pos hs]
    omega
  · go_enter Try.func70, Try.ntmps70
    go_wp2
    go_ret
    refine ⟨ret_int ?_, rfl⟩
    unfold zig
    rw [if_neg (by omega)]
    omega

set_option maxHeartbeats 400000 in
set_option maxRecDepth 100000 in
theorem refSigned_tells (w : World) (s : Int) (h0 : -9223372036854775808 ≤ s) (h1 : s ≤ 9223372036854775807) : Tells w 29 #[.int .i64 s] (numF (zig s)) := by
  have hf := folded_any w s h0 h1
  have hz := zig_lt h0 h1
  obtain ⟨z, hz'⟩ : ∃ z, zig s = z := ⟨_, rfl⟩
  rw [hz'] at hf hz ⊢
  have hn := refNumber_any w z hz
  unfold Tells
  go_enter Try.func29, Try.ntmps29
  go_wp2_with (first | (go_at_call 70; refine hf.mono ?_; clear hf; rintro e w1 ⟨rfl, rfl⟩) | (go_at_call 27; refine hn.mono ?_; clear hn; rintro e w1 ⟨A1, c1, rfl, ho, hb⟩))
  go_ret
  exact ⟨A1, c1, rfl, ho, hb⟩

theorem zig_bits (s : Int) (h0 : -9223372036854775808 ≤ s) (h1 : s ≤ 9223372036854775807) :
    bits .xor .u64 (IntKind.u64.wrap (IntKind.u64.wrap s * 2)) (IntKind.u64.wrap (s / 9223372036854775808)) = ((zig s : Nat) : Int) := by
  have hw : ∀ x : Int, IntKind.u64.wrap x = x % 18446744073709551616 := fun x => by rw [IntKind.wrap_u64]
  simp only [hw]
  by_cases hs : s < 0
  · have e1 : (s % 18446744073709551616 * 2) % 18446744073709551616 = ((2 * s + 18446744073709551616).toNat : Int) := by omega
    have e2 : s / 9223372036854775808 % 18446744073709551616 = ((18446744073709551615 : Nat) : Int) := by omega
    rw [e1, e2, u64_xor_nat _ _ (by omega) (by omega)]
    have := compl_gen 64 (2 * s + 18446744073709551616).toNat (by rw [show (2 : Nat) ^ 64 = 18446744073709551616 by decide]; omega)
    rw [show (2 : Nat) ^ 64 = 18446744073709551616 by decide] at this
    rw [show (18446744073709551615 : Nat) = 18446744073709551616 - 1 by decide, ← this]
    unfold zig
    rw [if_pos hs]
    omega
  · have e1 : (s % 18446744073709551616 * 2) % 18446744073709551616 = ((2 * s.toNat : Nat) : Int) := by omega
    have e2 : s / 9223372036854775808 % 18446744073709551616 = ((0 : Nat) : Int) := by omega
    rw [e1, e2, u64_xor_nat _ _ (by omega) (by omega), Nat.xor_zero]
    unfold zig
    rw [if_neg hs]

set_option maxHeartbeats 400000 in
set_option maxRecDepth 100000 in
theorem signed_tells (w : World) (s : Int) (h0 : -9223372036854775808 ≤ s) (h1 : s ≤ 9223372036854775807) : Tells w 28 #[.int .i64 s] (numF (zig s)) := by
  have hz := zig_lt h0 h1
  have hzb := zig_bits s h0 h1
  obtain ⟨z, hz'⟩ : ∃ z, zig s = z := ⟨_, rfl⟩
  rw [hz'] at hz hzb ⊢
  have hn := number_any w z hz
  clear hz'
  unfold Tells
  go_enter Try.func28, Try.ntmps28
  go_wp2_with (go_at_call 24; refine hn.mono ?_; clear hn; rintro e w1 ⟨A1, c1, rfl, ho, hb⟩)
  go_ret
  exact ⟨A1, c1, rfl, ho, hb⟩

/-! ### Join -/
set_option maxHeartbeats 1000000 in
set_option maxRecDepth 100000 in
theorem join_tells (w : World) (B : Nat) (A : Option Addr) (n c : Nat) (ls : List (List Nat)) (h : Reads2 w B A n ls) (hB : B ≤ w.heap.size) (hn : n ≤ 140737488355318) (hl : ls.flatten.length ≤ 140737488355318) : Tells w 25 #[.slice A n c] ls.flatten := by
  obtain ⟨i0, hi, hz0, hz1, hz2⟩ := info_parts Try.info5w
  have hlen := h.len
  have HL := Lib.hid hlen
  clear hlen
  unfold Tells
  go_enter Try.func25, Try.ntmps25
  go_wp2
  have ho : (w.alloc (.cells #[] 5)).ownsRow w.heap.size 5 1 (.slice (some ⟨w.heap.size, 0, none⟩) 0 0) 0 [] := World.ownsRow_made w #[] 0 (Nat.le_refl _) (by unfold maxLen; omega) rfl
  have hb0 : Below w.heap.size w (w.alloc (.cells #[] 5)) := (Below.refl _ w).alloc (Nat.le_refl _) _
  generalize hw : World.alloc w _ = w1
  rw [hw] at ho hb0
  clear hw
  go_loopw [3, 9] (fun sv iv wr => ∃ (k : Nat) (G : Option Addr) (gc : Nat), k ≤ n ∧ iv = .int .i64 k ∧ sv = .slice G (flatTo ls k).length gc ∧ wr.ownsRow w.heap.size 5 1 (.slice G (flatTo ls k).length gc) (flatTo ls k).length (byts (flatTo ls k)) ∧ Below w.heap.size w wr) (fun _ iv _ => n - (intOf iv).toNat)
  case atStart => exact ⟨0, _, 0, by omega, rfl, rfl, ho, hb0⟩
  case round =>
    clear ho hb0
    obtain ⟨k, G, gc, hk, rfl, rfl, ho, hb⟩ := hrel
    have hsz := hb.size
    have hfl := flatTo_le ls k
    by_cases hlt : k < n
    · have hl' := HL.out
      have hk2 : k < ls.length := by omega
      obtain ⟨ad, A', c', rfl, hab, hc, hr, hs, hm⟩ := (h.below (hb.mono hB)).at_ k hk2
      have hstep := flatTo_succ ls k hk2
      have hfl2 := flatTo_le ls (k + 1)
      have hln : (flatTo ls (k + 1)).length = (flatTo ls k).length + ls[k].length := by rw [hstep, List.length_append]
      have k0 : (0 : Int) ≤ (k : Int) := by omega
      have k1 : (k : Int) < (n : Int) := by omega
      have HS := Lib.hid hstep
      have HN := Lib.hid hln
      have hbd : (flatTo ls k).length + ls[k].length ≤ 140737488355318 := by omega
      clear hstep hl' hln hfl2
      go_wp2_with (at_builtin; refine wpList_append_any _ rfl _ _ 24 rfl w.heap.size 5 i0 (.int .u8 0) 1 1 Try.underlying24 hi hz0 hz1 hz2 rfl (by decide) _ _ _ rfl ho B A' _ c' _ rfl hr ?c1 ?c2 ?c3 ?c4 ?_)
      case c1 => exact byts_one _
      case c2 => unfold maxLen; omega
      case c3 => omega
      case c4 => exact hsz
      intro v2 w2 ho2 hg2 _
      obtain ⟨G2, g2, rfl⟩ := own_shape ho2
      go_wp2
      go_roundw
      case rel =>
        refine ⟨k + 1, G2, g2, by omega, by go_num, by rw [HN.out], ?_, hb.grown hg2 hsz (own_base ho)⟩
        rw [HN.out, HS.out, byts_append]
        exact ho2
      case measure => simp [intOf]; omega
    · have hk3 : flatTo ls k = ls.flatten := by
        have : k = ls.length := by have := HL.out; omega
        rw [this, flatTo_all]
      rw [hk3] at ho ⊢
      go_wp2
      go_ret
      exact ⟨G, gc, rfl, ho, hb⟩

end Go.Proofs.Ytpnagblbhlglhaa
