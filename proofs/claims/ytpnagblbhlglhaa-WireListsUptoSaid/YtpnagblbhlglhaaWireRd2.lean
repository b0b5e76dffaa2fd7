/- wire.Reader: Signed, count, Bytes; Open. Conditions: those that each states. -/
import Derived.Test.YtpnagblbhlglhaaWireRdNum
import Derived.Deep.RegionHeld3
import Derived.Deep.RegionLaw
import Derived.Lib.Zigzag
namespace Go.Proofs.Ytpnagblbhlglhaa
open Go.RowKit

theorem rdN_lt : ∀ (l : List Nat) (i n v k : Nat), i ≤ 9 → n < 2 ^ (7 * i) → (∀ c ∈ l, c < 256) → rdN i n l = some (v, k) → v < 18446744073709551616 ∧ i < k ∧ k ≤ i + l.length := by
  intro l
  induction l with
  | nil => intro i n v k _ _ _ h; simp [rdN] at h
  | cons d l ih =>
    intro i n v k hi hn hsm h
    rw [rdN_cons] at h
    split at h
    · cases h
    · rename_i hs
      have hlt := digit_lt n i d hn
      split at h
      · rename_i hd
        injection h with h
        injection h with h1 h2
        refine ⟨?_, by omega, by simp; omega⟩
        rw [← h1]
        by_cases h9 : i = 9
        · subst h9
          have hs9 := digit_small 9 d (by omega) (fun _ => by omega)
          have hd1 : d % 128 ≤ 1 := by omega
          have h3 : d % 128 * 2 ^ (7 * 9) ≤ 1 * 2 ^ (7 * 9) := Nat.mul_le_mul_right _ hd1
          have h4 : 2 ^ (7 * 9) + 1 * 2 ^ (7 * 9) = 18446744073709551616 := by decide
          exact Nat.lt_of_lt_of_eq (Nat.add_lt_add_of_lt_of_le hn h3) h4
        · have h3 : 2 ^ (7 * (i + 1)) ≤ 2 ^ 63 := Nat.pow_le_pow_right (by omega) (by omega)
          have h4 : (2 : Nat) ^ 63 < 18446744073709551616 := by decide
          exact Nat.lt_trans (Nat.lt_of_lt_of_le hlt h3) h4
      · obtain ⟨a, b, c'⟩ := ih (i + 1) _ v k (by omega) hlt (fun c hc => hsm c (by simp [hc])) h
        exact ⟨a, by omega, by simp; omega⟩
theorem rd_bounds (l : List Nat) (h : Small l) : rdV l < 18446744073709551616 ∧ rdK l ≤ l.length ∧ (rdE l = 0 ∨ rdE l = 4) ∧ (rdE l = 0 → 0 < rdK l) ∧ (rdE l = 4 → rdV l = 0 ∧ rdK l = 0) := by
  unfold rdV rdK rdE
  cases hr : rdNum l with
  | none => simp
  | some p =>
    obtain ⟨v, k⟩ := p
    obtain ⟨h1, h2, h3⟩ := rdN_lt l 0 0 v k (by omega) (by decide) h hr
    simp only [h1, true_and]
    exact ⟨by omega, by simp, fun _ => h2, fun h => by cases h⟩

/-! ### Signed -/
def unzig (u : Nat) : Int := if u % 2 = 1 then -((u / 2 : Nat) : Int) - 1 else ((u / 2 : Nat) : Int)
theorem unzig_zig (s : Int) : unzig (zig s) = s := by
  unfold unzig zig
  split <;> split <;> omega

theorem unzig_bits (u : Nat) (hu : u < 18446744073709551616) : bits .xor .i64 ((u : Int) / 2) (IntKind.i64.wrap (-IntKind.i64.wrap (bits .and .u64 (u : Int) 1))) = unzig u := by
  rw [Lib.u64_and1 _ (by omega) (by omega)]
  have hc : ∀ a b : Int, bits .xor .i64 a b = bits .xor .i64 b a := fun a b => by
    show IntKind.i64.wrap ((BitVec.ofInt 64 a ^^^ BitVec.ofInt 64 b).toNat : Int) = IntKind.i64.wrap ((BitVec.ofInt 64 b ^^^ BitVec.ofInt 64 a).toNat : Int)
    rw [BitVec.xor_comm]
  unfold unzig
  have hd : (u : Int) / 2 = ((u / 2 : Nat) : Int) := by omega
  rcases Nat.mod_two_eq_zero_or_one u with h2 | h2
  · rw [if_neg (by omega), show (u : Int) % 2 = 0 by omega, show IntKind.i64.wrap (-IntKind.i64.wrap 0) = 0 by decide, hd]
    show IntKind.i64.wrap ((BitVec.ofInt 64 ((u / 2 : Nat) : Int) ^^^ BitVec.ofInt 64 0).toNat : Int) = _
    rw [show BitVec.ofInt 64 0 = 0#64 by decide, BitVec.xor_zero, BitVec.ofInt_natCast, BitVec.toNat_ofNat, Nat.mod_eq_of_lt (by omega), IntKind.wrap_i64]
    omega
  · rw [if_pos h2, show (u : Int) % 2 = 1 by omega, show IntKind.i64.wrap (-IntKind.i64.wrap 1) = -1 by decide, hc, hd, Lib.i64_not _ (by omega)]

set_option maxHeartbeats 1000000 in
set_option maxRecDepth 100000 in
theorem rdsigned_any (w : World) (r : Nat) (A : Addr) (c : Nat) (bs : List Nat) (at_ : Nat) (h : RdI w r A c bs at_) :
    Calls Try.prog 36 #[.pointer (some ⟨r, 0, none⟩)] w fun e w' => e = .returned (.tuple #[.int .i64 (unzig (rdV (bs.drop at_))), .int .i64 (rdE (bs.drop at_))]) ∧ RdI w' r A c bs (at_ + rdK (bs.drop at_)) ∧ Fr (fun k => k = r) w w' := by
  have hn := rdnum_any w r A c bs at_ h
  obtain ⟨hv, _⟩ := rd_bounds (bs.drop at_) (h.small.drop at_)
  obtain ⟨V, hV⟩ : ∃ V, rdV (bs.drop at_) = V := ⟨_, rfl⟩
  obtain ⟨E, hE⟩ : ∃ E, rdE (bs.drop at_) = E := ⟨_, rfl⟩
  obtain ⟨K, hK⟩ : ∃ K, rdK (bs.drop at_) = K := ⟨_, rfl⟩
  rw [hV, hE, hK] at hn
  rw [hV] at hv
  rw [hV, hE, hK]
  have hz := unzig_bits V hv
  obtain ⟨Z, hZ⟩ : ∃ Z, unzig V = Z := ⟨_, rfl⟩
  rw [hZ] at hz
  rw [hZ]
  have hz' : bits .xor .i64 ((V : Int) / 2) (wrap64 (-wrap64 (bits .and .u64 (V : Int) 1))) = Z := by rw [← hz]; simp only [IntKind.wrap_i64, wrap64]
  clear hV hE hK h hZ
  go_enter Try.func36, Try.ntmps36
  go_wp2_with (go_at_call 35; refine hn.mono ?_; clear hn; rintro e w1 ⟨rfl, h1, f1⟩)
  go_ret2
  exact ⟨rfl, h1, f1⟩

end Go.Proofs.Ytpnagblbhlglhaa
