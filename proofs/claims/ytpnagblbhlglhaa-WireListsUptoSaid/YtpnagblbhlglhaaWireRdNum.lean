/- wire.Reader.Number. Conditions: those that it states. -/
import Derived.Test.YtpnagblbhlglhaaWireRd
import Derived.WalkMore
namespace Go.Proofs.Ytpnagblbhlglhaa
open Go.RowKit

def rdV (l : List Nat) : Nat := match rdNum l with | some (v, _) => v | none => 0
def rdK (l : List Nat) : Nat := match rdNum l with | some (_, k) => k | none => 0
def rdE (l : List Nat) : Nat := match rdNum l with | some _ => 0 | none => 4
theorem rd_some {l : List Nat} {v k : Nat} (h : rdNum l = some (v, k)) : rdV l = v ∧ rdK l = k ∧ rdE l = 0 := by unfold rdV rdK rdE; rw [h]; exact ⟨rfl, rfl, rfl⟩
theorem rd_none {l : List Nat} (h : rdNum l = none) : rdV l = 0 ∧ rdK l = 0 ∧ rdE l = 4 := by unfold rdV rdK rdE; rw [h]; exact ⟨rfl, rfl, rfl⟩
theorem rdN_cons (i n c : Nat) (r : List Nat) : rdN i n (c :: r) = if (i = 9 ∧ 1 < c) ∨ (0 < i ∧ c = 0) then none else if c < 128 then some (n + c % 128 * 2 ^ (7 * i), i + 1) else rdN (i + 1) (n + c % 128 * 2 ^ (7 * i)) r := rfl

theorem digit_lt (n i d : Nat) (hn : n < 2 ^ (7 * i)) : n + d % 128 * 2 ^ (7 * i) < 2 ^ (7 * (i + 1)) := by
  have e : 2 ^ (7 * i + 7) = 2 ^ (7 * i) * 2 ^ 7 := Nat.pow_add 2 (7 * i) 7
  rw [Nat.mul_add, Nat.mul_one, e]
  clear e
  obtain ⟨P, hP⟩ : ∃ P, 2 ^ (7 * i) = P := ⟨_, rfl⟩
  rw [hP] at hn ⊢
  have h2 : d % 128 * P ≤ 127 * P := Nat.mul_le_mul_right _ (by omega)
  obtain ⟨X, hX⟩ : ∃ X, d % 128 * P = X := ⟨_, rfl⟩
  rw [hX] at h2 ⊢
  have e7 : P * 2 ^ 7 = 128 * P := by rw [Nat.mul_comm]
  rw [e7]
  omega
theorem digit_small (i d : Nat) (hi : i ≤ 9) (h9 : i = 9 → d ≤ 1) : d % 128 * 2 ^ (7 * i) < 18446744073709551616 := by
  by_cases h : i = 9
  · subst h
    have h1 : d % 128 ≤ 1 := by have := h9 rfl; omega
    have h2 : d % 128 * 2 ^ (7 * 9) ≤ 1 * 2 ^ (7 * 9) := Nat.mul_le_mul_right _ h1
    have h3 : 1 * 2 ^ (7 * 9) < 18446744073709551616 := by decide
    exact Nat.lt_of_le_of_lt h2 h3
  · have h1 : d % 128 ≤ 127 := by omega
    have h2 : d % 128 * 2 ^ (7 * i) ≤ 127 * 2 ^ (7 * i) := Nat.mul_le_mul_right _ h1
    have h3 : 2 ^ (7 * i) ≤ 2 ^ 56 := Nat.pow_le_pow_right (by omega) (by omega)
    have h4 : 127 * 2 ^ 56 < 18446744073709551616 := by decide
    exact Nat.lt_of_le_of_lt (Nat.le_trans h2 (Nat.mul_le_mul_left _ h3)) h4
theorem digit_bits (n i d : Nat) (hn : n < 2 ^ (7 * i)) (hi : i ≤ 9) (h9 : i = 9 → d ≤ 1) (hd : d < 256) :
    bits .or .u64 (n : Int) (IntKind.u64.wrap (IntKind.u64.wrap (bits .and .u8 (d : Int) 127) * 2 ^ (7 * i))) = ((n + d % 128 * 2 ^ (7 * i) : Nat) : Int) := by
  have hw : ∀ x : Nat, x < 18446744073709551616 → IntKind.u64.wrap (x : Int) = (x : Int) := fun x hx => by rw [IntKind.wrap_u64]; omega
  have e1 : bits .and .u8 (d : Int) 127 = ((d % 128 : Nat) : Int) := by
    have := u8_and_nat d 127 hd (by decide)
    rw [nat_mask7] at this
    exact this
  have hs := digit_small i d hi h9
  have e2 : ((d % 128 : Nat) : Int) * 2 ^ (7 * i) = ((d % 128 * 2 ^ (7 * i) : Nat) : Int) := by simp
  have hn64 : n < 18446744073709551616 := by
    have h3 : 2 ^ (7 * i) ≤ 2 ^ 63 := Nat.pow_le_pow_right (by omega) (by omega)
    have h4 : (2 : Nat) ^ 63 < 18446744073709551616 := by decide
    exact Nat.lt_trans (Nat.lt_of_lt_of_le hn h3) h4
  rw [e1, hw _ (by omega), e2, hw _ hs, u64_or_nat _ _ hn64 hs, Nat.or_comm, nat_join (7 * i) _ n (Nat.mul_mod_left _ _) hn, Nat.add_comm]

set_option maxHeartbeats 2000000 in
set_option maxRecDepth 100000 in
theorem rdnum_any (w : World) (r : Nat) (A : Addr) (c : Nat) (bs : List Nat) (at_ : Nat) (h : RdI w r A c bs at_) :
    Calls Try.prog 35 #[.pointer (some ⟨r, 0, none⟩)] w fun e w' => e = .returned (.tuple #[.int .u64 (rdV (bs.drop at_)), .int .i64 (rdE (bs.drop at_))]) ∧ RdI w' r A c bs (at_ + rdK (bs.drop at_)) ∧ Fr (fun k => k = r) w w' := by
  have c0 : w.cell? ⟨r, 0, none⟩ = some (.slice (some A) bs.length c) := (h.blk.cell 0).trans rfl
  have c1 : w.cell? ⟨r, 1, none⟩ = some (.int .i64 at_) := (h.blk.cell 1).trans rfl
  have f1 := h.blk.frozen 1
  have ht := there_any w r A c bs at_ h
  have hle := h.le
  have hlen := h.len
  go_enter Try.func35, Try.ntmps35
  go_wp2
  go_step3
  go_wp2_with (go_at_call 71; refine ht.mono ?_; clear ht; rintro e w' ⟨rfl, rfl⟩)
  go_quiet (fail)
  go_wp2
  go_step3
  go_wp2
  generalize hw : w.drewN _ = wo
  have hf : Fr (fun k => k = r) w wo := by subst hw; exact (Fr.refl _ w).drewN _
  have ho : RdI wo r A c bs at_ := by subst hw; exact h.drewN _
  replace c0 : wo.cell? ⟨r, 0, none⟩ = some (.slice (some A) bs.length c) := (ho.blk.cell 0).trans rfl
  replace f1 := ho.blk.frozen 1
  replace c1 : wo.cell? ⟨r, 1, none⟩ = some (.int .i64 at_) := (ho.blk.cell 1).trans rfl
  clear hw h
  go_loop [4, 5, 6] (fun nv av sv => ∃ (i n s : Nat), i ≤ 9 ∧ s = 7 * i ∧ n < 2 ^ (7 * i) ∧ at_ + i ≤ bs.length ∧ nv = .int .u64 n ∧ av = .int .i64 (at_ + i : Nat) ∧ sv = .int .u64 s ∧ rdNum (bs.drop at_) = rdN i n (bs.drop (at_ + i))) (fun _ av _ => bs.length - (intOf av).toNat)
  case atStart => exact ⟨0, 0, 0, by omega, rfl, by decide, by omega, rfl, rfl, rfl, rfl⟩
  case round =>
    obtain ⟨i, n, s, hi, hs, hn, hle2, rfl, rfl, rfl, hrd⟩ := hrel
    by_cases hlt : at_ + i < bs.length
    · rw [List.drop_eq_getElem_cons hlt, rdN_cons] at hrd
      obtain ⟨ad, v, e, hab, hxv, hcell⟩ := ho.reads.at_ hlt
      injection e with e
      subst e
      obtain ⟨d, hd⟩ : ∃ d, bs[at_ + i] = d := ⟨_, rfl⟩
      have hd8 : d < 256 := by rw [← hd]; exact ho.small.at_ _ hlt
      obtain rfl : v = .int .u8 (d : Nat) := by
        simp [byts, List.getElem?_eq_getElem hlt, hd] at hxv
        exact hxv.symm
      rw [hd] at hrd
      obtain ⟨a, ha⟩ : ∃ a, at_ + i = a := ⟨_, rfl⟩
      rw [ha] at hlt hcell
      have hadd : at_ + (i + 1) = a + 1 := by omega
      rw [show at_ + i + 1 = a + 1 by omega] at hrd
      have k0 : (0 : Int) ≤ (a : Int) := by omega
      have k1 : (a : Int) < (bs.length : Int) := by omega
      rw [ha]
      have HR := Lib.hid hrd
      clear hrd hxv hd
      go_upto_region 8 with (fail)
      go_cut [6, 7, 44] from 30 to 60 (fun s6 s7 v wx => s6 = .int .u64 s ∧ s7 = .int .u8 d ∧ v = .bool (decide ((i = 9 ∧ 1 < d) ∨ (0 < i ∧ d = 0))) ∧ wx = wo)
      case first =>
        by_cases h1 : i = 9
        · have b1 : ((s : Int) == 63) = true := by rw [beq_iff_eq]; omega
          have b3 : (0 : Int) < (s : Int) := by omega
          by_cases h2 : 1 < d
          · have b2 : (1 : Int) < (d : Int) := by omega
            go_wp2
            go_meet
            exact ⟨by first | rfl | (congr 1; omega), by first | rfl | (congr 1; omega), by simp [h1, h2], rfl⟩
          · have b2 : decide ((1 : Int) < (d : Int)) = false := decide_eq_false (by omega)
            by_cases h4 : d = 0
            · have b4 : ((d : Int) == 0) = true := by rw [beq_iff_eq]; omega
              go_wp2
              go_meet
              exact ⟨by first | rfl | (congr 1; omega), by first | rfl | (congr 1; omega), by simp [h1, h4], rfl⟩
            · have b4 : ((d : Int) == 0) = false := by rw [beq_eq_false_iff_ne]; omega
              go_wp2
              go_meet
              exact ⟨by first | rfl | (congr 1; omega), by first | rfl | (congr 1; omega), by simp [h2, h4], rfl⟩
        · have b1 : ((s : Int) == 63) = false := by rw [beq_eq_false_iff_ne]; omega
          by_cases h3 : 0 < i
          · have b3 : (0 : Int) < (s : Int) := by omega
            by_cases h4 : d = 0
            · have b4 : ((d : Int) == 0) = true := by rw [beq_iff_eq]; omega
              go_wp2
              go_meet
              exact ⟨by first | rfl | (congr 1; omega), by first | rfl | (congr 1; omega), by simp [h3, h4], rfl⟩
            · have b4 : ((d : Int) == 0) = false := by rw [beq_eq_false_iff_ne]; omega
              go_wp2
              go_meet
              exact ⟨by first | rfl | (congr 1; omega), by first | rfl | (congr 1; omega), by simp [h1, h4], rfl⟩
          · have b3 : decide ((0 : Int) < (s : Int)) = false := decide_eq_false (by omega)
            go_wp2
            go_meet
            exact ⟨by first | rfl | (congr 1; omega), by first | rfl | (congr 1; omega), by simp [h1, h3], rfl⟩
      case rest =>
        obtain ⟨rfl, rfl, rfl, hwc⟩ := hcut
        replace hwc := hwc.symm
        subst hwc
        by_cases hstop : (i = 9 ∧ 1 < d) ∨ (0 < i ∧ d = 0)
        · have hr' := HR.out
          rw [if_pos hstop] at hr'
          obtain ⟨e1, e2, e3⟩ := rd_none hr'
          have hst2 := decide_eq_true hstop
          rw [hst2]
          clear hr' hn hst2
          go_wp2
          go_ret2
          exact ⟨by rw [e1, e3]; rfl, by rw [e2]; exact ho, hf⟩
        · have hr' := HR.out
          rw [if_neg hstop] at hr'
          have hst2 := decide_eq_false hstop
          rw [hst2]
          have hnd := digit_lt n i d hn
          have hnb := digit_bits n i d hn hi (fun h => by omega) hd8
          obtain ⟨n', hn'⟩ : ∃ n', n + d % 128 * 2 ^ (7 * i) = n' := ⟨_, rfl⟩
          rw [hn'] at hr' hnd hnb
          have HN := Lib.hid hnd
          have hi9 : 128 ≤ d → i + 1 ≤ 9 := by omega
          clear hn' hn hnd hst2 HR hstop
          by_cases hd1 : d < 128
          · rw [if_pos hd1] at hr'
            obtain ⟨e1, e2, e3⟩ := rd_some hr'
            have HE := Lib.hid (And.intro e1 (And.intro e2 e3))
            have hd2 : (d : Int) < 128 := by omega
            have hst := ho.set_ (a' := a + 1) (by omega)
            have hf2 : Fr (fun k => k = r) w (wo.setCell ⟨r, 1, none⟩ (.int .i64 ((a + 1 : Nat) : Int))) := hf.setCell (p := ⟨r, 1, none⟩) (fun _ => rfl) _
            have HS := Lib.hid (And.intro hst hf2)
            clear hr' e1 e2 e3 hst hf2
            go_wp2
            go_ret2
            refine ⟨by rw [HE.out.1, HE.out.2.2]; rfl, by rw [HE.out.2.1, show at_ + (i + 1) = a + 1 by omega]; exact HS.out.1, HS.out.2⟩
          · rw [if_neg hd1] at hr'
            have HR2 := Lib.hid hr'
            have hd2 : ¬ (d : Int) < 128 := by omega
            clear hr'
            go_wp2
            go_round
            case rel =>
              exact ⟨i + 1, n', s + 7, hi9 (by omega), by omega, HN.out, by omega, rfl, by rw [hadd]; go_num, by go_num, by rw [hadd]; exact HR2.out⟩
            case measure => simp [intOf]; omega
    · have hnil : bs.drop (at_ + i) = [] := List.drop_eq_nil_of_le (by omega)
      rw [hnil] at hrd
      obtain ⟨e1, e2, e3⟩ := rd_none hrd
      clear hrd hnil hn
      go_wp2
      go_ret2
      exact ⟨by rw [e1, e3]; rfl, by rw [e2]; exact ho, hf⟩

end Go.Proofs.Ytpnagblbhlglhaa
