/- The document's reader: Left, Number. Conditions: those that each states. -/
import Derived.Test.YtpnagblbhlglhaaWireRdNum
namespace Go.Proofs.Ytpnagblbhlglhaa
open Go.RowKit

theorem digit_ref (n i d : Nat) (hn : n < 2 ^ (7 * i)) (hi : i ≤ 9) (h9 : i = 9 → d ≤ 1) :
    IntKind.u64.wrap ((n : Int) + IntKind.u64.wrap ((d : Int) % 128 * 2 ^ (7 * i))) = ((n + d % 128 * 2 ^ (7 * i) : Nat) : Int) := by
  have hw : ∀ x : Nat, x < 18446744073709551616 → IntKind.u64.wrap (x : Int) = (x : Int) := fun x hx => by rw [IntKind.wrap_u64]; omega
  have hs := digit_small i d hi h9
  have e1 : (d : Int) % 128 = ((d % 128 : Nat) : Int) := by omega
  have e2 : ((d % 128 : Nat) : Int) * 2 ^ (7 * i) = ((d % 128 * 2 ^ (7 * i) : Nat) : Int) := by simp
  have hsum : n + d % 128 * 2 ^ (7 * i) < 18446744073709551616 := by
    by_cases h : i = 9
    · subst h
      have h1 : d % 128 ≤ 1 := by have := h9 rfl; omega
      have h2 : d % 128 * 2 ^ (7 * 9) ≤ 1 * 2 ^ (7 * 9) := Nat.mul_le_mul_right _ h1
      exact Nat.lt_of_lt_of_le (Nat.add_lt_add_of_lt_of_le hn h2) (by decide)
    · have h1 := digit_lt n i d hn
      have h3 : 2 ^ (7 * (i + 1)) ≤ 2 ^ 63 := Nat.pow_le_pow_right (by omega) (by omega)
      have h4 : (2 : Nat) ^ 63 < 18446744073709551616 := by decide
      exact Nat.lt_trans (Nat.lt_of_lt_of_le h1 h3) h4
  rw [e1, e2, hw _ hs]
  have e3 : (n : Int) + ((d % 128 * 2 ^ (7 * i) : Nat) : Int) = ((n + d % 128 * 2 ^ (7 * i) : Nat) : Int) := by omega
  rw [e3, hw _ hsum]

/-- The document's reader at its place. -/
structure RdR (w : World) (B r : Nat) (A : Option Addr) (c : Nat) (bs : List Nat) (at_ : Nat) : Prop where
  blk : Blk w r 71 #[.slice A bs.length c, .int .i64 at_]
  reads : Reads w B 1 A bs.length (byts bs)
  small : Small bs
  le : at_ ≤ bs.length
  cap : bs.length ≤ c
  far : B ≤ r
  len : bs.length ≤ 140737488355328
theorem drewN_drewN (w : World) (a b : Nat) : (w.drewN a).drewN b = w.drewN (a + b) := by simp [World.drewN, Nat.add_assoc]
theorem RdR.drewN {w : World} {B r : Nat} {A : Option Addr} {c : Nat} {bs : List Nat} {a : Nat} (h : RdR w B r A c bs a) (m : Nat) : RdR (w.drewN m) B r A c bs a :=
  ⟨h.blk.drewN m, h.reads.drewN m, h.small, h.le, h.cap, h.far, h.len⟩
theorem RdR.fr {S : Nat → Prop} {w w' : World} {B r : Nat} {A : Option Addr} {c : Nat} {bs : List Nat} {a : Nat} (h : RdR w B r A c bs a) (hf : Fr S w w') (h1 : ¬ S r) (h2 : ∀ k, k < B → ¬ S k) : RdR w' B r A c bs a :=
  ⟨h.blk.fr hf h1, h.reads.keep (fun p hp => by
      have hw : p.block < w.heap.size := by have := h.blk.lt; have := h.far; omega
      unfold World.cell?
      rw [hf.block p.block hw (h2 _ hp)]), h.small, h.le, h.cap, h.far, h.len⟩
theorem RdR.set_ {w : World} {B r : Nat} {A : Option Addr} {c : Nat} {bs : List Nat} {a : Nat} (h : RdR w B r A c bs a) {a' : Nat} (ha : a' ≤ bs.length) : RdR (w.setCell ⟨r, 1, none⟩ (.int .i64 a')) B r A c bs a' :=
  ⟨by simpa using h.blk.set_ 1 (.int .i64 a'), h.reads.setCell h.far _, h.small, ha, h.cap, h.far, h.len⟩

section
variable (w : World) (B r : Nat) (A : Option Addr) (c : Nat) (bs : List Nat) (at_ : Nat) (h : RdR w B r A c bs at_)
include h
set_option maxHeartbeats 1000000 in
theorem refleft_any : Calls Try.prog 47 #[.pointer (some ⟨r, 0, none⟩)] w fun e w' => e = .returned (.int .i64 (bs.length - at_ : Nat)) ∧ ∃ m, w' = w.drewN m := by
  have c0 : w.cell? ⟨r, 0, none⟩ = some (.slice A bs.length c) := (h.blk.cell 0).trans rfl
  have c1 : w.cell? ⟨r, 1, none⟩ = some (.int .i64 at_) := (h.blk.cell 1).trans rfl
  have hle := h.le
  have hlen := h.len
  have u1 : IntKind.i64.wrap ((bs.length : Int) - (at_ : Int)) = ((bs.length - at_ : Nat) : Int) := by rw [IntWalk.i64_in _ (by omega)]; omega
  go_enter Try.func47, Try.ntmps47
  go_wp2
  go_quiet (fail)
  go_wp2
  go_ret
  exact ⟨rfl, _, rfl⟩

set_option maxHeartbeats 4000000 in
set_option maxRecDepth 100000 in
theorem refnum_any : Calls Try.prog 73 #[.pointer (some ⟨r, 0, none⟩)] w fun e w' => e = .returned (.tuple #[.int .u64 (rdV (bs.drop at_)), .int .i64 (rdE (bs.drop at_))]) ∧ RdR w' B r A c bs (at_ + rdK (bs.drop at_)) ∧ Fr (fun k => k = r) w w' := by
  have c0 : ∀ m, (w.drewN m).cell? ⟨r, 0, none⟩ = some (.slice A bs.length c) := fun _ => (h.blk.cell 0).trans rfl
  have c1 : ∀ m, (w.drewN m).cell? ⟨r, 1, none⟩ = some (.int .i64 at_) := fun _ => (h.blk.cell 1).trans rfl
  have f1 : ∀ m, (w.drewN m).frozen? ⟨r, 1, none⟩ = false := fun _ => h.blk.frozen 1
  have hle := h.le
  have hlen := h.len
  have H := Lib.hid h
  clear h
  go_enter Try.func73, Try.ntmps73
  go_wp2
  go_loopw [4, 5] (fun nv iv wr => ∃ (i n q : Nat), i ≤ 10 ∧ n < 2 ^ (7 * i) ∧ at_ + i ≤ bs.length ∧ nv = .int .u64 n ∧ iv = .int .i64 i ∧ (i ≤ 9 → rdNum (bs.drop at_) = rdN i n (bs.drop (at_ + i))) ∧ (i = 10 → rdNum (bs.drop at_) = none) ∧ wr = w.drewN q) (fun _ iv _ => 10 - (intOf iv).toNat)
  case atStart => exact ⟨0, 0, 0, by omega, by decide, by omega, rfl, rfl, (fun _ => rfl), (fun h => (by omega)), rfl⟩
  case round =>
    obtain ⟨i, n, q, hi, hn, hle2, rfl, rfl, hrd, hrd10, hw⟩ := hrel
    subst hw
    by_cases hi9 : i ≤ 9
    · have hrd := hrd hi9
      have b0 : decide ((i : Int) < 10) = true := decide_eq_true (by omega)
      have v0 : IntKind.i64.wrap ((at_ : Int) + (i : Int)) = (at_ : Int) + (i : Int) := IntWalk.i64_in _ (by omega)
      by_cases hlt : at_ + i < bs.length
      · rw [List.drop_eq_getElem_cons hlt, rdN_cons] at hrd
        obtain ⟨ad, v, rfl, hab, hxv, hcell⟩ := H.out.reads.at_ hlt
        obtain ⟨d, hd⟩ : ∃ d, bs[at_ + i] = d := ⟨_, rfl⟩
        have hd8 : d < 256 := by rw [← hd]; exact H.out.small.at_ _ hlt
        obtain rfl : v = .int .u8 (d : Nat) := by
          simp [byts, List.getElem?_eq_getElem hlt, hd] at hxv
          exact hxv.symm
        rw [hd] at hrd
        obtain ⟨a, ha⟩ : ∃ a, at_ + i = a := ⟨_, rfl⟩
        have va : IntKind.i64.wrap ((at_ : Int) + (i : Int)) = (a : Int) := by rw [v0]; omega
        rw [ha] at hlt hcell
        have hcell' : ∀ m, (w.drewN m).cell? (ad.add a) = some (.int .u8 (d : Nat)) := fun _ => hcell
        have hadd : at_ + (i + 1) = a + 1 := by omega
        rw [show at_ + i + 1 = a + 1 by omega] at hrd
        have k0 : (0 : Int) ≤ (a : Int) := by omega
        have k1 : (a : Int) < (bs.length : Int) := by omega
        have HR := Lib.hid hrd
        clear hrd hrd10 hxv hd v0 hcell ha
        go_wp2
        go_quiet (fail)
        go_wp2
        go_quiet (fail)
        generalize hW : ((w.drewN q).drewN _).drewN nq = wo
        obtain ⟨Q, hQ⟩ : ∃ Q, wo = w.drewN Q := ⟨_, by rw [← hW, drewN_drewN, drewN_drewN]⟩
        have d0 : wo.cell? ⟨r, 0, none⟩ = some (.slice (some ad) bs.length c) := by rw [hQ]; exact c0 Q
        have d1 : wo.cell? ⟨r, 1, none⟩ = some (.int .i64 at_) := by rw [hQ]; exact c1 Q
        have g1 : wo.frozen? ⟨r, 1, none⟩ = false := by rw [hQ]; exact f1 Q
        have HW := Lib.hid hQ
        clear hW hQ c0 c1 f1 hcell'
        go_upto_region 6 with (fail)
        go_cut [50] from 37 to 71 (fun v wx => v = .bool (decide ((i = 9 ∧ 1 < d) ∨ (0 < i ∧ d = 0))) ∧ wx = wo)
        case first =>
          by_cases h1 : i = 9
          · have b1 : ((i : Int) == 9) = true := by rw [beq_iff_eq]; omega
            have b3 : decide ((0 : Int) < (i : Int)) = true := decide_eq_true (by omega)
            by_cases h2 : 1 < d
            · have b2 : decide ((1 : Int) < (d : Int)) = true := decide_eq_true (by omega)
              go_wp2
              go_meet
              exact ⟨by simp [h1, h2], rfl⟩
            · have b2 : decide ((1 : Int) < (d : Int)) = false := decide_eq_false (by omega)
              by_cases h4 : d = 0
              · have b4 : ((d : Int) == 0) = true := by rw [beq_iff_eq]; omega
                go_wp2
                go_meet
                exact ⟨by simp [h1, h4], rfl⟩
              · have b4 : ((d : Int) == 0) = false := by rw [beq_eq_false_iff_ne]; omega
                go_wp2
                go_meet
                exact ⟨by simp [h2, h4], rfl⟩
          · have b1 : ((i : Int) == 9) = false := by rw [beq_eq_false_iff_ne]; omega
            by_cases h3 : 0 < i
            · have b3 : decide ((0 : Int) < (i : Int)) = true := decide_eq_true (by omega)
              by_cases h4 : d = 0
              · have b4 : ((d : Int) == 0) = true := by rw [beq_iff_eq]; omega
                go_wp2
                go_meet
                exact ⟨by simp [h3, h4], rfl⟩
              · have b4 : ((d : Int) == 0) = false := by rw [beq_eq_false_iff_ne]; omega
                go_wp2
                go_meet
                exact ⟨by simp [h1, h4], rfl⟩
            · have b3 : decide ((0 : Int) < (i : Int)) = false := decide_eq_false (by omega)
              go_wp2
              go_meet
              exact ⟨by simp [h1, h3], rfl⟩
        case rest =>
          obtain ⟨rfl, hwc⟩ := hcut
          replace hwc := hwc.symm
          subst hwc
          have ho : RdR wo B r (some ad) c bs at_ := by rw [HW.out]; exact H.out.drewN Q
          have hf : Fr (fun k => k = r) w wo := by rw [HW.out]; exact (Fr.refl _ w).drewN Q
          by_cases hstop : (i = 9 ∧ 1 < d) ∨ (0 < i ∧ d = 0)
          · have hr' := HR.out
            rw [if_pos hstop] at hr'
            obtain ⟨e1, e2, e3⟩ := rd_none hr'
            have hst2 := decide_eq_true hstop
            rw [hst2]
            clear hr' hn hst2
            go_wp2
            go_ret2
            exact ⟨by rw [e1, e3]; rfl, by rw [e2]; exact ho, hf⟩
          · have hr' := HR.out
            rw [if_neg hstop] at hr'
            have hst2 := decide_eq_false hstop
            rw [hst2]
            have k7 : (0 : Int) ≤ 7 * (i : Int) := by omega
            have v7 : IntKind.i64.wrap (7 * (i : Int)) = 7 * (i : Int) := IntWalk.i64_in _ (by omega)
            have hnd := digit_lt n i d hn
            have hnb := digit_ref n i d hn hi9 (fun h => by omega)
            obtain ⟨n', hn'⟩ : ∃ n', n + d % 128 * 2 ^ (7 * i) = n' := ⟨_, rfl⟩
            rw [hn'] at hr' hnd hnb
            have HN := Lib.hid hnd
            have v8 : IntKind.i64.wrap ((a : Int) + 1) = ((a + 1 : Nat) : Int) := by rw [IntWalk.i64_in _ (by omega)]; omega
            have hi10 : 128 ≤ d → i + 1 ≤ 10 ∧ (i + 1 = 10 → False) := by omega
            clear hst2 hn' hn hnd HR hstop hrd
            by_cases hd1 : d < 128
            · rw [if_pos hd1] at hr'
              obtain ⟨e1, e2, e3⟩ := rd_some hr'
              have HE := Lib.hid (And.intro e1 (And.intro e2 e3))
              have hd2 : (d : Int) < 128 := by omega
              have hst := ho.set_ (a' := a + 1) (by omega)
              have hf2 : Fr (fun k => k = r) w (wo.setCell ⟨r, 1, none⟩ (.int .i64 ((a + 1 : Nat) : Int))) := hf.setCell (p := ⟨r, 1, none⟩) (fun _ => rfl) _
              have HS := Lib.hid (And.intro hst hf2)
              clear hr' e1 e2 e3 hst hf2
              go_wp2
              go_ret2
              refine ⟨by rw [HE.out.1, HE.out.2.2]; rfl, by rw [HE.out.2.1, show at_ + (i + 1) = a + 1 by omega]; exact HS.out.1, HS.out.2⟩
            · rw [if_neg hd1] at hr'
              have HR2 := Lib.hid hr'
              have hd2 : ¬ (d : Int) < 128 := by omega
              have h10 := hi10 (by omega)
              clear hr' hi10
              go_wp2
              go_roundw
              case rel =>
                exact ⟨i + 1, n', Q, h10.1, HN.out, by omega, rfl, by go_num, (fun _ => by rw [hadd]; exact HR2.out), (fun h => (h10.2 h).elim), HW.out⟩
              case measure => simp [intOf]; omega
      · have hnil : bs.drop (at_ + i) = [] := List.drop_eq_nil_of_le (by omega)
        rw [hnil] at hrd
        obtain ⟨e1, e2, e3⟩ := rd_none hrd
        have k1 : ¬ ((at_ : Int) + (i : Int) < (bs.length : Int)) := by omega
        have k2 : decide ((at_ : Int) + (i : Int) < (bs.length : Int)) = false := decide_eq_false k1
        clear hrd hnil hn hrd10
        go_wp2
        go_quiet (fail)
        go_wp2
        go_ret2
        exact ⟨by rw [e1, e3]; rfl, by rw [e2, drewN_drewN]; exact H.out.drewN _, by rw [drewN_drewN]; exact (Fr.refl _ w).drewN _⟩
    · have hi10 : i = 10 := by omega
      subst hi10
      obtain ⟨e1, e2, e3⟩ := rd_none (hrd10 rfl)
      have b0 : decide (((10 : Nat) : Int) < 10) = false := by decide
      clear hrd hrd10 hn
      go_wp2
      go_quiet (fail)
      go_wp2
      go_ret2
      exact ⟨by rw [e1, e3]; rfl, by rw [e2, drewN_drewN]; exact H.out.drewN _, by rw [drewN_drewN]; exact (Fr.refl _ w).drewN _⟩
end

end Go.Proofs.Ytpnagblbhlglhaa
