/- wicketlaw01.step: a call of each of the two readers. Conditions: those that each states. -/
import Derived.Test.YtpnagblbhlglhaaWireTake2
import Derived.Test.YtpnagblbhlglhaaWireKnown
namespace Go.Proofs.Ytpnagblbhlglhaa
open Go.RowKit

/-- The two readers at one place. -/
structure Two (w : World) (B r d : Nat) (A : Addr) (c : Nat) (A2 : Option Addr) (c2 : Nat) (bs : List Nat) (p : Nat) : Prop where
  own : RdI w r A c bs p
  ref : RdR w B d A2 c2 bs p
  ne : r ≠ d
  far : B ≤ r
  apart : 0 < bs.length → A.block ≠ d
section
variable {w w1 w2 : World} {B r d : Nat} {A : Addr} {c : Nat} {A2 : Option Addr} {c2 : Nat} {bs : List Nat} {p q : Nat}
theorem Two.fr {S : Nat → Prop} (h : Two w B r d A c A2 c2 bs p) (hf : Fr S w w1) (hs : ∀ k, k < w.heap.size → S k → False) : Two w1 B r d A c A2 c2 bs p :=
  ⟨h.own.fr2 hf (fun hh => hs _ h.own.lt hh) (fun h0 hh => hs _ (h.own.in_ h0) hh), h.ref.fr hf (fun hh => hs _ h.ref.blk.lt hh) (fun k hk hh => hs k (by have := h.ref.blk.lt; have := h.ref.far; omega) hh), h.ne, h.far, h.apart⟩
theorem Two.ref1 (h : Two w B r d A c A2 c2 bs p) (hf : Fr (fun k => k = r) w w1) : RdR w1 B d A2 c2 bs p :=
  h.ref.fr hf (fun e => h.ne e.symm) (fun k hk e => by have := h.far; omega)
theorem Two.step (h : Two w B r d A c A2 c2 bs p) (h1 : RdI w1 r A c bs q) (h2 : RdR w2 B d A2 c2 bs q) (hf : Fr (fun k => k = d) w1 w2) : Two w2 B r d A c A2 c2 bs q :=
  ⟨h1.fr2 hf (fun e => h.ne e) (fun h0 e => h.apart h0 e), h2, h.ne, h.far, h.apart⟩
theorem Two.box (h : Two w B r d A c A2 c2 bs p) (o : Obj) : Two (w.alloc o) B r d A c A2 c2 bs p :=
  h.fr (S := noB) (Fr.of_new ((Below.refl _ w).alloc (Nat.le_refl _) o)) (fun _ _ h => h)
theorem Two.new {S : Nat → Prop} (h0 : Two w B r d A c A2 c2 bs p) (h : Two w1 B r d A c A2 c2 bs q) (hf : Fr S w1 w2) (hs : ∀ k, S k → w.heap.size ≤ k) : Two w2 B r d A c A2 c2 bs q :=
  ⟨h.own.fr2 hf (fun hh => by have := hs _ hh; have := h0.own.lt; omega) (fun hp hh => by have := hs _ hh; have := h0.own.in_ hp; omega),
    h.ref.fr hf (fun hh => by have := hs _ hh; have := h0.ref.blk.lt; omega) (fun k hk hh => by have := hs _ hh; have := h0.ref.blk.lt; have := h0.ref.far; omega), h.ne, h.far, h.apart⟩
/-- The frame of a step. -/
theorem fr_two (f1 : Fr (fun k => k = r) w w1) (f2 : Fr (fun k => k = d) w1 w2) : Fr (fun k => k = r ∨ k = d) w w2 :=
  (f1.mono (fun k _ h => .inl h)).trans f2 (fun k _ h => .inr h)
end

section
variable (w : World) (B r d : Nat) (A : Addr) (c : Nat) (A2 : Option Addr) (c2 : Nat) (bs : List Nat) (p : Nat) (M : Int) (h : Two w B r d A c A2 c2 bs p)
include h
set_option maxHeartbeats 2000000
set_option maxRecDepth 100000
theorem step1 : Calls Try.prog 46 #[.pointer (some ⟨r, 0, none⟩), .pointer (some ⟨d, 0, none⟩), .agg #[.int .i64 1, .int .i64 M]] w fun e w' =>
    e = .returned (.bool true) ∧ (∃ q, Two w' B r d A c A2 c2 bs q) ∧ Fr (fun k => k = r ∨ k = d) w w' := by
  have h0 := h.box (.cells #[.int .i64 1, .int .i64 M] 74)
  have f0 := (Fr.refl (fun k => k = r) w).alloc (.cells #[.int .i64 1, .int .i64 M] 74)
  have b0 : (w.alloc (.cells #[.int .i64 1, .int .i64 M] 74)).cell? ⟨w.heap.size, 0, none⟩ = some (.int .i64 1) := (Blk.new w 74 _).cell 0
  have hn := rdnum_any _ r A c bs p h0.own
  go_enter Try.func46, Try.ntmps46
  go_wp2_with (first
    | (go_at_call 35; refine hn.mono ?_; clear hn; rintro e w1 ⟨rfl, h1, f1⟩; have hd := refnum_any w1 B d A2 c2 bs p (h0.ref1 f1))
    | (go_at_call 73; refine hd.mono ?_; clear hd; rintro e w2 ⟨rfl, h2, f2⟩)
    | (go_at_call 39; refine (num_any _ _).mono ?_; rintro e w' ⟨rfl, rfl⟩))
  go_ret
  exact ⟨by simp, ⟨_, h0.step h1 h2 f2⟩, fr_two (f0.trans' f1) f2⟩
theorem step2 : Calls Try.prog 46 #[.pointer (some ⟨r, 0, none⟩), .pointer (some ⟨d, 0, none⟩), .agg #[.int .i64 2, .int .i64 M]] w fun e w' =>
    e = .returned (.bool true) ∧ (∃ q, Two w' B r d A c A2 c2 bs q) ∧ Fr (fun k => k = r ∨ k = d) w w' := by
  have h0 := h.box (.cells #[.int .i64 2, .int .i64 M] 74)
  have f0 := (Fr.refl (fun k => k = r) w).alloc (.cells #[.int .i64 2, .int .i64 M] 74)
  have b0 : (w.alloc (.cells #[.int .i64 2, .int .i64 M] 74)).cell? ⟨w.heap.size, 0, none⟩ = some (.int .i64 2) := (Blk.new w 74 _).cell 0
  have hn := rdsigned_any _ r A c bs p h0.own
  go_enter Try.func46, Try.ntmps46
  go_wp2_with (first
    | (go_at_call 36; refine hn.mono ?_; clear hn; rintro e w1 ⟨rfl, h1, f1⟩; have hd := refrsigned_any w1 B d A2 c2 bs p (h0.ref1 f1))
    | (go_at_call 74; refine hd.mono ?_; clear hd; rintro e w2 ⟨rfl, h2, f2⟩)
    | (go_at_call 39; refine (num_any _ _).mono ?_; rintro e w' ⟨rfl, rfl⟩))
  go_ret
  exact ⟨by simp, ⟨_, h0.step h1 h2 f2⟩, fr_two (f0.trans' f1) f2⟩
theorem step3 : Calls Try.prog 46 #[.pointer (some ⟨r, 0, none⟩), .pointer (some ⟨d, 0, none⟩), .agg #[.int .i64 3, .int .i64 M]] w fun e w' =>
    e = .returned (.bool true) ∧ (∃ q, Two w' B r d A c A2 c2 bs q) ∧ Fr (fun k => k = r ∨ k = d) w w' := by
  have h0 := h.box (.cells #[.int .i64 3, .int .i64 M] 74)
  have f0 := (Fr.refl (fun k => k = r) w).alloc (.cells #[.int .i64 3, .int .i64 M] 74)
  have b0 : (w.alloc (.cells #[.int .i64 3, .int .i64 M] 74)).cell? ⟨w.heap.size, 0, none⟩ = some (.int .i64 3) := (Blk.new w 74 _).cell 0
  have hn := rdflag_any _ r A c bs p h0.own
  have hfl : (if flagE (bs.drop p) = 0 then flagV (bs.drop p) else false) = flagV (bs.drop p) := by
    cases bs.drop p with
    | nil => rfl
    | cons x l =>
      unfold flagE flagV
      by_cases hx : 1 < x
      · simp [hx]; omega
      · simp [hx]
  go_enter Try.func46, Try.ntmps46
  go_wp2_with (first
    | (go_at_call 38; refine hn.mono ?_; clear hn; rintro e w1 ⟨rfl, h1, f1⟩; have hd := refflag_any w1 B d A2 c2 bs p (h0.ref1 f1); rw [hfl] at hd; clear hfl)
    | (go_at_call 75; refine hd.mono ?_; clear hd; rintro e w2 ⟨rfl, h2, f2⟩)
    | (go_at_call 39; refine (num_any _ _).mono ?_; rintro e w' ⟨rfl, rfl⟩))
  go_ret
  exact ⟨by simp, ⟨_, h0.step h1 h2 f2⟩, fr_two (f0.trans' f1) f2⟩
theorem step4 (hm1 : M ≤ 9223372036854775807) (hb : bs.length ≤ 1048576) : Calls Try.prog 46 #[.pointer (some ⟨r, 0, none⟩), .pointer (some ⟨d, 0, none⟩), .agg #[.int .i64 4, .int .i64 M]] w fun e w' =>
    e = .returned (.bool true) ∧ (∃ q, Two w' B r d A c A2 c2 bs q) ∧ Fr (fun k => k = r ∨ k = d) w w' := by
  have h0 := h.box (.cells #[.int .i64 4, .int .i64 M] 74)
  have f0 := (Fr.refl (fun k => k = r) w).alloc (.cells #[.int .i64 4, .int .i64 M] 74)
  have hbx := Blk.new w 74 #[.int .i64 4, .int .i64 M]
  have b0 : (w.alloc (.cells #[.int .i64 4, .int .i64 M] 74)).cell? ⟨w.heap.size, 0, none⟩ = some (.int .i64 4) := hbx.cell 0
  have b1 : (w.alloc (.cells #[.int .i64 4, .int .i64 M] 74)).cell? ⟨w.heap.size, 1, none⟩ = some (.int .i64 M) := hbx.cell 1
  have hrl := h.own.lt
  have hdl := h.ref.blk.lt
  have hs0 := f0.size
  by_cases hM : M < 0
  · have hn := rdbytes_neg _ r A c bs p M hM h0.own
    go_enter Try.func46, Try.ntmps46
    go_wp2_with (first
      | (go_at_call 37; refine hn.mono ?_; clear hn; rintro e w1 ⟨rfl, h1, f1⟩; have hbx1 := hbx.fr f1 (by omega); have b11 : w1.cell? ⟨w.heap.size, 1, none⟩ = some (.int .i64 M) := hbx1.cell 1)
      | (go_at_call 39; refine (num_any _ _).mono ?_; rintro e w' ⟨rfl, rfl⟩))
    go_ret
    exact ⟨by simp, ⟨_, h1.fr2 (S := noB) (Fr.refl _ _) (fun h => h) (fun _ h => h), h0.ref1 f1, h.ne, h.far, h.apart⟩, (f0.trans' f1).mono (fun k _ h => .inl h)⟩
  · obtain ⟨m, rfl⟩ := Int.eq_ofNat_of_zero_le (a := M) (by omega)
    have hm : m ≤ 9223372036854775807 := by omega
    by_cases he : bytE bs p m = 0
    · have hn := rdbytes_ok _ r A c bs p m hm h0.own he
      have hsm : Small ((bs.drop (p + rdK (bs.drop p))).take (rdV (bs.drop p))) := (h.own.small.drop _).take _
      have hV : rdV (bs.drop p) ≤ 140737488355318 := by
        unfold bytE cntE at he
        by_cases e0 : rdE (bs.drop p) = 0
        · rw [if_pos e0] at he
          by_cases e1 : m < rdV (bs.drop p)
          · rw [if_pos e1] at he; simp at he
          · rw [if_neg e1, if_pos rfl] at he
            by_cases e2 : bs.length - (p + rdK (bs.drop p)) < rdV (bs.drop p)
            · rw [if_pos e2] at he; cases he
            · omega
        · rw [if_neg e0] at he; simp at he
      obtain ⟨V, hVe⟩ : ∃ V, rdV (bs.drop p) = V := ⟨_, rfl⟩
      obtain ⟨Y, hY⟩ : ∃ Y, (bs.drop (p + rdK (bs.drop p))).take (rdV (bs.drop p)) = Y := ⟨_, rfl⟩
      rw [hY] at hn hsm
      rw [hVe] at hn hV
      have hM' : ¬ ((m : Int) < 0) := by omega
      go_enter Try.func46, Try.ntmps46
      go_wp2_with (first
        | (go_at_call 37; go_must (refine hn.mono ?_); clear hn; rintro e w1 ⟨Aa, ca, rfl, ho1, h1, f1⟩; have hbx1 := hbx.fr f1 (by omega); have b11 : w1.cell? ⟨w.heap.size, 1, none⟩ = some (.int .i64 m) := hbx1.cell 1; have hd := refbytes_ok w1 B d A2 c2 bs p m hm (h0.ref1 f1) he; rw [hY, hVe] at hd)
        | (go_at_call 76; go_must (refine hd.mono ?_); clear hd; rintro e w2 ⟨Ab, cb, rfl, ho2, h2, f2⟩; have ho1' := own_fr ho1 f2 (fun k hk => by have := own_base ho1 k hk; omega); have t1 := run_str (P := Try.prog) (src := 24) (dst := 9) (c := ca) rfl rfl rfl (Reads.of_own ho1') hsm; have t2 := run_str (P := Try.prog) (src := 24) (dst := 9) (c := cb) rfl rfl rfl (Reads.of_own ho2) hsm; have sp := spoil_any w2 _ Aa V ca Y ho1' (by have := f1.size; have := f2.size; omega) hV)
        | (go_at_call 32; go_must (refine sp.mono ?_); clear sp; rintro e w3 ⟨rfl, f3⟩)
        | (go_at_call 39; refine (num_any _ _).mono ?_; rintro e w' ⟨rfl, rfl⟩))
      go_ret
      have hA : ∀ k, blkOf Aa = some k → w.heap.size ≤ k := fun k hk => by have := own_base ho1 k (by rw [ownBlock_slice]; exact hk); omega
      exact ⟨by simp, ⟨_, Two.new h (h0.step h1 h2 f2) f3 hA⟩, (fr_two (f0.trans' f1) f2).trans f3 (fun k hk hh => by have := hA k hh; omega)⟩
    · have hn := rdbytes_err _ r A c bs p m hm h0.own he
      obtain ⟨E, hE⟩ : ∃ E, bytE bs p m = E := ⟨_, rfl⟩
      rw [hE] at hn
      have hM' : ¬ ((m : Int) < 0) := by omega
      have t1 : ∀ w2 : World, (convert 24 9 (.slice none 0 0)).run Try.prog w2 = .ok (.string (strN [])) w2 := fun w2 => run_str (P := Try.prog) (src := 24) (dst := 9) (c := 0) rfl rfl rfl (Reads.none_ (w := w2) (B := w2.heap.size) (size := 1)) (bs := []) (small_of rfl)
      go_enter Try.func46, Try.ntmps46
      go_wp2_with (first
        | (go_at_call 37; go_must (refine hn.mono ?_); clear hn; rintro e w1 ⟨rfl, h1, f1⟩; have hbx1 := hbx.fr f1 (by omega); have b11 : w1.cell? ⟨w.heap.size, 1, none⟩ = some (.int .i64 m) := hbx1.cell 1; have hd := refbytes_err w1 B d A2 c2 bs p m hm (h0.ref1 f1) he; rw [hE] at hd)
        | (go_at_call 76; go_must (refine hd.mono ?_); clear hd; rintro e w2 ⟨rfl, h2, f2⟩; have sp := spoil_any w2 w2.heap.size none 0 0 [] (World.ownsRow_nil _ _ _ _) (Nat.le_refl _) (by omega))
        | (go_at_call 32; go_must (refine sp.mono ?_); clear sp; rintro e w3 ⟨rfl, f3⟩)
        | (go_at_call 39; refine (num_any _ _).mono ?_; rintro e w' ⟨rfl, rfl⟩))
      go_ret
      exact ⟨by simp, ⟨_, Two.new h (h0.step h1 h2 f2) f3 (fun k hk => by cases hk)⟩, (fr_two (f0.trans' f1) f2).trans f3 (fun k hk hh => by cases hh)⟩
theorem step5 (hm1 : M ≤ 9223372036854775807) (hb : bs.length ≤ 1048576) : Calls Try.prog 46 #[.pointer (some ⟨r, 0, none⟩), .pointer (some ⟨d, 0, none⟩), .agg #[.int .i64 5, .int .i64 M]] w fun e w' =>
    e = .returned (.bool true) ∧ (∃ q, Two w' B r d A c A2 c2 bs q) ∧ Fr (fun k => k = r ∨ k = d) w w' := by
  have h0 := h.box (.cells #[.int .i64 5, .int .i64 M] 74)
  have f0 := (Fr.refl (fun k => k = r) w).alloc (.cells #[.int .i64 5, .int .i64 M] 74)
  have hbx := Blk.new w 74 #[.int .i64 5, .int .i64 M]
  have b0 : (w.alloc (.cells #[.int .i64 5, .int .i64 M] 74)).cell? ⟨w.heap.size, 0, none⟩ = some (.int .i64 5) := hbx.cell 0
  have b1 : (w.alloc (.cells #[.int .i64 5, .int .i64 M] 74)).cell? ⟨w.heap.size, 1, none⟩ = some (.int .i64 M) := hbx.cell 1
  have hrl := h.own.lt
  have hdl := h.ref.blk.lt
  have hs0 := f0.size
  by_cases hM : M < 0
  · have hn := take_neg _ r A c bs p M hM h0.own
    go_enter Try.func46, Try.ntmps46
    go_wp2_with (first
      | (go_at_call 77; refine hn.mono ?_; clear hn; rintro e w1 ⟨rfl, h1, f1⟩; have hbx1 := hbx.fr f1 (by omega); have b11 : w1.cell? ⟨w.heap.size, 1, none⟩ = some (.int .i64 M) := hbx1.cell 1)
      | (go_at_call 39; refine (num_any _ _).mono ?_; rintro e w' ⟨rfl, rfl⟩))
    go_ret
    exact ⟨by simp, ⟨_, h1.fr2 (S := noB) (Fr.refl _ _) (fun h => h) (fun _ h => h), h0.ref1 f1, h.ne, h.far, h.apart⟩, (f0.trans' f1).mono (fun k _ h => .inl h)⟩
  · obtain ⟨m, rfl⟩ := Int.eq_ofNat_of_zero_le (a := M) (by omega)
    have hm : m ≤ 9223372036854775807 := by omega
    have hM' : ¬ ((m : Int) < 0) := by omega
    have hn := take_any _ r A c bs p m hm h0.own hb
    obtain ⟨E, hE⟩ : ∃ E, lstE (bs.drop p) m = E := ⟨_, rfl⟩
    obtain ⟨L, hL⟩ : ∃ L, ((lstN (bs.drop p) m).getD ([], 0)).1 = L := ⟨_, rfl⟩
    obtain ⟨q, hq⟩ : ∃ q, p + ((lstN (bs.drop p) m).getD ([], 0)).2 = q := ⟨_, rfl⟩
    rw [hE, hL, hq] at hn
    go_enter Try.func46, Try.ntmps46
    go_wp2_with (first
      | (go_at_call 77; go_must (refine hn.mono ?_); clear hn; rintro e w1 ⟨Aa, n, ca, rfl, hln, ho1, h1, f1⟩; have hbx1 := hbx.fr f1 (by omega); have b11 : w1.cell? ⟨w.heap.size, 1, none⟩ = some (.int .i64 m) := hbx1.cell 1; have hd := refnumbers_any w1 B d A2 c2 bs p m hm (h0.ref1 f1) hb; rw [hE, hL, hq, ← hln] at hd; have hLn := Nat.le_of_eq hln; clear hln)
      | (go_at_call 78; go_must (refine hd.mono ?_); clear hd; rintro e w2 ⟨Ab, n2, cb, rfl, hln2, ho2, h2, f2⟩; have ho1' := own_fr ho1 f2 (fun k hk => by have := own_base ho1 k hk; omega); subst hln2)
      | (go_at_call 39; refine (num_any _ _).mono ?_; rintro e w' ⟨rfl, rfl⟩))
    go_loopw [28] (fun iv wr => ∃ i q : Nat, i ≤ n2 ∧ iv = .int .i64 i ∧ wr = w2.drewN q) (fun iv _ => n2 - (intOf iv).toNat)
    case atStart => exact ⟨0, 0, by omega, rfl, rfl⟩
    case round =>
      obtain ⟨i, q, hi, rfl, hw⟩ := hrel
      subst hw
      obtain ⟨hcp1, hcp2⟩ := own_cap ho1'
      unfold maxLen at hcp2
      by_cases hlt : i < n2
      · have q0 : (0 : Int) ≤ (i : Int) := by omega
        have q1 : (i : Int) < (n2 : Int) := by omega
        have u1 : IntKind.i64.wrap ((i : Int) + 1) = (i : Int) + 1 := IntWalk.i64_in _ (by omega)
        obtain ⟨ad, u, rfl, _, hx, hca⟩ := (Reads.of_own ho1').at_ hlt
        obtain ⟨ad2, u2, rfl, _, hx2, hcb⟩ := (Reads.of_own ho2).at_ hlt
        obtain rfl : u = u2 := by rw [hx] at hx2; injection hx2
        have hiL : i < L.length := by omega
        obtain rfl : u = Value.int .u64 (L[i] : Nat) := by
          simp [wrds, List.getElem?_eq_getElem hiL] at hx
          exact hx.symm
        obtain ⟨x, hxe⟩ : ∃ x, L[i] = x := ⟨_, rfl⟩
        rw [hxe] at hca hcb
        have hca' : ∀ m, (w2.drewN m).cell? (ad.add i) = some (.int .u64 (x : Int)) := fun _ => hca
        have hcb' : ∀ m, (w2.drewN m).cell? (ad2.add i) = some (.int .u64 (x : Int)) := fun _ => hcb
        clear hx hx2 hxe hca hcb
        go_wp2
        go_quiet (fail)
        simp only [drewN_drewN]
        go_wp2
        go_roundw
        case rel => exact ⟨i + 1, _, by omega, by go_num, rfl⟩
        case measure => simp [intOf]; omega
      · have q1 : ¬ (i : Int) < (n2 : Int) := by omega
        go_wp2
        go_ret
        exact ⟨rfl, ⟨_, (h0.step h1 h2 f2).fr (S := noB) ((Fr.refl noB w2).drewN q) (fun _ _ h => h)⟩, (fr_two (f0.trans' f1) f2).drewN q⟩
theorem stepX (K : Int) (hk : K ≠ 1 ∧ K ≠ 2 ∧ K ≠ 3 ∧ K ≠ 4 ∧ K ≠ 5) : Calls Try.prog 46 #[.pointer (some ⟨r, 0, none⟩), .pointer (some ⟨d, 0, none⟩), .agg #[.int .i64 K, .int .i64 M]] w fun e w' =>
    e = .returned (.bool true) ∧ (∃ q, Two w' B r d A c A2 c2 bs q) ∧ Fr (fun k => k = r ∨ k = d) w w' := by
  have h0 := h.box (.cells #[.int .i64 K, .int .i64 M] 74)
  have f0 := (Fr.refl (fun k => k = r ∨ k = d) w).alloc (.cells #[.int .i64 K, .int .i64 M] 74)
  have b0 : (w.alloc (.cells #[.int .i64 K, .int .i64 M] 74)).cell? ⟨w.heap.size, 0, none⟩ = some (.int .i64 K) := (Blk.new w 74 _).cell 0
  have e1 : (K == 1) = false := beq_eq_false_iff_ne.2 hk.1
  have e2 : (K == 2) = false := beq_eq_false_iff_ne.2 hk.2.1
  have e3 : (K == 3) = false := beq_eq_false_iff_ne.2 hk.2.2.1
  have e4 : (K == 4) = false := beq_eq_false_iff_ne.2 hk.2.2.2.1
  have e5 : (K == 5) = false := beq_eq_false_iff_ne.2 hk.2.2.2.2
  go_enter Try.func46, Try.ntmps46
  go_wp2
  go_ret
  exact ⟨rfl, ⟨_, h0⟩, f0⟩
/-- One step, whatever it is. -/
theorem step_any (K : Int) (hm1 : M ≤ 9223372036854775807) (hb : bs.length ≤ 1048576) : Calls Try.prog 46 #[.pointer (some ⟨r, 0, none⟩), .pointer (some ⟨d, 0, none⟩), .agg #[.int .i64 K, .int .i64 M]] w fun e w' =>
    e = .returned (.bool true) ∧ (∃ q, Two w' B r d A c A2 c2 bs q) ∧ Fr (fun k => k = r ∨ k = d) w w' := by
  by_cases k1 : K = 1
  · subst k1; exact step1 w B r d A c A2 c2 bs p M h
  by_cases k2 : K = 2
  · subst k2; exact step2 w B r d A c A2 c2 bs p M h
  by_cases k3 : K = 3
  · subst k3; exact step3 w B r d A c A2 c2 bs p M h
  by_cases k4 : K = 4
  · subst k4; exact step4 w B r d A c A2 c2 bs p M h hm1 hb
  by_cases k5 : K = 5
  · subst k5; exact step5 w B r d A c A2 c2 bs p M h hm1 hb
  exact stepX w B r d A c A2 c2 bs p M h K ⟨k1, k2, k3, k4, k5⟩
end
end Go.Proofs.Ytpnagblbhlglhaa
