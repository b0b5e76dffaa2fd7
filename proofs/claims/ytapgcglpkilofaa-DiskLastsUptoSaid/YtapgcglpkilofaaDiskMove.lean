/- Write, Sync, Trim, Drop of a disk, the program's and the document's. Conditions: those that each states. -/
import Derived.Test.YtapgcglpkilofaaDiskSee2
namespace Go.Proofs.Ytapgcglpkilofaa
open Go.RowKit

/-- A disk that was in blocks S stands so now; of what was there only S may have turned. -/
def MovedP (w : World) (p : Nat) (S : Nat → Prop) (s : DS) (w' : World) : Prop := ∃ S', PD w' p S' s ∧ (∀ k, S' k → S k ∨ w.heap.size ≤ k) ∧ Fr S w w'
def MovedR (w : World) (p : Nat) (S : Nat → Prop) (s : DS) (w' : World) : Prop := ∃ S', RD w' p S' s ∧ (∀ k, S' k → S k ∨ w.heap.size ≤ k) ∧ Fr S w w'
theorem Reads.fr0 {S : Nat → Prop} {w w' : World} {B size n : Nat} {A : Option Addr} {xs : List Value} (h : Reads w B size A n xs) (hf : Fr S w w') (hB : B ≤ w.heap.size) (hg : 0 < n → ∀ k, blkOf A = some k → ¬ S k) : Reads w' B size A n xs := by
  rcases Nat.eq_zero_or_pos n with h0 | h0
  · exact ⟨h.1, fun hn => by omega⟩
  · exact h.fr hf hB (hg h0)
theorem fr_one (w : World) (p i : Nat) (u : Value) : Fr (fun k => k = p) w (w.setCell ⟨p, i, none⟩ u) := (Fr.refl (fun k => k = p) w).setCell (p := ⟨p, i, none⟩) (fun _ => rfl) u
theorem fr_more {w w1 : World} {p : Nat} (h : Fr (fun k => k = p) w w1) (i : Nat) (u : Value) : Fr (fun k => k = p) w (w1.setCell ⟨p, i, none⟩ u) := h.setCell (p := ⟨p, i, none⟩) (fun _ => rfl) u
/-- The blocks of a disk whose log is new. -/
theorem Has.more {S : Nat → Prop} {p : Nat} {Al A0 A1 Al2 : Option Addr} (h : Has S p Al A0 A1) (H : Nat) (_hat : ∀ k, blkOf Al2 = some k → blkOf Al = some k ∨ H ≤ k) : Has (fun k => S k ∨ blkOf Al2 = some k) p Al2 A0 A1 :=
  ⟨.inl h.p, fun _ hk => .inr hk, fun k hk => .inl (h.d0 k hk), fun k hk => .inl (h.d1 k hk)⟩
theorem Has.sub {S : Nat → Prop} {p : Nat} {Al A0 A1 Al2 : Option Addr} (h : Has S p Al A0 A1) {H : Nat} (hat : ∀ k, blkOf Al2 = some k → blkOf Al = some k ∨ H ≤ k) (k : Nat) (hk : S k ∨ blkOf Al2 = some k) : S k ∨ H ≤ k := by
  rcases hk with hk | hk
  · exact .inl hk
  · rcases hat k hk with e | e
    · exact .inl (h.l k e)
    · exact .inr e

namespace PDx
variable {w w' : World} {p : Nat} {Al : Option Addr} {nl cl : Nat} {A0 : Option Addr} {n0 c0 : Nat} {A1 : Option Addr} {n1 c1 : Nat} {s s2 : DS} (h : PDx w p Al nl cl A0 n0 c0 A1 n1 c1 s)
include h
theorem nel : ∀ k, (Value.slice Al nl cl).ownBlock = some k → ¬ k = p := fun k hk e => own_blk_ne h.rl h.blk (by decide) (e ▸ hk)
theorem nep0 : ∀ k, (Value.slice A0 n0 c0).ownBlock = some k → ¬ k = p := fun k hk e => own_blk_ne h.r0 h.blk (by decide) (e ▸ hk)
theorem nep1 : ∀ k, (Value.slice A1 n1 c1).ownBlock = some k → ¬ k = p := fun k hk e => own_blk_ne h.r1 h.blk (by decide) (e ▸ hk)
/-- Its own block turned, the lists stay. -/
theorem at_ (hf : Fr (fun k => k = p) w w') (hb : Blk w' p 54 #[.int .i64 s2.cap, .slice Al nl cl, .int .i64 s2.sure, .slice A0 n0 c0, .bool s2.h0, .slice A1 n1 c1, .bool s2.h1, .int .i64 s2.last, .int .i64 s2.steps]) (e1 : s2.log = s.log) (e2 : s2.d0 = s.d0) (e3 : s2.d1 = s.d1) : PDx w' p Al nl cl A0 n0 c0 A1 n1 c1 s2 :=
  ⟨hb, e1 ▸ own_fr h.rl hf h.nel, e2 ▸ own_fr h.r0 hf h.nep0, e3 ▸ own_fr h.r1 hf h.nep1, h.ne0, h.ne1⟩
/-- .. a new log. -/
theorem log_ {Al2 : Option Addr} {nl2 cl2 : Nat} {T : Nat → Prop} (hf : Fr T w w') (hb : Blk w' p 54 #[.int .i64 s2.cap, .slice Al2 nl2 cl2, .int .i64 s2.sure, .slice A0 n0 c0, .bool s2.h0, .slice A1 n1 c1, .bool s2.h1, .int .i64 s2.last, .int .i64 s2.steps]) (hl : w'.ownsRow 0 5 1 (.slice Al2 nl2 cl2) nl2 (byts s2.log))
    (ht : ∀ k, T k → k = p ∨ blkOf Al = some k) (hat : ∀ k, blkOf Al2 = some k → blkOf Al = some k ∨ w.heap.size ≤ k) (e2 : s2.d0 = s.d0) (e3 : s2.d1 = s.d1) : PDx w' p Al2 nl2 cl2 A0 n0 c0 A1 n1 c1 s2 := by
  refine ⟨hb, hl, e2 ▸ own_fr h.r0 hf fun k hk ht' => ?_, e3 ▸ own_fr h.r1 hf fun k hk ht' => ?_, fun k hk h2 => ?_, fun k hk h2 => ?_⟩
  · rcases ht k ht' with e | e
    · exact h.nep0 k hk e
    · exact h.ne0 k e (bk_of hk)
  · rcases ht k ht' with e | e
    · exact h.nep1 k hk e
    · exact h.ne1 k e (bk_of hk)
  · rcases hat k hk with e | e
    · exact h.ne0 k e h2
    · have := (h.r0.lt k (by rw [ownBlock_slice]; exact h2)).2
      omega
  · rcases hat k hk with e | e
    · exact h.ne1 k e h2
    · have := (h.r1.lt k (by rw [ownBlock_slice]; exact h2)).2
      omega
/-- What stands when only the steps rise. -/
theorem bumped (ok : s.Ok) {S : Nat → Prop} (hh : Has S p Al A0 A1) (n : Nat) : MovedP w p S s.bump ((w.setCell ⟨p, 8, none⟩ (.int .i64 (IntKind.i64.wrap (s.steps + 1)))).drewN n) :=
  have hf := (fr_one w p 8 (.int .i64 (IntKind.i64.wrap (s.steps + 1)))).drewN n
  ⟨S, ⟨ok.bump, Al, nl, cl, A0, n0, c0, A1, n1, c1, h.at_ hf ((h.blk.set_ 8 (.int .i64 (IntKind.i64.wrap (s.steps + 1)))).drewN n) rfl rfl rfl, hh⟩, fun _ hk => .inl hk, hf.mono fun _ _ hk => hk ▸ hh.p⟩
end PDx

section
variable (w : World) (p : Nat) (S : Nat → Prop) (s : DS)
set_option maxHeartbeats 1000000 in
set_option maxRecDepth 100000 in
theorem syncP (h : PD w p S s) : Calls Try.prog 18 #[.pointer (some ⟨p, 0, none⟩)] w fun e w' => e = .returned (.int .i64 0) ∧ MovedP w p S s.syncS w' := by
  obtain ⟨ok, Al, nl, cl, A0, n0, c0, A1, n1, c1, hx, hh⟩ := h
  have ht := thereYes w p s.cap ok.cap1 hx.x0
  have x1 := hx.x1
  have x2 := hx.x2
  have x8 := hx.x8
  have fz := hx.blk.frozen
  obtain ⟨st, hst⟩ : ∃ st, IntKind.i64.wrap (s.steps + 1) = st := ⟨_, rfl⟩
  have H := Lib.hid (And.intro ok (And.intro hx (And.intro hh hst)))
  clear hx hh ok
  go_enter Try.func18, Try.ntmps18
  go_wp2_with (go_at_call 41; refine ht.mono ?_; clear ht; rintro e w' ⟨rfl, rfl⟩)
  go_ret
  obtain ⟨ok, hx, hh, hst⟩ := H.out
  have hb := (hx.blk.set_ 8 (.int .i64 st)).set_ 2 (.int .i64 nl)
  have hf := fr_more (fr_one w p 8 (.int .i64 st)) 2 (.int .i64 nl)
  refine ⟨rfl, S, ⟨ok.syncS, Al, nl, cl, A0, n0, c0, A1, n1, c1, hx.at_ hf ?_ rfl rfl rfl, hh⟩, fun k hk => .inl hk, hf.mono fun k _ hk => hk ▸ hh.p⟩
  subst hst
  rw [← hx.len] at hb ⊢
  exact hb

set_option maxHeartbeats 2000000 in
set_option maxRecDepth 100000 in
theorem writeP (h : PD w p S s) (A : Option Addr) (n c : Nat) (b : List Nat) (hr : Reads w w.heap.size 1 A n (byts b)) (hs : Small b) (hn : n ≤ 140737488351240) (hne : ∀ k, 0 < n → blkOf A = some k → ¬ S k) :
    Calls Try.prog 19 #[.pointer (some ⟨p, 0, none⟩), .slice A n c] w fun e w' => e = .returned (.int .i64 (s.writeC b : Nat)) ∧ MovedP w p S (s.writeS b) w' := by
  obtain ⟨ok, Al, nl, cl, A0, n0, c0, A1, n1, c1, hx, hh⟩ := h
  obtain ⟨i0, hi, hz0, hz1, hz2⟩ := info_parts Try.info5w
  have ht := thereYes w p s.cap ok.cap1 hx.x0
  have x0 := hx.x0
  have x1 := hx.x1
  have x8 := hx.x8
  have fz := hx.blk.frozen
  obtain ⟨st, hst⟩ : ∃ st, IntKind.i64.wrap (s.steps + 1) = st := ⟨_, rfl⟩
  have hl := hx.len
  have hbl : b.length = n := by have := hr.1; rw [byts_length] at this; omega
  have b1 := ok.cap2
  have b2 := ok.nl
  rw [hl] at b2
  obtain ⟨cp, hcp⟩ : ∃ cp, s.cap = cp := ⟨_, rfl⟩
  obtain ⟨d, hd⟩ : ∃ d : Int, (cp : Int) - (nl : Int) = d := ⟨_, rfl⟩
  have u1 : IntKind.i64.wrap ((cp : Int) - (nl : Int)) = d := by rw [IntWalk.i64_in _ (by omega)]; exact hd
  rw [hcp] at x0 b1
  have eC : s.writeC b = if 0 < n ∧ cp < nl + n then 7 else 0 := by unfold DS.writeC; rw [hbl, hl, hcp]
  have eS : s.writeS b = if 0 < n ∧ cp < nl + n then s.bump else { s.bump with log := s.log ++ b } := by unfold DS.writeS; rw [hbl, hl, hcp]
  have okS := ok.writeS hs
  rw [eS] at okS
  rw [eC, eS]
  have ho8 : (w.setCell ⟨p, 8, none⟩ (.int .i64 st)).ownsRow 0 5 1 (.slice Al nl cl) nl (byts s.log) := own_fr hx.rl (fr_one w p 8 _) hx.nel
  have hr8 : Reads (w.setCell ⟨p, 8, none⟩ (.int .i64 st)) w.heap.size 1 A n (byts b) := hr.fr0 (fr_one w p 8 _) (Nat.le_refl _) fun h0 k hk e => hne k h0 hk (e ▸ hh.p)
  have y0 : (w.setCell ⟨p, 8, none⟩ (.int .i64 st)).cell? ⟨p, 0, none⟩ = some (.int .i64 cp) := by rw [World.cell?_setCell_other _ _ _ _ (by simp)]; exact x0
  have y1 : (w.setCell ⟨p, 8, none⟩ (.int .i64 st)).cell? ⟨p, 1, none⟩ = some (.slice Al nl cl) := by rw [World.cell?_setCell_other _ _ _ _ (by simp)]; exact x1
  by_cases hfull : 0 < n ∧ cp < nl + n
  · have q1 : decide ((0 : Int) < (n : Int)) = true := decide_eq_true (by omega)
    have q2 : decide (d < (n : Int)) = true := decide_eq_true (by omega)
    have q3 : d < (n : Int) := by omega
    have q4 : 0 < n := hfull.1
    rw [if_pos hfull, if_pos hfull]
    have H := Lib.hid (And.intro ok (And.intro hx (And.intro hh hst)))
    clear hx hh ok eC eS hfull okS hd hcp ho8 hr8 hr hs hne hbl hl
    go_enter Try.func19, Try.ntmps19
    go_wp2_with (go_at_call 41; refine ht.mono ?_; clear ht; rintro e w' ⟨rfl, rfl⟩)
    go_quiet (fail)
    go_wp2
    go_ret
    obtain ⟨ok, hx, hh, hst⟩ := H.out
    refine ⟨rfl, ?_⟩
    rw [← hst]
    exact hx.bumped ok hh _
  · rw [if_neg hfull, if_neg hfull]
    rw [if_neg hfull] at okS
    have fin : ∀ (m : Nat) (v2 : Value) (w2 : World), w2.ownsRow 0 5 1 v2 (nl + n) (byts s.log ++ byts b) → ((w.setCell ⟨p, 8, none⟩ (.int .i64 st)).drewN m).grownBy w2 (Value.slice Al nl cl).ownBlock → (v2.ownBlock = (Value.slice Al nl cl).ownBlock ∨ v2.ownBlock = some w.heap.size) →
        w2.cell? ⟨p, 1, none⟩ = some (.slice Al nl cl) ∧ w2.frozen? ⟨p, 1, none⟩ = false ∧ MovedP w p S { s.bump with log := s.log ++ b } (w2.setCell ⟨p, 1, none⟩ v2) := by
      intro m v2 w2 o2 g2 at2
      obtain ⟨A2, c2, rfl⟩ := own_shape o2
      have hb8 : Blk ((w.setCell ⟨p, 8, none⟩ (.int .i64 st)).drewN m) p 54 _ := hx.blk.set_ 8 (.int .i64 st)
      have hb2 := hb8.grown g2 (fun e => hx.nel p e.symm rfl)
      have f1 : Fr (fun k => k = p ∨ blkOf Al = some k) w ((w.setCell ⟨p, 8, none⟩ (.int .i64 st)).drewN m) := ((fr_one w p 8 (.int .i64 st)).mono fun k _ e => .inl e).drewN m
      have f2 : Fr (fun k => k = p ∨ blkOf Al = some k) w w2 := f1.grown g2 fun k _ e => .inr (by rw [← ownBlock_slice]; exact e)
      have f3 := f2.setCell (p := ⟨p, 1, none⟩) (fun _ => .inl rfl) (.slice A2 (nl + n) c2)
      have hat := own_at at2
      refine ⟨(hb2.cell 1).trans rfl, hb2.frozen 1, fun k => S k ∨ blkOf A2 = some k, ⟨okS, A2, nl + n, c2, A0, n0, c0, A1, n1, c1, hx.log_ f3 ?_ ?_ (fun k e => e) hat rfl rfl, hh.more w.heap.size hat⟩, fun k hk => hh.sub hat k hk, f3.mono fun k _ e => e.elim (fun e => e ▸ hh.p) (hh.l k)⟩
      · have := hb2.set_ 1 (.slice A2 (nl + n) c2)
        rw [← hst] at this
        exact this
      · have := own_setCell o2 (p := ⟨p, 1, none⟩) (fun e => own_blk_ne o2 hb2 (by decide) e) (.slice A2 (nl + n) c2)
        rw [byts_append]
        exact this
    have FIN := Lib.hid fin
    have hlm : nl + n ≤ 140737488351240 := by omega
    rcases Nat.eq_zero_or_pos n with h0 | h0
    · have q1 : decide ((0 : Int) < (n : Int)) = false := decide_eq_false (by omega)
      have q4 : ¬ 0 < n := by omega
      clear h0 hx hh ok eC eS hfull okS hd hcp hr hs hne hbl hl fin
      go_enter Try.func19, Try.ntmps19
      go_wp2_with (go_at_call 41; refine ht.mono ?_; clear ht; rintro e w' ⟨rfl, rfl⟩)
      go_quiet (fail)
      go_wp2_with (at_builtin; refine wpList_append_any _ rfl _ _ 22 rfl 0 5 i0 (.int .u8 0) 1 1 Try.underlying22 hi hz0 hz1 hz2 rfl (by decide) _ _ _ rfl ho8 w.heap.size A n c _ rfl hr8 ?c1 ?c2 ?c3 ?c4 ?_)
      case c1 => exact byts_one _
      case c2 => unfold maxLen; omega
      case c3 => omega
      case c4 => exact Nat.zero_le _
      intro v2 w2 o2 g2 at2
      obtain ⟨A2, c2, rfl⟩ := own_shape o2
      obtain ⟨z1, z2, hM⟩ := FIN.out _ _ w2 o2 g2 at2
      have HM := Lib.hid hM
      clear hM
      go_wp2
      go_ret
      exact ⟨rfl, HM.out⟩
    · have q1 : decide ((0 : Int) < (n : Int)) = true := decide_eq_true (by omega)
      have q2 : decide (d < (n : Int)) = false := decide_eq_false (by omega)
      have q3 : ¬ d < (n : Int) := by omega
      clear hx hh ok eC eS hfull okS hd hcp hr hs hne hbl hl fin
      go_enter Try.func19, Try.ntmps19
      go_wp2_with (go_at_call 41; refine ht.mono ?_; clear ht; rintro e w' ⟨rfl, rfl⟩)
      go_quiet (fail)
      go_wp2_with (at_builtin; refine wpList_append_any _ rfl _ _ 22 rfl 0 5 i0 (.int .u8 0) 1 1 Try.underlying22 hi hz0 hz1 hz2 rfl (by decide) _ _ _ rfl ho8 w.heap.size A n c _ rfl hr8 ?c1 ?c2 ?c3 ?c4 ?_)
      case c1 => exact byts_one _
      case c2 => unfold maxLen; omega
      case c3 => omega
      case c4 => exact Nat.zero_le _
      intro v2 w2 o2 g2 at2
      obtain ⟨A2, c2, rfl⟩ := own_shape o2
      obtain ⟨z1, z2, hM⟩ := FIN.out _ _ w2 o2 g2 at2
      have HM := Lib.hid hM
      clear hM
      go_wp2
      go_ret
      exact ⟨rfl, HM.out⟩
end

namespace RDx
variable {w w' : World} {p : Nat} {Al : Option Addr} {nl cl : Nat} {A0 : Option Addr} {n0 c0 : Nat} {A1 : Option Addr} {n1 c1 : Nat} {s s2 : DS} (h : RDx w p Al nl cl A0 n0 c0 A1 n1 c1 s)
include h
theorem nel : ∀ k, (Value.slice Al nl cl).ownBlock = some k → ¬ k = p := fun k hk e => own_blk_ne h.rl h.blk (by decide) (e ▸ hk)
theorem nep0 : ∀ k, (Value.slice A0 n0 c0).ownBlock = some k → ¬ k = p := fun k hk e => own_blk_ne h.r0 h.blk (by decide) (e ▸ hk)
theorem nep1 : ∀ k, (Value.slice A1 n1 c1).ownBlock = some k → ¬ k = p := fun k hk e => own_blk_ne h.r1 h.blk (by decide) (e ▸ hk)
/-- Its own block turned, the lists stay. -/
theorem at_ (hf : Fr (fun k => k = p) w w') (hb : Blk w' p 61 #[.int .i64 s2.cap, .slice Al nl cl, .int .i64 s2.sure, .slice A0 n0 c0, .slice A1 n1 c1, .bool s2.h0, .bool s2.h1, .int .i64 s2.last, .int .i64 s2.steps]) (e1 : s2.log = s.log) (e2 : s2.d0 = s.d0) (e3 : s2.d1 = s.d1) : RDx w' p Al nl cl A0 n0 c0 A1 n1 c1 s2 :=
  ⟨hb, e1 ▸ own_fr h.rl hf h.nel, e2 ▸ own_fr h.r0 hf h.nep0, e3 ▸ own_fr h.r1 hf h.nep1, h.ne0, h.ne1⟩
/-- .. a new log. -/
theorem log_ {Al2 : Option Addr} {nl2 cl2 : Nat} {T : Nat → Prop} (hf : Fr T w w') (hb : Blk w' p 61 #[.int .i64 s2.cap, .slice Al2 nl2 cl2, .int .i64 s2.sure, .slice A0 n0 c0, .slice A1 n1 c1, .bool s2.h0, .bool s2.h1, .int .i64 s2.last, .int .i64 s2.steps]) (hl : w'.ownsRow 0 5 1 (.slice Al2 nl2 cl2) nl2 (byts s2.log))
    (ht : ∀ k, T k → k = p ∨ blkOf Al = some k) (hat : ∀ k, blkOf Al2 = some k → blkOf Al = some k ∨ w.heap.size ≤ k) (e2 : s2.d0 = s.d0) (e3 : s2.d1 = s.d1) : RDx w' p Al2 nl2 cl2 A0 n0 c0 A1 n1 c1 s2 := by
  refine ⟨hb, hl, e2 ▸ own_fr h.r0 hf fun k hk ht' => ?_, e3 ▸ own_fr h.r1 hf fun k hk ht' => ?_, fun k hk h2 => ?_, fun k hk h2 => ?_⟩
  · rcases ht k ht' with e | e
    · exact h.nep0 k hk e
    · exact h.ne0 k e (bk_of hk)
  · rcases ht k ht' with e | e
    · exact h.nep1 k hk e
    · exact h.ne1 k e (bk_of hk)
  · rcases hat k hk with e | e
    · exact h.ne0 k e h2
    · have := (h.r0.lt k (by rw [ownBlock_slice]; exact h2)).2
      omega
  · rcases hat k hk with e | e
    · exact h.ne1 k e h2
    · have := (h.r1.lt k (by rw [ownBlock_slice]; exact h2)).2
      omega
/-- What stands when only the steps rise. -/
theorem bumped (ok : s.Ok) {S : Nat → Prop} (hh : Has S p Al A0 A1) (n : Nat) : MovedR w p S s.bump ((w.setCell ⟨p, 8, none⟩ (.int .i64 (IntKind.i64.wrap (s.steps + 1)))).drewN n) :=
  have hf := (fr_one w p 8 (.int .i64 (IntKind.i64.wrap (s.steps + 1)))).drewN n
  ⟨S, ⟨ok.bump, Al, nl, cl, A0, n0, c0, A1, n1, c1, h.at_ hf ((h.blk.set_ 8 (.int .i64 (IntKind.i64.wrap (s.steps + 1)))).drewN n) rfl rfl rfl, hh⟩, fun _ hk => .inl hk, hf.mono fun _ _ hk => hk ▸ hh.p⟩
end RDx

section
variable (w : World) (p : Nat) (S : Nat → Prop) (s : DS)
set_option maxHeartbeats 1000000 in
set_option maxRecDepth 100000 in
theorem syncR (h : RD w p S s) : Calls Try.prog 34 #[.pointer (some ⟨p, 0, none⟩)] w fun e w' => e = .returned (.int .i64 0) ∧ MovedR w p S s.syncS w' := by
  obtain ⟨ok, Al, nl, cl, A0, n0, c0, A1, n1, c1, hx, hh⟩ := h
  have x1 := hx.x1
  have x2 := hx.x2
  have x8 := hx.x8
  have fz := hx.blk.frozen
  obtain ⟨st, hst⟩ : ∃ st, IntKind.i64.wrap (s.steps + 1) = st := ⟨_, rfl⟩
  have H := Lib.hid (And.intro ok (And.intro hx (And.intro hh hst)))
  clear hx hh ok
  go_enter Try.func34, Try.ntmps34
  go_wp2
  go_ret
  obtain ⟨ok, hx, hh, hst⟩ := H.out
  have hb := (hx.blk.set_ 8 (.int .i64 st)).set_ 2 (.int .i64 nl)
  have hf := fr_more (fr_one w p 8 (.int .i64 st)) 2 (.int .i64 nl)
  refine ⟨rfl, S, ⟨ok.syncS, Al, nl, cl, A0, n0, c0, A1, n1, c1, hx.at_ hf ?_ rfl rfl rfl, hh⟩, fun k hk => .inl hk, hf.mono fun k _ hk => hk ▸ hh.p⟩
  subst hst
  rw [← hx.len] at hb ⊢
  exact hb

set_option maxHeartbeats 2000000 in
set_option maxRecDepth 100000 in
theorem writeR (h : RD w p S s) (A : Option Addr) (n c : Nat) (b : List Nat) (hr : Reads w w.heap.size 1 A n (byts b)) (hs : Small b) (hn : n ≤ 140737488351240) (hne : ∀ k, 0 < n → blkOf A = some k → ¬ S k) :
    Calls Try.prog 32 #[.pointer (some ⟨p, 0, none⟩), .slice A n c] w fun e w' => e = .returned (.int .i64 (s.writeC b : Nat)) ∧ MovedR w p S (s.writeS b) w' := by
  obtain ⟨ok, Al, nl, cl, A0, n0, c0, A1, n1, c1, hx, hh⟩ := h
  obtain ⟨i0, hi, hz0, hz1, hz2⟩ := info_parts Try.info5w
  have x0 := hx.x0
  have x1 := hx.x1
  have x8 := hx.x8
  have fz := hx.blk.frozen
  obtain ⟨st, hst⟩ : ∃ st, IntKind.i64.wrap (s.steps + 1) = st := ⟨_, rfl⟩
  have hl := hx.len
  have hbl : b.length = n := by have := hr.1; rw [byts_length] at this; omega
  have b1 := ok.cap2
  have b2 := ok.nl
  rw [hl] at b2
  obtain ⟨cp, hcp⟩ : ∃ cp, s.cap = cp := ⟨_, rfl⟩
  obtain ⟨d, hd⟩ : ∃ d : Int, (cp : Int) - (nl : Int) = d := ⟨_, rfl⟩
  have u1 : IntKind.i64.wrap ((cp : Int) - (nl : Int)) = d := by rw [IntWalk.i64_in _ (by omega)]; exact hd
  rw [hcp] at x0 b1
  have eC : s.writeC b = if 0 < n ∧ cp < nl + n then 7 else 0 := by unfold DS.writeC; rw [hbl, hl, hcp]
  have eS : s.writeS b = if 0 < n ∧ cp < nl + n then s.bump else { s.bump with log := s.log ++ b } := by unfold DS.writeS; rw [hbl, hl, hcp]
  have okS := ok.writeS hs
  rw [eS] at okS
  rw [eC, eS]
  have ho8 : (w.setCell ⟨p, 8, none⟩ (.int .i64 st)).ownsRow 0 5 1 (.slice Al nl cl) nl (byts s.log) := own_fr hx.rl (fr_one w p 8 _) hx.nel
  have hr8 : Reads (w.setCell ⟨p, 8, none⟩ (.int .i64 st)) w.heap.size 1 A n (byts b) := hr.fr0 (fr_one w p 8 _) (Nat.le_refl _) fun h0 k hk e => hne k h0 hk (e ▸ hh.p)
  have y0 : (w.setCell ⟨p, 8, none⟩ (.int .i64 st)).cell? ⟨p, 0, none⟩ = some (.int .i64 cp) := by rw [World.cell?_setCell_other _ _ _ _ (by simp)]; exact x0
  have y1 : (w.setCell ⟨p, 8, none⟩ (.int .i64 st)).cell? ⟨p, 1, none⟩ = some (.slice Al nl cl) := by rw [World.cell?_setCell_other _ _ _ _ (by simp)]; exact x1
  by_cases hfull : 0 < n ∧ cp < nl + n
  · have q1 : decide ((0 : Int) < (n : Int)) = true := decide_eq_true (by omega)
    have q2 : decide (d < (n : Int)) = true := decide_eq_true (by omega)
    have q3 : d < (n : Int) := by omega
    have q4 : 0 < n := hfull.1
    rw [if_pos hfull, if_pos hfull]
    have H := Lib.hid (And.intro ok (And.intro hx (And.intro hh hst)))
    clear hx hh ok eC eS hfull okS hd hcp ho8 hr8 hr hs hne hbl hl
    go_enter Try.func32, Try.ntmps32
    go_wp2
    go_quiet (fail)
    go_wp2
    go_ret
    obtain ⟨ok, hx, hh, hst⟩ := H.out
    refine ⟨rfl, ?_⟩
    rw [← hst]
    exact hx.bumped ok hh _
  · rw [if_neg hfull, if_neg hfull]
    rw [if_neg hfull] at okS
    have fin : ∀ (m : Nat) (v2 : Value) (w2 : World), w2.ownsRow 0 5 1 v2 (nl + n) (byts s.log ++ byts b) → ((w.setCell ⟨p, 8, none⟩ (.int .i64 st)).drewN m).grownBy w2 (Value.slice Al nl cl).ownBlock → (v2.ownBlock = (Value.slice Al nl cl).ownBlock ∨ v2.ownBlock = some w.heap.size) →
        w2.cell? ⟨p, 1, none⟩ = some (.slice Al nl cl) ∧ w2.frozen? ⟨p, 1, none⟩ = false ∧ MovedR w p S { s.bump with log := s.log ++ b } (w2.setCell ⟨p, 1, none⟩ v2) := by
      intro m v2 w2 o2 g2 at2
      obtain ⟨A2, c2, rfl⟩ := own_shape o2
      have hb8 : Blk ((w.setCell ⟨p, 8, none⟩ (.int .i64 st)).drewN m) p 61 _ := hx.blk.set_ 8 (.int .i64 st)
      have hb2 := hb8.grown g2 (fun e => hx.nel p e.symm rfl)
      have f1 : Fr (fun k => k = p ∨ blkOf Al = some k) w ((w.setCell ⟨p, 8, none⟩ (.int .i64 st)).drewN m) := ((fr_one w p 8 (.int .i64 st)).mono fun k _ e => .inl e).drewN m
      have f2 : Fr (fun k => k = p ∨ blkOf Al = some k) w w2 := f1.grown g2 fun k _ e => .inr (by rw [← ownBlock_slice]; exact e)
      have f3 := f2.setCell (p := ⟨p, 1, none⟩) (fun _ => .inl rfl) (.slice A2 (nl + n) c2)
      have hat := own_at at2
      refine ⟨(hb2.cell 1).trans rfl, hb2.frozen 1, fun k => S k ∨ blkOf A2 = some k, ⟨okS, A2, nl + n, c2, A0, n0, c0, A1, n1, c1, hx.log_ f3 ?_ ?_ (fun k e => e) hat rfl rfl, hh.more w.heap.size hat⟩, fun k hk => hh.sub hat k hk, f3.mono fun k _ e => e.elim (fun e => e ▸ hh.p) (hh.l k)⟩
      · have := hb2.set_ 1 (.slice A2 (nl + n) c2)
        rw [← hst] at this
        exact this
      · have := own_setCell o2 (p := ⟨p, 1, none⟩) (fun e => own_blk_ne o2 hb2 (by decide) e) (.slice A2 (nl + n) c2)
        rw [byts_append]
        exact this
    have FIN := Lib.hid fin
    have hlm : nl + n ≤ 140737488351240 := by omega
    rcases Nat.eq_zero_or_pos n with h0 | h0
    · have q1 : decide ((0 : Int) < (n : Int)) = false := decide_eq_false (by omega)
      have q4 : ¬ 0 < n := by omega
      clear h0 hx hh ok eC eS hfull okS hd hcp hr hs hne hbl hl fin
      go_enter Try.func32, Try.ntmps32
      go_wp2
      go_quiet (fail)
      go_wp2_with (at_builtin; refine wpList_append_any _ rfl _ _ 22 rfl 0 5 i0 (.int .u8 0) 1 1 Try.underlying22 hi hz0 hz1 hz2 rfl (by decide) _ _ _ rfl ho8 w.heap.size A n c _ rfl hr8 ?c1 ?c2 ?c3 ?c4 ?_)
      case c1 => exact byts_one _
      case c2 => unfold maxLen; omega
      case c3 => omega
      case c4 => exact Nat.zero_le _
      intro v2 w2 o2 g2 at2
      obtain ⟨A2, c2, rfl⟩ := own_shape o2
      obtain ⟨z1, z2, hM⟩ := FIN.out _ _ w2 o2 g2 at2
      have HM := Lib.hid hM
      clear hM
      go_wp2
      go_ret
      exact ⟨rfl, HM.out⟩
    · have q1 : decide ((0 : Int) < (n : Int)) = true := decide_eq_true (by omega)
      have q2 : decide (d < (n : Int)) = false := decide_eq_false (by omega)
      have q3 : ¬ d < (n : Int) := by omega
      clear hx hh ok eC eS hfull okS hd hcp hr hs hne hbl hl fin
      go_enter Try.func32, Try.ntmps32
      go_wp2
      go_quiet (fail)
      go_wp2_with (at_builtin; refine wpList_append_any _ rfl _ _ 22 rfl 0 5 i0 (.int .u8 0) 1 1 Try.underlying22 hi hz0 hz1 hz2 rfl (by decide) _ _ _ rfl ho8 w.heap.size A n c _ rfl hr8 ?c1 ?c2 ?c3 ?c4 ?_)
      case c1 => exact byts_one _
      case c2 => unfold maxLen; omega
      case c3 => omega
      case c4 => exact Nat.zero_le _
      intro v2 w2 o2 g2 at2
      obtain ⟨A2, c2, rfl⟩ := own_shape o2
      obtain ⟨z1, z2, hM⟩ := FIN.out _ _ w2 o2 g2 at2
      have HM := Lib.hid hM
      clear hM
      go_wp2
      go_ret
      exact ⟨rfl, HM.out⟩
end
end Go.Proofs.Ytapgcglpkilofaa
