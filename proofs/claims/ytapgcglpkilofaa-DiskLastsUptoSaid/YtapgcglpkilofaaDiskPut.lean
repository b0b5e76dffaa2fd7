/- Put, Switch of a disk, the program's and the document's. Conditions: those that each states. -/
import Derived.Test.YtapgcglpkilofaaDiskTrim
namespace Go.Proofs.Ytapgcglpkilofaa
open Go.RowKit
theorem MovedP.drewN {w w' : World} {p : Nat} {S : Nat → Prop} {s : DS} (h : MovedP w p S s w') (n : Nat) : MovedP w p S s (w'.drewN n) := by
  obtain ⟨S', hd, hs, hf⟩ := h
  exact ⟨S', hd.fr (T := noB) ((Fr.refl noB w').drewN n) (fun _ _ e => e), hs, hf.drewN n⟩
theorem MovedP.drew {w w' : World} {p : Nat} {S : Nat → Prop} {s : DS} (h : MovedP w p S s w') : MovedP w p S s w'.drew := by
  obtain ⟨S', hd, hs, hf⟩ := h
  exact ⟨S', hd.fr (T := noB) (Fr.refl noB w').drew (fun _ _ e => e), hs, hf.drew⟩
theorem MovedR.drewN {w w' : World} {p : Nat} {S : Nat → Prop} {s : DS} (h : MovedR w p S s w') (n : Nat) : MovedR w p S s (w'.drewN n) := by
  obtain ⟨S', hd, hs, hf⟩ := h
  exact ⟨S', hd.fr (T := noB) ((Fr.refl noB w').drewN n) (fun _ _ e => e), hs, hf.drewN n⟩
theorem MovedR.drew {w w' : World} {p : Nat} {S : Nat → Prop} {s : DS} (h : MovedR w p S s w') : MovedR w p S s w'.drew := by
  obtain ⟨S', hd, hs, hf⟩ := h
  exact ⟨S', hd.fr (T := noB) (Fr.refl noB w').drew (fun _ _ e => e), hs, hf.drew⟩

theorem PDx.put0 {w w1 : World} {p : Nat} {S : Nat → Prop} {Al : Option Addr} {nl cl : Nat} {A0 : Option Addr} {n0 c0 : Nat} {A1 : Option Addr} {n1 c1 : Nat} {s : DS} (hx : PDx w p Al nl cl A0 n0 c0 A1 n1 c1 s) (hh : Has S p Al A0 A1)
    {b : List Nat} {n c2 : Nat} {A2 : Option Addr} {st : Int} (hst : IntKind.i64.wrap (s.steps + 1) = st) (ok : ({ s.bump with d0 := b, h0 := true } : DS).Ok) (o1 : w1.ownsRow w.heap.size 5 1 (.slice A2 n c2) n (byts b)) (m1 : Below w.heap.size (w.setCell ⟨p, 8, none⟩ (.int .i64 st)) w1) :
    Blk w1 p 54 (#[.int .i64 s.cap, .slice Al nl cl, .int .i64 s.sure, .slice A0 n0 c0, .bool s.h0, .slice A1 n1 c1, .bool s.h1, .int .i64 s.last, .int .i64 s.steps].setIfInBounds 8 (.int .i64 st)) ∧ ∀ w2, w2 = (w1.setCell ⟨p, 3, none⟩ (.slice A2 n c2)).setCell ⟨p, 4, none⟩ (.bool true) → MovedP w p S { s.bump with d0 := b, h0 := true } w2 := by
  have hb8 : Blk (w.setCell ⟨p, 8, none⟩ (.int .i64 st)) p 54 _ := hx.blk.set_ 8 (.int .i64 st)
  have hb1 := hb8.below m1 hx.blk.lt
  refine ⟨hb1, ?_⟩
  rintro w2 rfl
  have f1 : Fr (fun k => k = p) w w1 := (fr_one w p 8 (.int .i64 st)).trans (S' := noB) (Fr.of_new (m1.mono (Nat.le_of_eq (by simp)))) (fun _ _ e => e.elim)
  have f2 := fr_more (fr_more f1 3 (.slice A2 n c2)) 4 (.bool true)
  have hb3 := (hb1.set_ 3 (.slice A2 n c2)).set_ 4 (.bool true)
  have hne : ∀ (u : World), u.ownsRow 0 5 1 (.slice A2 n c2) n (byts b) → (Value.slice A2 n c2).ownBlock ≠ some p := fun u _ e => by
    have := (o1.lt p e).1
    have := hx.blk.lt
    omega
  have o0 := own_mono o1 (Nat.zero_le _)
  have o3 := own_setCell (own_setCell o0 (p := ⟨p, 3, none⟩) (hne _ o0) (.slice A2 n c2)) (p := ⟨p, 4, none⟩) (hne _ o0) (.bool true)
  have hnew : ∀ k, blkOf A2 = some k → w.heap.size ≤ k := fun k hk => (o1.lt k (by rw [ownBlock_slice]; exact hk)).1
  refine ⟨fun k => S k ∨ blkOf A2 = some k, ⟨ok, Al, nl, cl, A2, n, c2, A1, n1, c1, ⟨?_, own_fr hx.rl f2 hx.nel, o3, own_fr hx.r1 f2 hx.nep1, ?_, hx.ne1⟩, ⟨.inl hh.p, fun k hk => .inl (hh.l k hk), fun k hk => .inr hk, fun k hk => .inl (hh.d1 k hk)⟩⟩, fun k hk => hk.imp_right (hnew k), f2.mono fun k _ e => e ▸ hh.p⟩
  · rw [← hst] at hb3
    exact hb3
  · intro k hk h2
    have h3 := (hx.rl.lt k (by rw [ownBlock_slice]; exact hk)).2
    have := hnew k h2
    omega

theorem PDx.put1 {w w1 : World} {p : Nat} {S : Nat → Prop} {Al : Option Addr} {nl cl : Nat} {A0 : Option Addr} {n0 c0 : Nat} {A1 : Option Addr} {n1 c1 : Nat} {s : DS} (hx : PDx w p Al nl cl A0 n0 c0 A1 n1 c1 s) (hh : Has S p Al A0 A1)
    {b : List Nat} {n c2 : Nat} {A2 : Option Addr} {st : Int} (hst : IntKind.i64.wrap (s.steps + 1) = st) (ok : ({ s.bump with d1 := b, h1 := true } : DS).Ok) (o1 : w1.ownsRow w.heap.size 5 1 (.slice A2 n c2) n (byts b)) (m1 : Below w.heap.size (w.setCell ⟨p, 8, none⟩ (.int .i64 st)) w1) :
    Blk w1 p 54 (#[.int .i64 s.cap, .slice Al nl cl, .int .i64 s.sure, .slice A0 n0 c0, .bool s.h0, .slice A1 n1 c1, .bool s.h1, .int .i64 s.last, .int .i64 s.steps].setIfInBounds 8 (.int .i64 st)) ∧ ∀ w2, w2 = (w1.setCell ⟨p, 5, none⟩ (.slice A2 n c2)).setCell ⟨p, 6, none⟩ (.bool true) → MovedP w p S { s.bump with d1 := b, h1 := true } w2 := by
  have hb8 : Blk (w.setCell ⟨p, 8, none⟩ (.int .i64 st)) p 54 _ := hx.blk.set_ 8 (.int .i64 st)
  have hb1 := hb8.below m1 hx.blk.lt
  refine ⟨hb1, ?_⟩
  rintro w2 rfl
  have f1 : Fr (fun k => k = p) w w1 := (fr_one w p 8 (.int .i64 st)).trans (S' := noB) (Fr.of_new (m1.mono (Nat.le_of_eq (by simp)))) (fun _ _ e => e.elim)
  have f2 := fr_more (fr_more f1 5 (.slice A2 n c2)) 6 (.bool true)
  have hb3 := (hb1.set_ 5 (.slice A2 n c2)).set_ 6 (.bool true)
  have hne : ∀ (u : World), u.ownsRow 0 5 1 (.slice A2 n c2) n (byts b) → (Value.slice A2 n c2).ownBlock ≠ some p := fun u _ e => by
    have := (o1.lt p e).1
    have := hx.blk.lt
    omega
  have o0 := own_mono o1 (Nat.zero_le _)
  have o3 := own_setCell (own_setCell o0 (p := ⟨p, 5, none⟩) (hne _ o0) (.slice A2 n c2)) (p := ⟨p, 6, none⟩) (hne _ o0) (.bool true)
  have hnew : ∀ k, blkOf A2 = some k → w.heap.size ≤ k := fun k hk => (o1.lt k (by rw [ownBlock_slice]; exact hk)).1
  refine ⟨fun k => S k ∨ blkOf A2 = some k, ⟨ok, Al, nl, cl, A0, n0, c0, A2, n, c2, ⟨?_, own_fr hx.rl f2 hx.nel, own_fr hx.r0 f2 hx.nep0, o3, hx.ne0, ?_⟩, ⟨.inl hh.p, fun k hk => .inl (hh.l k hk), fun k hk => .inl (hh.d0 k hk), fun k hk => .inr hk⟩⟩, fun k hk => hk.imp_right (hnew k), f2.mono fun k _ e => e ▸ hh.p⟩
  · rw [← hst] at hb3
    exact hb3
  · intro k hk h2
    have h3 := (hx.rl.lt k (by rw [ownBlock_slice]; exact hk)).2
    have := hnew k h2
    omega

section
variable (w : World) (p : Nat) (S : Nat → Prop) (s : DS)
set_option maxHeartbeats 4000000 in
set_option maxRecDepth 100000 in
theorem putP (h : PD w p S s) (A : Option Addr) (n c : Nat) (b : List Nat) (hr : Reads w w.heap.size 1 A n (byts b)) (hs : Small b) (hn : n ≤ 140737488351240) (hne : ∀ k, 0 < n → blkOf A = some k → ¬ S k) :
    Calls Try.prog 17 #[.pointer (some ⟨p, 0, none⟩), .slice A n c] w fun e w' => e = .returned (.int .i64 0) ∧ MovedP w p S (s.putS b) w' := by
  obtain ⟨ok, Al, nl, cl, A0, n0, c0, A1, n1, c1, hx, hh⟩ := h
  have ht := thereYes w p s.cap ok.cap1 hx.x0
  have x7 := hx.x7
  have x8 := hx.x8
  have fz := hx.blk.frozen
  obtain ⟨st, hst⟩ : ∃ st, IntKind.i64.wrap (s.steps + 1) = st := ⟨_, rfl⟩
  have hbl : b.length = n := by have := hr.1; rw [byts_length] at this; omega
  have okS := ok.putS hs (by rw [hbl]; exact hn)
  have hsp := fun (W : World) (hW : W.cell? ⟨p, 7, none⟩ = some (.int .i64 s.last)) => spare_any W p s ok hW
  have hc := clone_any (w.setCell ⟨p, 8, none⟩ (.int .i64 st)).drew w.heap.size A n c b ((hr.fr0 (fr_one w p 8 (.int .i64 st)) (Nat.le_refl _) fun h0 k hk e => hne k h0 hk (e ▸ hh.p)).drew) (by simp) hn
  rw [show (w.setCell ⟨p, 8, none⟩ (.int .i64 st)).drew.heap.size = w.heap.size by simp] at hc
  have y7 : (w.setCell ⟨p, 8, none⟩ (.int .i64 st)).drew.cell? ⟨p, 7, none⟩ = some (.int .i64 s.last) := by
    show (w.setCell ⟨p, 8, none⟩ (.int .i64 st)).cell? ⟨p, 7, none⟩ = _
    rw [World.cell?_setCell_other _ _ _ _ (by simp)]; exact x7
  unfold DS.putS at okS ⊢
  unfold DS.sp at hsp
  have hl := ok.last
  have f0 : ∀ A2 c2 w1, (s.last ≠ 0 → ({ s.bump with d0 := b, h0 := true } : DS).Ok) → s.last ≠ 0 → w1.ownsRow w.heap.size 5 1 (.slice A2 n c2) n (byts b) → Below w.heap.size (w.setCell ⟨p, 8, none⟩ (.int .i64 st)) w1 → _ := fun A2 c2 w1 okk hl0 o1 m1 => hx.put0 hh hst (okk hl0) o1 m1
  have f1 : ∀ A2 c2 w1, (s.last = 0 → ({ s.bump with d1 := b, h1 := true } : DS).Ok) → s.last = 0 → w1.ownsRow w.heap.size 5 1 (.slice A2 n c2) n (byts b) → Below w.heap.size (w.setCell ⟨p, 8, none⟩ (.int .i64 st)) w1 → _ := fun A2 c2 w1 okk hl0 o1 m1 => hx.put1 hh hst (okk hl0) o1 m1
  by_cases hla : s.last = 0
  · rw [if_pos hla] at okS ⊢
    simp only [if_pos hla] at hsp
    have f := fun A2 c2 w1 o1 m1 => f1 A2 c2 w1 (fun _ => okS) hla o1 m1
    have F := Lib.hid f
    clear f f0 f1 hx hh ok okS hbl hr hs hne hl hla
    go_enter Try.func17, Try.ntmps17
    go_wp2_with (go_at_call 41; refine ht.mono ?_; clear ht; rintro e w' ⟨rfl, rfl⟩)
    go_region_law (first | (go_simp; go_at_call 42; refine (hsp _ (by assumption)).mono ?_; rintro e w' ⟨rfl, rfl⟩) | (go_simp; go_at_call 24; refine hc.mono ?_; rintro e w1 ⟨A2, c2, rfl, o1, m1⟩; obtain ⟨hb, hM⟩ := F.out A2 c2 w1 o1 ((Below.refl _ _).drew.trans m1); have z7 : w1.cell? ⟨p, 7, none⟩ = some (.int .i64 s.last) := (hb.cell 7).trans rfl; have z5 := (hb.cell 5).trans rfl; have z6 := (hb.cell 6).trans rfl; have zf := hb.frozen; have HM := Lib.hid hM; clear hM hb))
    all_goals
      go_wp2
      go_ret
      exact ⟨rfl, HM.out _ rfl⟩
  · rw [if_neg hla] at okS ⊢
    simp only [if_neg hla] at hsp
    have f := fun A2 c2 w1 o1 m1 => f0 A2 c2 w1 (fun _ => okS) hla o1 m1
    have F := Lib.hid f
    clear f f0 f1 hx hh ok okS hbl hr hs hne hl hla
    go_enter Try.func17, Try.ntmps17
    go_wp2_with (go_at_call 41; refine ht.mono ?_; clear ht; rintro e w' ⟨rfl, rfl⟩)
    go_region_law (first | (go_simp; go_at_call 42; refine (hsp _ (by assumption)).mono ?_; rintro e w' ⟨rfl, rfl⟩) | (go_simp; go_at_call 24; refine hc.mono ?_; rintro e w1 ⟨A2, c2, rfl, o1, m1⟩; obtain ⟨hb, hM⟩ := F.out A2 c2 w1 o1 ((Below.refl _ _).drew.trans m1); have z7 : w1.cell? ⟨p, 7, none⟩ = some (.int .i64 s.last) := (hb.cell 7).trans rfl; have z3 := (hb.cell 3).trans rfl; have z4 := (hb.cell 4).trans rfl; have zf := hb.frozen; have HM := Lib.hid hM; clear hM hb))
    all_goals
      go_wp2
      go_ret
      exact ⟨rfl, HM.out _ rfl⟩

set_option maxHeartbeats 4000000 in
set_option maxRecDepth 100000 in
theorem switchP (h : PD w p S s) : Calls Try.prog 22 #[.pointer (some ⟨p, 0, none⟩)] w fun e w' => e = .returned (.int .i64 (s.switchC : Nat)) ∧ MovedP w p S s.switchS w' := by
  obtain ⟨ok, Al, nl, cl, A0, n0, c0, A1, n1, c1, hx, hh⟩ := h
  have ht := thereYes w p s.cap ok.cap1 hx.x0
  have x7 := hx.x7
  have x8 := hx.x8
  have xh0 := hx.x4
  have xh1 := hx.x6
  have fz := hx.blk.frozen
  obtain ⟨st, hst⟩ : ∃ st, IntKind.i64.wrap (s.steps + 1) = st := ⟨_, rfl⟩
  have okS := ok.switchS
  have hsp := fun (W : World) (hW : W.cell? ⟨p, 7, none⟩ = some (.int .i64 s.last)) => spare_any W p s ok hW
  have y7 : (w.setCell ⟨p, 8, none⟩ (.int .i64 st)).cell? ⟨p, 7, none⟩ = some (.int .i64 s.last) := by
    rw [World.cell?_setCell_other _ _ _ _ (by simp)]; exact x7
  have yh0 : (w.setCell ⟨p, 8, none⟩ (.int .i64 st)).cell? ⟨p, 4, none⟩ = some (.bool s.h0) := by
    rw [World.cell?_setCell_other _ _ _ _ (by simp)]; exact xh0
  have yh1 : (w.setCell ⟨p, 8, none⟩ (.int .i64 st)).cell? ⟨p, 6, none⟩ = some (.bool s.h1) := by
    rw [World.cell?_setCell_other _ _ _ _ (by simp)]; exact xh1
  unfold DS.switchC
  unfold DS.switchS at okS ⊢
  unfold DS.spareH at okS ⊢
  unfold DS.sp at hsp okS ⊢
  by_cases hla : s.last = 0
  · simp only [if_pos hla] at hsp okS ⊢
    have H := Lib.hid (And.intro ok (And.intro hx (And.intro hh (And.intro hst (fun hb : s.h1 = true => show ({ s.bump with last := (1 : Nat) } : DS).Ok from by simpa [hb] using okS)))))
    clear okS
    generalize s.h1 = b at *
    cases b
    · clear ok hx hh hla
      go_enter Try.func22, Try.ntmps22
      go_wp2_with (go_at_call 41; refine ht.mono ?_; clear ht; rintro e w' ⟨rfl, rfl⟩)
      go_quiet ((go_at_call 42; exact quiet_left (hsp _ y7)))
      go_wp2
      go_ret
      obtain ⟨ok, hx, hh, hst, okS⟩ := H.out
      refine ⟨rfl, ?_⟩
      rw [← hst]
      exact hx.bumped ok hh _
    · clear ok hx hh hla
      go_enter Try.func22, Try.ntmps22
      go_wp2_with (go_at_call 41; refine ht.mono ?_; clear ht; rintro e w' ⟨rfl, rfl⟩)
      go_quiet ((go_at_call 42; exact quiet_left (hsp _ y7)))
      have hs7 := hsp ((w.setCell ⟨p, 8, none⟩ (.int .i64 st)).drewN nq) y7
      go_wp2_with (go_at_call 42; refine hs7.mono ?_; clear hs7; rintro e w' ⟨rfl, rfl⟩)
      go_ret
      obtain ⟨ok, hx, hh, hst, okS⟩ := H.out
      have hf := fr_more ((fr_one w p 8 (.int .i64 st)).drewN nq) 7 (.int .i64 1)
      have hb := (hx.blk.set_ 8 (.int .i64 st)).set_ 7 (.int .i64 1)
      refine ⟨rfl, show MovedP w p S { s.bump with last := (1 : Nat) } _ from ⟨S, ⟨okS (by trivial), Al, nl, cl, A0, n0, c0, A1, n1, c1, hx.at_ hf ?_ rfl rfl rfl, hh⟩, fun k hk => .inl hk, hf.mono fun k _ e => e ▸ hh.p⟩⟩
      subst hst
      exact hb
  · simp only [if_neg hla] at hsp okS ⊢
    have H := Lib.hid (And.intro ok (And.intro hx (And.intro hh (And.intro hst (fun hb : s.h0 = true => show ({ s.bump with last := (0 : Nat) } : DS).Ok from by simpa [hb] using okS)))))
    clear okS
    generalize s.h0 = b at *
    cases b
    · clear ok hx hh hla
      go_enter Try.func22, Try.ntmps22
      go_wp2_with (go_at_call 41; refine ht.mono ?_; clear ht; rintro e w' ⟨rfl, rfl⟩)
      go_quiet ((go_at_call 42; exact quiet_left (hsp _ y7)))
      go_wp2
      go_ret
      obtain ⟨ok, hx, hh, hst, okS⟩ := H.out
      refine ⟨rfl, ?_⟩
      rw [← hst]
      exact hx.bumped ok hh _
    · clear ok hx hh hla
      go_enter Try.func22, Try.ntmps22
      go_wp2_with (go_at_call 41; refine ht.mono ?_; clear ht; rintro e w' ⟨rfl, rfl⟩)
      go_quiet ((go_at_call 42; exact quiet_left (hsp _ y7)))
      have hs7 := hsp ((w.setCell ⟨p, 8, none⟩ (.int .i64 st)).drewN nq) y7
      go_wp2_with (go_at_call 42; refine hs7.mono ?_; clear hs7; rintro e w' ⟨rfl, rfl⟩)
      go_ret
      obtain ⟨ok, hx, hh, hst, okS⟩ := H.out
      have hf := fr_more ((fr_one w p 8 (.int .i64 st)).drewN nq) 7 (.int .i64 0)
      have hb := (hx.blk.set_ 8 (.int .i64 st)).set_ 7 (.int .i64 0)
      refine ⟨rfl, show MovedP w p S { s.bump with last := (0 : Nat) } _ from ⟨S, ⟨okS (by trivial), Al, nl, cl, A0, n0, c0, A1, n1, c1, hx.at_ hf ?_ rfl rfl rfl, hh⟩, fun k hk => .inl hk, hf.mono fun k _ e => e ▸ hh.p⟩⟩
      subst hst
      exact hb
end

theorem RDx.put0 {w w1 : World} {p : Nat} {S : Nat → Prop} {Al : Option Addr} {nl cl : Nat} {A0 : Option Addr} {n0 c0 : Nat} {A1 : Option Addr} {n1 c1 : Nat} {s : DS} (hx : RDx w p Al nl cl A0 n0 c0 A1 n1 c1 s) (hh : Has S p Al A0 A1)
    {b : List Nat} {n c2 : Nat} {A2 : Option Addr} {st : Int} (hst : IntKind.i64.wrap (s.steps + 1) = st) (ok : ({ s.bump with d0 := b, h0 := true } : DS).Ok) (o1 : w1.ownsRow w.heap.size 5 1 (.slice A2 n c2) n (byts b)) (m1 : Below w.heap.size (w.setCell ⟨p, 8, none⟩ (.int .i64 st)) w1) :
    Blk w1 p 61 (#[.int .i64 s.cap, .slice Al nl cl, .int .i64 s.sure, .slice A0 n0 c0, .slice A1 n1 c1, .bool s.h0, .bool s.h1, .int .i64 s.last, .int .i64 s.steps].setIfInBounds 8 (.int .i64 st)) ∧ ∀ w2, w2 = (w1.setCell ⟨p, 3, none⟩ (.slice A2 n c2)).setCell ⟨p, 5, none⟩ (.bool true) → MovedR w p S { s.bump with d0 := b, h0 := true } w2 := by
  have hb8 : Blk (w.setCell ⟨p, 8, none⟩ (.int .i64 st)) p 61 _ := hx.blk.set_ 8 (.int .i64 st)
  have hb1 := hb8.below m1 hx.blk.lt
  refine ⟨hb1, ?_⟩
  rintro w2 rfl
  have f1 : Fr (fun k => k = p) w w1 := (fr_one w p 8 (.int .i64 st)).trans (S' := noB) (Fr.of_new (m1.mono (Nat.le_of_eq (by simp)))) (fun _ _ e => e.elim)
  have f2 := fr_more (fr_more f1 3 (.slice A2 n c2)) 5 (.bool true)
  have hb3 := (hb1.set_ 3 (.slice A2 n c2)).set_ 5 (.bool true)
  have hne : ∀ (u : World), u.ownsRow 0 5 1 (.slice A2 n c2) n (byts b) → (Value.slice A2 n c2).ownBlock ≠ some p := fun u _ e => by
    have := (o1.lt p e).1
    have := hx.blk.lt
    omega
  have o0 := own_mono o1 (Nat.zero_le _)
  have o3 := own_setCell (own_setCell o0 (p := ⟨p, 3, none⟩) (hne _ o0) (.slice A2 n c2)) (p := ⟨p, 5, none⟩) (hne _ o0) (.bool true)
  have hnew : ∀ k, blkOf A2 = some k → w.heap.size ≤ k := fun k hk => (o1.lt k (by rw [ownBlock_slice]; exact hk)).1
  refine ⟨fun k => S k ∨ blkOf A2 = some k, ⟨ok, Al, nl, cl, A2, n, c2, A1, n1, c1, ⟨?_, own_fr hx.rl f2 hx.nel, o3, own_fr hx.r1 f2 hx.nep1, ?_, hx.ne1⟩, ⟨.inl hh.p, fun k hk => .inl (hh.l k hk), fun k hk => .inr hk, fun k hk => .inl (hh.d1 k hk)⟩⟩, fun k hk => hk.imp_right (hnew k), f2.mono fun k _ e => e ▸ hh.p⟩
  · rw [← hst] at hb3
    exact hb3
  · intro k hk h2
    have h3 := (hx.rl.lt k (by rw [ownBlock_slice]; exact hk)).2
    have := hnew k h2
    omega

theorem RDx.put1 {w w1 : World} {p : Nat} {S : Nat → Prop} {Al : Option Addr} {nl cl : Nat} {A0 : Option Addr} {n0 c0 : Nat} {A1 : Option Addr} {n1 c1 : Nat} {s : DS} (hx : RDx w p Al nl cl A0 n0 c0 A1 n1 c1 s) (hh : Has S p Al A0 A1)
    {b : List Nat} {n c2 : Nat} {A2 : Option Addr} {st : Int} (hst : IntKind.i64.wrap (s.steps + 1) = st) (ok : ({ s.bump with d1 := b, h1 := true } : DS).Ok) (o1 : w1.ownsRow w.heap.size 5 1 (.slice A2 n c2) n (byts b)) (m1 : Below w.heap.size (w.setCell ⟨p, 8, none⟩ (.int .i64 st)) w1) :
    Blk w1 p 61 (#[.int .i64 s.cap, .slice Al nl cl, .int .i64 s.sure, .slice A0 n0 c0, .slice A1 n1 c1, .bool s.h0, .bool s.h1, .int .i64 s.last, .int .i64 s.steps].setIfInBounds 8 (.int .i64 st)) ∧ ∀ w2, w2 = (w1.setCell ⟨p, 4, none⟩ (.slice A2 n c2)).setCell ⟨p, 6, none⟩ (.bool true) → MovedR w p S { s.bump with d1 := b, h1 := true } w2 := by
  have hb8 : Blk (w.setCell ⟨p, 8, none⟩ (.int .i64 st)) p 61 _ := hx.blk.set_ 8 (.int .i64 st)
  have hb1 := hb8.below m1 hx.blk.lt
  refine ⟨hb1, ?_⟩
  rintro w2 rfl
  have f1 : Fr (fun k => k = p) w w1 := (fr_one w p 8 (.int .i64 st)).trans (S' := noB) (Fr.of_new (m1.mono (Nat.le_of_eq (by simp)))) (fun _ _ e => e.elim)
  have f2 := fr_more (fr_more f1 4 (.slice A2 n c2)) 6 (.bool true)
  have hb3 := (hb1.set_ 4 (.slice A2 n c2)).set_ 6 (.bool true)
  have hne : ∀ (u : World), u.ownsRow 0 5 1 (.slice A2 n c2) n (byts b) → (Value.slice A2 n c2).ownBlock ≠ some p := fun u _ e => by
    have := (o1.lt p e).1
    have := hx.blk.lt
    omega
  have o0 := own_mono o1 (Nat.zero_le _)
  have o3 := own_setCell (own_setCell o0 (p := ⟨p, 4, none⟩) (hne _ o0) (.slice A2 n c2)) (p := ⟨p, 6, none⟩) (hne _ o0) (.bool true)
  have hnew : ∀ k, blkOf A2 = some k → w.heap.size ≤ k := fun k hk => (o1.lt k (by rw [ownBlock_slice]; exact hk)).1
  refine ⟨fun k => S k ∨ blkOf A2 = some k, ⟨ok, Al, nl, cl, A0, n0, c0, A2, n, c2, ⟨?_, own_fr hx.rl f2 hx.nel, own_fr hx.r0 f2 hx.nep0, o3, hx.ne0, ?_⟩, ⟨.inl hh.p, fun k hk => .inl (hh.l k hk), fun k hk => .inl (hh.d0 k hk), fun k hk => .inr hk⟩⟩, fun k hk => hk.imp_right (hnew k), f2.mono fun k _ e => e ▸ hh.p⟩
  · rw [← hst] at hb3
    exact hb3
  · intro k hk h2
    have h3 := (hx.rl.lt k (by rw [ownBlock_slice]; exact hk)).2
    have := hnew k h2
    omega

section
variable (w : World) (p : Nat) (S : Nat → Prop) (s : DS)
set_option maxHeartbeats 4000000 in
set_option maxRecDepth 100000 in
theorem putR (h : RD w p S s) (A : Option Addr) (n c : Nat) (b : List Nat) (hr : Reads w w.heap.size 1 A n (byts b)) (hs : Small b) (hn : n ≤ 140737488351240) (hne : ∀ k, 0 < n → blkOf A = some k → ¬ S k) :
    Calls Try.prog 33 #[.pointer (some ⟨p, 0, none⟩), .slice A n c] w fun e w' => e = .returned (.int .i64 0) ∧ MovedR w p S (s.putS b) w' := by
  obtain ⟨ok, Al, nl, cl, A0, n0, c0, A1, n1, c1, hx, hh⟩ := h
  have x7 := hx.x7
  have x8 := hx.x8
  have fz := hx.blk.frozen
  obtain ⟨st, hst⟩ : ∃ st, IntKind.i64.wrap (s.steps + 1) = st := ⟨_, rfl⟩
  have hbl : b.length = n := by have := hr.1; rw [byts_length] at this; omega
  have okS := ok.putS hs (by rw [hbl]; exact hn)
  have hsp := fun (W : World) (hW : W.cell? ⟨p, 7, none⟩ = some (.int .i64 s.last)) => spareR_any W p s ok hW
  have hc := copyR_any (w.setCell ⟨p, 8, none⟩ (.int .i64 st)).drew w.heap.size A n c b ((hr.fr0 (fr_one w p 8 (.int .i64 st)) (Nat.le_refl _) fun h0 k hk e => hne k h0 hk (e ▸ hh.p)).drew) (by simp) hn
  rw [show (w.setCell ⟨p, 8, none⟩ (.int .i64 st)).drew.heap.size = w.heap.size by simp] at hc
  have y7 : (w.setCell ⟨p, 8, none⟩ (.int .i64 st)).drew.cell? ⟨p, 7, none⟩ = some (.int .i64 s.last) := by
    show (w.setCell ⟨p, 8, none⟩ (.int .i64 st)).cell? ⟨p, 7, none⟩ = _
    rw [World.cell?_setCell_other _ _ _ _ (by simp)]; exact x7
  unfold DS.putS at okS ⊢
  unfold DS.sp at hsp
  have hl := ok.last
  have f0 : ∀ A2 c2 w1, (s.last ≠ 0 → ({ s.bump with d0 := b, h0 := true } : DS).Ok) → s.last ≠ 0 → w1.ownsRow w.heap.size 5 1 (.slice A2 n c2) n (byts b) → Below w.heap.size (w.setCell ⟨p, 8, none⟩ (.int .i64 st)) w1 → _ := fun A2 c2 w1 okk hl0 o1 m1 => hx.put0 hh hst (okk hl0) o1 m1
  have f1 : ∀ A2 c2 w1, (s.last = 0 → ({ s.bump with d1 := b, h1 := true } : DS).Ok) → s.last = 0 → w1.ownsRow w.heap.size 5 1 (.slice A2 n c2) n (byts b) → Below w.heap.size (w.setCell ⟨p, 8, none⟩ (.int .i64 st)) w1 → _ := fun A2 c2 w1 okk hl0 o1 m1 => hx.put1 hh hst (okk hl0) o1 m1
  by_cases hla : s.last = 0
  · rw [if_pos hla] at okS ⊢
    simp only [if_pos hla] at hsp
    have f := fun A2 c2 w1 o1 m1 => f1 A2 c2 w1 (fun _ => okS) hla o1 m1
    have F := Lib.hid f
    clear f f0 f1 hx hh ok okS hbl hr hs hne hl hla
    go_enter Try.func33, Try.ntmps33
    go_wp2
    go_region_law (first | (go_simp; go_at_call 43; refine (hsp _ (by assumption)).mono ?_; rintro e w' ⟨rfl, rfl⟩) | (go_simp; go_at_call 25; refine hc.mono ?_; rintro e w1 ⟨A2, c2, rfl, o1, m1⟩; obtain ⟨hb, hM⟩ := F.out A2 c2 w1 o1 ((Below.refl _ _).drew.trans m1); have z7 : w1.cell? ⟨p, 7, none⟩ = some (.int .i64 s.last) := (hb.cell 7).trans rfl; have z4 := (hb.cell 4).trans rfl; have z6 := (hb.cell 6).trans rfl; have zf := hb.frozen; have HM := Lib.hid hM; clear hM hb))
    all_goals
      go_wp2
      go_region_law (first | (go_simp; go_at_call 43; refine (hsp _ (by show World.cell? (World.setCell w1 _ _) _ = _; rw [World.cell?_setCell_other _ _ _ _ (by simp)]; exact z7)).mono ?_; rintro e w' ⟨rfl, rfl⟩))
      all_goals
        go_wp2
        go_ret
        exact ⟨rfl, (HM.out _ rfl).drew⟩
  · rw [if_neg hla] at okS ⊢
    simp only [if_neg hla] at hsp
    have f := fun A2 c2 w1 o1 m1 => f0 A2 c2 w1 (fun _ => okS) hla o1 m1
    have F := Lib.hid f
    clear f f0 f1 hx hh ok okS hbl hr hs hne hl hla
    go_enter Try.func33, Try.ntmps33
    go_wp2
    go_region_law (first | (go_simp; go_at_call 43; refine (hsp _ (by assumption)).mono ?_; rintro e w' ⟨rfl, rfl⟩) | (go_simp; go_at_call 25; refine hc.mono ?_; rintro e w1 ⟨A2, c2, rfl, o1, m1⟩; obtain ⟨hb, hM⟩ := F.out A2 c2 w1 o1 ((Below.refl _ _).drew.trans m1); have z7 : w1.cell? ⟨p, 7, none⟩ = some (.int .i64 s.last) := (hb.cell 7).trans rfl; have z3 := (hb.cell 3).trans rfl; have z5 := (hb.cell 5).trans rfl; have zf := hb.frozen; have HM := Lib.hid hM; clear hM hb))
    all_goals
      go_wp2
      go_region_law (first | (go_simp; go_at_call 43; refine (hsp _ (by show World.cell? (World.setCell w1 _ _) _ = _; rw [World.cell?_setCell_other _ _ _ _ (by simp)]; exact z7)).mono ?_; rintro e w' ⟨rfl, rfl⟩))
      all_goals
        go_wp2
        go_ret
        exact ⟨rfl, (HM.out _ rfl).drew⟩

set_option maxHeartbeats 4000000 in
set_option maxRecDepth 100000 in
theorem switchR (h : RD w p S s) : Calls Try.prog 37 #[.pointer (some ⟨p, 0, none⟩)] w fun e w' => e = .returned (.int .i64 (s.switchC : Nat)) ∧ MovedR w p S s.switchS w' := by
  obtain ⟨ok, Al, nl, cl, A0, n0, c0, A1, n1, c1, hx, hh⟩ := h
  have x7 := hx.x7
  have x8 := hx.x8
  have xh0 := hx.x5
  have xh1 := hx.x6
  have fz := hx.blk.frozen
  obtain ⟨st, hst⟩ : ∃ st, IntKind.i64.wrap (s.steps + 1) = st := ⟨_, rfl⟩
  have okS := ok.switchS
  have hsp := fun (W : World) (hW : W.cell? ⟨p, 7, none⟩ = some (.int .i64 s.last)) => spareR_any W p s ok hW
  have y7 : (w.setCell ⟨p, 8, none⟩ (.int .i64 st)).cell? ⟨p, 7, none⟩ = some (.int .i64 s.last) := by
    rw [World.cell?_setCell_other _ _ _ _ (by simp)]; exact x7
  have yh0 : (w.setCell ⟨p, 8, none⟩ (.int .i64 st)).cell? ⟨p, 5, none⟩ = some (.bool s.h0) := by
    rw [World.cell?_setCell_other _ _ _ _ (by simp)]; exact xh0
  have yh1 : (w.setCell ⟨p, 8, none⟩ (.int .i64 st)).cell? ⟨p, 6, none⟩ = some (.bool s.h1) := by
    rw [World.cell?_setCell_other _ _ _ _ (by simp)]; exact xh1
  unfold DS.switchC
  unfold DS.switchS at okS ⊢
  unfold DS.spareH at okS ⊢
  unfold DS.sp at hsp okS ⊢
  by_cases hla : s.last = 0
  · simp only [if_pos hla] at hsp okS ⊢
    have H := Lib.hid (And.intro ok (And.intro hx (And.intro hh (And.intro hst (fun hb : s.h1 = true => show ({ s.bump with last := (1 : Nat) } : DS).Ok from by simpa [hb] using okS)))))
    clear okS
    generalize s.h1 = b at *
    cases b
    · clear ok hx hh hla
      go_enter Try.func37, Try.ntmps37
      go_wp2
      go_quiet ((go_at_call 43; exact quiet_left (hsp _ y7)))
      go_wp2
      go_ret
      obtain ⟨ok, hx, hh, hst, okS⟩ := H.out
      refine ⟨rfl, ?_⟩
      rw [← hst]
      exact hx.bumped ok hh _
    · clear ok hx hh hla
      go_enter Try.func37, Try.ntmps37
      go_wp2
      go_quiet ((go_at_call 43; exact quiet_left (hsp _ y7)))
      have hs7 := hsp ((w.setCell ⟨p, 8, none⟩ (.int .i64 st)).drewN nq) y7
      go_wp2_with (go_at_call 43; refine hs7.mono ?_; clear hs7; rintro e w' ⟨rfl, rfl⟩)
      go_ret
      obtain ⟨ok, hx, hh, hst, okS⟩ := H.out
      have hf := fr_more ((fr_one w p 8 (.int .i64 st)).drewN nq) 7 (.int .i64 1)
      have hb := (hx.blk.set_ 8 (.int .i64 st)).set_ 7 (.int .i64 1)
      refine ⟨rfl, show MovedR w p S { s.bump with last := (1 : Nat) } _ from ⟨S, ⟨okS (by trivial), Al, nl, cl, A0, n0, c0, A1, n1, c1, hx.at_ hf ?_ rfl rfl rfl, hh⟩, fun k hk => .inl hk, hf.mono fun k _ e => e ▸ hh.p⟩⟩
      subst hst
      exact hb
  · simp only [if_neg hla] at hsp okS ⊢
    have H := Lib.hid (And.intro ok (And.intro hx (And.intro hh (And.intro hst (fun hb : s.h0 = true => show ({ s.bump with last := (0 : Nat) } : DS).Ok from by simpa [hb] using okS)))))
    clear okS
    generalize s.h0 = b at *
    cases b
    · clear ok hx hh hla
      go_enter Try.func37, Try.ntmps37
      go_wp2
      go_quiet ((go_at_call 43; exact quiet_left (hsp _ y7)))
      go_wp2
      go_ret
      obtain ⟨ok, hx, hh, hst, okS⟩ := H.out
      refine ⟨rfl, ?_⟩
      rw [← hst]
      exact hx.bumped ok hh _
    · clear ok hx hh hla
      go_enter Try.func37, Try.ntmps37
      go_wp2
      go_quiet ((go_at_call 43; exact quiet_left (hsp _ y7)))
      have hs7 := hsp ((w.setCell ⟨p, 8, none⟩ (.int .i64 st)).drewN nq) y7
      go_wp2_with (go_at_call 43; refine hs7.mono ?_; clear hs7; rintro e w' ⟨rfl, rfl⟩)
      go_ret
      obtain ⟨ok, hx, hh, hst, okS⟩ := H.out
      have hf := fr_more ((fr_one w p 8 (.int .i64 st)).drewN nq) 7 (.int .i64 0)
      have hb := (hx.blk.set_ 8 (.int .i64 st)).set_ 7 (.int .i64 0)
      refine ⟨rfl, show MovedR w p S { s.bump with last := (0 : Nat) } _ from ⟨S, ⟨okS (by trivial), Al, nl, cl, A0, n0, c0, A1, n1, c1, hx.at_ hf ?_ rfl rfl rfl, hh⟩, fun k hk => .inl hk, hf.mono fun k _ e => e ▸ hh.p⟩⟩
      subst hst
      exact hb
end
end Go.Proofs.Ytapgcglpkilofaa
