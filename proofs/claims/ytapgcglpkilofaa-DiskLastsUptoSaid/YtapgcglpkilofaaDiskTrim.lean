/- Trim, Drop of a disk, the program's and the document's. Conditions: those that each states. -/
import Derived.Test.YtapgcglpkilofaaDiskMove
import Derived.Deep.CutRange
import Derived.Deep.CutBlock
import Derived.Deep.RegionLaw
namespace Go.Proofs.Ytapgcglpkilofaa
open Go.RowKit

section
variable (w : World) (p : Nat) (S : Nat → Prop) (s : DS)
set_option maxHeartbeats 2000000 in
set_option maxRecDepth 100000 in
theorem trimP (h : PD w p S s) (z : Int) : Calls Try.prog 20 #[.pointer (some ⟨p, 0, none⟩), .int .i64 z] w fun e w' => e = .returned (.int .i64 (s.trimC z : Nat)) ∧ MovedP w p S (s.trimS z) w' := by
  obtain ⟨ok, Al, nl, cl, A0, n0, c0, A1, n1, c1, hx, hh⟩ := h
  have ht := thereYes w p s.cap ok.cap1 hx.x0
  have x1 := hx.x1
  have x2 := hx.x2
  have x8 := hx.x8
  have fz := hx.blk.frozen
  obtain ⟨st, hst⟩ : ∃ st, IntKind.i64.wrap (s.steps + 1) = st := ⟨_, rfl⟩
  have hl := hx.len
  have hcap := own_cap hx.rl
  have b2 := ok.nl
  have b3 := ok.sure
  have okS := ok.trimS z
  unfold DS.trimC
  unfold DS.trimS at okS ⊢
  rw [hl] at *
  by_cases h1 : z < 0
  · have q1 : decide (z < 0) = true := decide_eq_true h1
    rw [if_pos (.inl h1), if_pos (.inl h1)]
    have H := Lib.hid (And.intro ok (And.intro hx (And.intro hh hst)))
    clear hx hh ok okS hl
    go_enter Try.func20, Try.ntmps20
    go_wp2_with (go_at_call 41; refine ht.mono ?_; clear ht; rintro e w' ⟨rfl, rfl⟩)
    go_ret
    obtain ⟨ok, hx, hh, hst⟩ := H.out
    refine ⟨rfl, ?_⟩
    rw [← hst]
    exact hx.bumped ok hh 0
  by_cases h2 : (nl : Int) < z
  · have q1 : decide (z < 0) = false := decide_eq_false h1
    have q2 : decide ((nl : Int) < z) = true := decide_eq_true h2
    rw [if_pos (.inr h2), if_pos (.inr h2)]
    have H := Lib.hid (And.intro ok (And.intro hx (And.intro hh hst)))
    clear hx hh ok okS hl
    go_enter Try.func20, Try.ntmps20
    go_wp2_with (go_at_call 41; refine ht.mono ?_; clear ht; rintro e w' ⟨rfl, rfl⟩)
    go_ret
    obtain ⟨ok, hx, hh, hst⟩ := H.out
    refine ⟨rfl, ?_⟩
    rw [← hst]
    exact hx.bumped ok hh 0
  have hno : ¬ (z < 0 ∨ (nl : Int) < z) := fun e => e.elim h1 h2
  rw [if_neg hno, if_neg hno]
  rw [if_neg hno] at okS
  obtain ⟨k, rfl⟩ : ∃ k : Nat, z = (k : Int) := ⟨z.toNat, by omega⟩
  rw [Int.toNat_natCast] at *
  have hkl : k ≤ nl := by omega
  have q1 : decide ((k : Int) < 0) = false := decide_eq_false (by omega)
  have q2 : decide ((nl : Int) < (k : Int)) = false := decide_eq_false h2
  have q3 : ¬ (nl : Int) < (k : Int) := h2
  have q4 : ¬ nl < k := by omega
  have hf8 := fr_one w p 8 (.int .i64 st)
  have ho8 := own_fr hx.rl hf8 hx.nel
  have q5 : (k : Int) ≤ (cl : Int) := by omega
  have q6 : (0 : Int) ≤ (k : Int) := by omega
  have hc := clone_any (w.setCell ⟨p, 8, none⟩ (.int .i64 st)) (w.setCell ⟨p, 8, none⟩ (.int .i64 st)).heap.size Al k cl (s.log.take k) (by have := Reads.of_own (own_take ho8 hkl); rwa [← byts_take] at this) (Nat.le_refl _) (by omega)
  have m := k
  have fin : ∀ (A2 : Option Addr) (c2 : Nat) (w1 : World), w1.ownsRow w.heap.size 5 1 (.slice A2 k c2) k (byts (s.log.take k)) → Below w.heap.size (w.setCell ⟨p, 8, none⟩ (.int .i64 st)) w1 →
      w1.cell? ⟨p, 1, none⟩ = some (.slice Al nl cl) ∧ w1.cell? ⟨p, 2, none⟩ = some (.int .i64 s.sure) ∧ w1.frozen? ⟨p, 1, none⟩ = false ∧ w1.frozen? ⟨p, 2, none⟩ = false ∧
        MovedP w p S { s.bump with log := s.log.take k, sure := k } ((w1.setCell ⟨p, 1, none⟩ (.slice A2 k c2)).setCell ⟨p, 2, none⟩ (.int .i64 (k : Nat))) := by
    intro A2 c2 w1 o1 m1
    have hb8 : Blk (w.setCell ⟨p, 8, none⟩ (.int .i64 st)) p 54 _ := hx.blk.set_ 8 (.int .i64 st)
    have hb1 := hb8.below m1 hx.blk.lt
    have f1 : Fr (fun k => k = p) w w1 := hf8.trans (S' := noB) (Fr.of_new (m1.mono (Nat.le_of_eq (by simp)))) (fun _ _ e => e.elim)
    have f2 := fr_more (fr_more f1 1 (.slice A2 k c2)) 2 (.int .i64 (k : Nat))
    have hat : ∀ k, blkOf A2 = some k → blkOf Al = some k ∨ w.heap.size ≤ k := fun k hk => .inr (o1.lt k (by rw [ownBlock_slice]; exact hk)).1
    have hb3 := (hb1.set_ 1 (.slice A2 k c2)).set_ 2 (.int .i64 (k : Nat))
    refine ⟨(hb1.cell 1).trans rfl, (hb1.cell 2).trans rfl, hb1.frozen _, hb1.frozen _, fun k => S k ∨ blkOf A2 = some k, ⟨by simpa [hst] using okS, A2, k, c2, A0, n0, c0, A1, n1, c1, hx.log_ f2 ?_ ?_ (fun k e => .inl e) hat rfl rfl, hh.more w.heap.size hat⟩, fun k hk => hh.sub hat k hk, f2.mono fun k _ e => e ▸ hh.p⟩
    · rw [← hst] at hb3
      exact hb3
    · have hne : ∀ (u : World), u.ownsRow 0 5 1 (.slice A2 k c2) k (byts (s.log.take k)) → (Value.slice A2 k c2).ownBlock ≠ some p := fun u _ e => by
        have := (o1.lt p e).1
        have := hx.blk.lt
        omega
      have o0 := own_mono o1 (Nat.zero_le _)
      exact own_setCell (own_setCell o0 (p := ⟨p, 1, none⟩) (hne _ o0) _) (p := ⟨p, 2, none⟩) (hne _ o0) _
  have FIN := Lib.hid fin
  have hsz8 : (w.setCell ⟨p, 8, none⟩ (.int .i64 st)).heap.size = w.heap.size := by simp
  rw [hsz8] at hc
  clear hx hh ok okS hl hno h1 h2 ho8 hf8 fin hsz8
  go_enter Try.func20, Try.ntmps20
  go_wp2_with (first
    | (go_at_call 41; refine ht.mono ?_; clear ht; rintro e w' ⟨rfl, rfl⟩)
    | (go_at_call 24; refine hc.mono ?_; clear hc; rintro e w1 ⟨A2, c2, rfl, o1, m1⟩; obtain ⟨z1, z2, z3, z4, hM⟩ := FIN.out A2 c2 w1 o1 m1; have HM := Lib.hid hM; clear hM FIN))
  go_ret
  exact ⟨rfl, HM.out⟩
end

section
variable (w : World) (p : Nat) (S : Nat → Prop) (s : DS)
set_option maxHeartbeats 2000000 in
set_option maxRecDepth 100000 in
theorem dropP (h : PD w p S s) (z : Int) : Calls Try.prog 21 #[.pointer (some ⟨p, 0, none⟩), .int .i64 z] w fun e w' => e = .returned (.int .i64 (s.dropC z : Nat)) ∧ MovedP w p S (s.dropS z) w' := by
  obtain ⟨ok, Al, nl, cl, A0, n0, c0, A1, n1, c1, hx, hh⟩ := h
  have ht := thereYes w p s.cap ok.cap1 hx.x0
  have x1 := hx.x1
  have x2 := hx.x2
  have x8 := hx.x8
  have fz := hx.blk.frozen
  obtain ⟨st, hst⟩ : ∃ st, IntKind.i64.wrap (s.steps + 1) = st := ⟨_, rfl⟩
  have hl := hx.len
  have hcap := own_cap hx.rl
  have b2 := ok.nl
  have b3 := ok.sure
  have okS := ok.dropS z
  unfold DS.dropC
  unfold DS.dropS at okS ⊢
  rw [hl] at *
  by_cases h1 : z < 0
  · have q1 : decide (z < 0) = true := decide_eq_true h1
    rw [if_pos (.inl h1), if_pos (.inl h1)]
    have H := Lib.hid (And.intro ok (And.intro hx (And.intro hh hst)))
    clear hx hh ok okS hl
    go_enter Try.func21, Try.ntmps21
    go_wp2_with (go_at_call 41; refine ht.mono ?_; clear ht; rintro e w' ⟨rfl, rfl⟩)
    go_ret
    obtain ⟨ok, hx, hh, hst⟩ := H.out
    refine ⟨rfl, ?_⟩
    rw [← hst]
    exact hx.bumped ok hh 0
  by_cases h2 : (s.sure : Int) < z
  · have q1 : decide (z < 0) = false := decide_eq_false h1
    have q2 : decide ((s.sure : Int) < z) = true := decide_eq_true h2
    rw [if_pos (.inr h2), if_pos (.inr h2)]
    have H := Lib.hid (And.intro ok (And.intro hx (And.intro hh hst)))
    clear hx hh ok okS hl
    go_enter Try.func21, Try.ntmps21
    go_wp2_with (go_at_call 41; refine ht.mono ?_; clear ht; rintro e w' ⟨rfl, rfl⟩)
    go_ret
    obtain ⟨ok, hx, hh, hst⟩ := H.out
    refine ⟨rfl, ?_⟩
    rw [← hst]
    exact hx.bumped ok hh 0
  have hno : ¬ (z < 0 ∨ (s.sure : Int) < z) := fun e => e.elim h1 h2
  rw [if_neg hno, if_neg hno]
  rw [if_neg hno] at okS
  obtain ⟨k, rfl⟩ : ∃ k : Nat, z = (k : Int) := ⟨z.toNat, by omega⟩
  rw [Int.toNat_natCast] at *
  have hkl : k ≤ nl := by omega
  have q1 : decide ((k : Int) < 0) = false := decide_eq_false (by omega)
  have q2 : decide ((s.sure : Int) < (k : Int)) = false := decide_eq_false h2
  have q3 : ¬ (s.sure : Int) < (k : Int) := h2
  have q4 : ¬ s.sure < k := by omega
  have hf8 := fr_one w p 8 (.int .i64 st)
  have ho8 := own_fr hx.rl hf8 hx.nel
  obtain ⟨sk, hsk⟩ : ∃ sk, s.sure - k = sk := ⟨_, rfl⟩
  obtain ⟨m, hm⟩ : ∃ m, nl - k = m := ⟨_, rfl⟩
  rw [hsk] at okS ⊢
  have fin : ∀ (A2 : Option Addr) (c2 : Nat) (w1 : World), w1.ownsRow w.heap.size 5 1 (.slice A2 m c2) m (byts (s.log.drop k)) → Below w.heap.size (w.setCell ⟨p, 8, none⟩ (.int .i64 st)) w1 →
      w1.cell? ⟨p, 1, none⟩ = some (.slice Al nl cl) ∧ w1.cell? ⟨p, 2, none⟩ = some (.int .i64 s.sure) ∧ w1.frozen? ⟨p, 1, none⟩ = false ∧ w1.frozen? ⟨p, 2, none⟩ = false ∧
        MovedP w p S { s.bump with log := s.log.drop k, sure := sk } ((w1.setCell ⟨p, 1, none⟩ (.slice A2 m c2)).setCell ⟨p, 2, none⟩ (.int .i64 (sk : Nat))) := by
    intro A2 c2 w1 o1 m1
    have hb8 : Blk (w.setCell ⟨p, 8, none⟩ (.int .i64 st)) p 54 _ := hx.blk.set_ 8 (.int .i64 st)
    have hb1 := hb8.below m1 hx.blk.lt
    have f1 : Fr (fun k => k = p) w w1 := hf8.trans (S' := noB) (Fr.of_new (m1.mono (Nat.le_of_eq (by simp)))) (fun _ _ e => e.elim)
    have f2 := fr_more (fr_more f1 1 (.slice A2 m c2)) 2 (.int .i64 (sk : Nat))
    have hat : ∀ k, blkOf A2 = some k → blkOf Al = some k ∨ w.heap.size ≤ k := fun k hk => .inr (o1.lt k (by rw [ownBlock_slice]; exact hk)).1
    have hb3 := (hb1.set_ 1 (.slice A2 m c2)).set_ 2 (.int .i64 (sk : Nat))
    refine ⟨(hb1.cell 1).trans rfl, (hb1.cell 2).trans rfl, hb1.frozen _, hb1.frozen _, fun k => S k ∨ blkOf A2 = some k, ⟨by simpa [hst, hsk] using okS, A2, m, c2, A0, n0, c0, A1, n1, c1, hx.log_ f2 ?_ ?_ (fun k e => .inl e) hat rfl rfl, hh.more w.heap.size hat⟩, fun k hk => hh.sub hat k hk, f2.mono fun k _ e => e ▸ hh.p⟩
    · rw [← hst] at hb3
      exact hb3
    · have hne : ∀ (u : World), u.ownsRow 0 5 1 (.slice A2 m c2) m (byts (s.log.drop k)) → (Value.slice A2 m c2).ownBlock ≠ some p := fun u _ e => by
        have := (o1.lt p e).1
        have := hx.blk.lt
        omega
      have o0 := own_mono o1 (Nat.zero_le _)
      exact own_setCell (own_setCell o0 (p := ⟨p, 1, none⟩) (hne _ o0) _) (p := ⟨p, 2, none⟩) (hne _ o0) _
  have FIN := Lib.hid fin
  have hsz8 : (w.setCell ⟨p, 8, none⟩ (.int .i64 st)).heap.size = w.heap.size := by simp
  have u1 : IntKind.i64.wrap ((s.sure : Int) - (k : Int)) = (sk : Int) := by rw [IntWalk.i64_in _ (by omega)]; omega
  have u2 : (nl : Int) - (k : Int) = (m : Int) := by omega
  have q5 : (k : Int) ≤ (nl : Int) := by omega
  have q6 : (0 : Int) ≤ (k : Int) := by omega
  have q7 : (nl : Int) ≤ (cl : Int) := by omega
  have hred := Reads.of_own ho8
  have hcut := hred.cut hkl hcap.1
  rw [Nat.mul_one, ← byts_drop, hm] at hcut
  rw [hsz8] at hcut
  have hc := fun c => clone_any (w.setCell ⟨p, 8, none⟩ (.int .i64 st)).drew w.heap.size _ m c (s.log.drop k) hcut (Nat.le_of_eq hsz8.symm) (by omega)
  rw [show (w.setCell ⟨p, 8, none⟩ (.int .i64 st)).drew.heap.size = w.heap.size from hsz8] at hc
  by_cases hck : cl = k
  · obtain rfl : m = 0 := by omega
    rw [if_pos hck] at hc
    clear hx hh ok okS hl hno h1 h2 ho8 hf8 fin hred hcut
    go_enter Try.func21, Try.ntmps21
    go_wp2_with (go_at_call 41; refine ht.mono ?_; clear ht; rintro e w' ⟨rfl, rfl⟩)
    go_region_law (first | (go_simp; go_at_call 24; refine (hc _).mono ?_; rintro e w1 ⟨A2, c2, rfl, o1, m1⟩; obtain ⟨z1, z2, z3, z4, hM⟩ := FIN.out A2 c2 w1 o1 ((Below.refl _ _).drew.trans m1); have HM := Lib.hid hM; clear hM))
    all_goals
      go_wp2
      go_ret
      exact ⟨rfl, HM.out⟩
  · rw [if_neg hck] at hc
    clear hx hh ok okS hl hno h1 h2 ho8 hf8 fin hred hcut
    go_enter Try.func21, Try.ntmps21
    go_wp2_with (go_at_call 41; refine ht.mono ?_; clear ht; rintro e w' ⟨rfl, rfl⟩)
    go_region_law (first | (go_simp; go_at_call 24; refine (hc _).mono ?_; rintro e w1 ⟨A2, c2, rfl, o1, m1⟩; obtain ⟨z1, z2, z3, z4, hM⟩ := FIN.out A2 c2 w1 o1 ((Below.refl _ _).drew.trans m1); have HM := Lib.hid hM; clear hM))
    all_goals
      go_wp2
      go_ret
      exact ⟨rfl, HM.out⟩
end

section
variable (w : World) (p : Nat) (S : Nat → Prop) (s : DS)
set_option maxHeartbeats 2000000 in
set_option maxRecDepth 100000 in
theorem trimR (h : RD w p S s) (z : Int) : Calls Try.prog 35 #[.pointer (some ⟨p, 0, none⟩), .int .i64 z] w fun e w' => e = .returned (.int .i64 (s.trimC z : Nat)) ∧ MovedR w p S (s.trimS z) w' := by
  obtain ⟨ok, Al, nl, cl, A0, n0, c0, A1, n1, c1, hx, hh⟩ := h
  have x1 := hx.x1
  have x2 := hx.x2
  have x8 := hx.x8
  have fz := hx.blk.frozen
  obtain ⟨st, hst⟩ : ∃ st, IntKind.i64.wrap (s.steps + 1) = st := ⟨_, rfl⟩
  have hl := hx.len
  have hcap := own_cap hx.rl
  have b2 := ok.nl
  have b3 := ok.sure
  have okS := ok.trimS z
  unfold DS.trimC
  unfold DS.trimS at okS ⊢
  rw [hl] at *
  by_cases h1 : z < 0
  · have q1 : decide (z < 0) = true := decide_eq_true h1
    rw [if_pos (.inl h1), if_pos (.inl h1)]
    have H := Lib.hid (And.intro ok (And.intro hx (And.intro hh hst)))
    clear hx hh ok okS hl
    go_enter Try.func35, Try.ntmps35
    go_wp2
    go_ret
    obtain ⟨ok, hx, hh, hst⟩ := H.out
    refine ⟨rfl, ?_⟩
    rw [← hst]
    exact hx.bumped ok hh 0
  by_cases h2 : (nl : Int) < z
  · have q1 : decide (z < 0) = false := decide_eq_false h1
    have q2 : decide ((nl : Int) < z) = true := decide_eq_true h2
    rw [if_pos (.inr h2), if_pos (.inr h2)]
    have H := Lib.hid (And.intro ok (And.intro hx (And.intro hh hst)))
    clear hx hh ok okS hl
    go_enter Try.func35, Try.ntmps35
    go_wp2
    go_ret
    obtain ⟨ok, hx, hh, hst⟩ := H.out
    refine ⟨rfl, ?_⟩
    rw [← hst]
    exact hx.bumped ok hh 0
  have hno : ¬ (z < 0 ∨ (nl : Int) < z) := fun e => e.elim h1 h2
  rw [if_neg hno, if_neg hno]
  rw [if_neg hno] at okS
  obtain ⟨k, rfl⟩ : ∃ k : Nat, z = (k : Int) := ⟨z.toNat, by omega⟩
  rw [Int.toNat_natCast] at *
  have hkl : k ≤ nl := by omega
  have q1 : decide ((k : Int) < 0) = false := decide_eq_false (by omega)
  have q2 : decide ((nl : Int) < (k : Int)) = false := decide_eq_false h2
  have q3 : ¬ (nl : Int) < (k : Int) := h2
  have q4 : ¬ nl < k := by omega
  have hf8 := fr_one w p 8 (.int .i64 st)
  have ho8 := own_fr hx.rl hf8 hx.nel
  have q5 : (k : Int) ≤ (cl : Int) := by omega
  have q6 : (0 : Int) ≤ (k : Int) := by omega
  have hc := copyR_any (w.setCell ⟨p, 8, none⟩ (.int .i64 st)) (w.setCell ⟨p, 8, none⟩ (.int .i64 st)).heap.size Al k cl (s.log.take k) (by have := Reads.of_own (own_take ho8 hkl); rwa [← byts_take] at this) (Nat.le_refl _) (by omega)
  have m := k
  have fin : ∀ (A2 : Option Addr) (c2 : Nat) (w1 : World), w1.ownsRow w.heap.size 5 1 (.slice A2 k c2) k (byts (s.log.take k)) → Below w.heap.size (w.setCell ⟨p, 8, none⟩ (.int .i64 st)) w1 →
      w1.cell? ⟨p, 1, none⟩ = some (.slice Al nl cl) ∧ w1.cell? ⟨p, 2, none⟩ = some (.int .i64 s.sure) ∧ w1.frozen? ⟨p, 1, none⟩ = false ∧ w1.frozen? ⟨p, 2, none⟩ = false ∧
        MovedR w p S { s.bump with log := s.log.take k, sure := k } ((w1.setCell ⟨p, 1, none⟩ (.slice A2 k c2)).setCell ⟨p, 2, none⟩ (.int .i64 (k : Nat))) := by
    intro A2 c2 w1 o1 m1
    have hb8 : Blk (w.setCell ⟨p, 8, none⟩ (.int .i64 st)) p 61 _ := hx.blk.set_ 8 (.int .i64 st)
    have hb1 := hb8.below m1 hx.blk.lt
    have f1 : Fr (fun k => k = p) w w1 := hf8.trans (S' := noB) (Fr.of_new (m1.mono (Nat.le_of_eq (by simp)))) (fun _ _ e => e.elim)
    have f2 := fr_more (fr_more f1 1 (.slice A2 k c2)) 2 (.int .i64 (k : Nat))
    have hat : ∀ k, blkOf A2 = some k → blkOf Al = some k ∨ w.heap.size ≤ k := fun k hk => .inr (o1.lt k (by rw [ownBlock_slice]; exact hk)).1
    have hb3 := (hb1.set_ 1 (.slice A2 k c2)).set_ 2 (.int .i64 (k : Nat))
    refine ⟨(hb1.cell 1).trans rfl, (hb1.cell 2).trans rfl, hb1.frozen _, hb1.frozen _, fun k => S k ∨ blkOf A2 = some k, ⟨by simpa [hst] using okS, A2, k, c2, A0, n0, c0, A1, n1, c1, hx.log_ f2 ?_ ?_ (fun k e => .inl e) hat rfl rfl, hh.more w.heap.size hat⟩, fun k hk => hh.sub hat k hk, f2.mono fun k _ e => e ▸ hh.p⟩
    · rw [← hst] at hb3
      exact hb3
    · have hne : ∀ (u : World), u.ownsRow 0 5 1 (.slice A2 k c2) k (byts (s.log.take k)) → (Value.slice A2 k c2).ownBlock ≠ some p := fun u _ e => by
        have := (o1.lt p e).1
        have := hx.blk.lt
        omega
      have o0 := own_mono o1 (Nat.zero_le _)
      exact own_setCell (own_setCell o0 (p := ⟨p, 1, none⟩) (hne _ o0) _) (p := ⟨p, 2, none⟩) (hne _ o0) _
  have FIN := Lib.hid fin
  have hsz8 : (w.setCell ⟨p, 8, none⟩ (.int .i64 st)).heap.size = w.heap.size := by simp
  rw [hsz8] at hc
  clear hx hh ok okS hl hno h1 h2 ho8 hf8 fin hsz8
  go_enter Try.func35, Try.ntmps35
  go_wp2_with (first
    | (fail)
    | (go_at_call 25; refine hc.mono ?_; clear hc; rintro e w1 ⟨A2, c2, rfl, o1, m1⟩; obtain ⟨z1, z2, z3, z4, hM⟩ := FIN.out A2 c2 w1 o1 m1; have HM := Lib.hid hM; clear hM FIN))
  go_ret
  exact ⟨rfl, HM.out⟩
end

section
variable (w : World) (p : Nat) (S : Nat → Prop) (s : DS)
set_option maxHeartbeats 2000000 in
set_option maxRecDepth 100000 in
theorem dropR (h : RD w p S s) (z : Int) : Calls Try.prog 36 #[.pointer (some ⟨p, 0, none⟩), .int .i64 z] w fun e w' => e = .returned (.int .i64 (s.dropC z : Nat)) ∧ MovedR w p S (s.dropS z) w' := by
  obtain ⟨ok, Al, nl, cl, A0, n0, c0, A1, n1, c1, hx, hh⟩ := h
  have x1 := hx.x1
  have x2 := hx.x2
  have x8 := hx.x8
  have fz := hx.blk.frozen
  obtain ⟨st, hst⟩ : ∃ st, IntKind.i64.wrap (s.steps + 1) = st := ⟨_, rfl⟩
  have hl := hx.len
  have hcap := own_cap hx.rl
  have b2 := ok.nl
  have b3 := ok.sure
  have okS := ok.dropS z
  unfold DS.dropC
  unfold DS.dropS at okS ⊢
  rw [hl] at *
  by_cases h1 : z < 0
  · have q1 : decide (z < 0) = true := decide_eq_true h1
    rw [if_pos (.inl h1), if_pos (.inl h1)]
    have H := Lib.hid (And.intro ok (And.intro hx (And.intro hh hst)))
    clear hx hh ok okS hl
    go_enter Try.func36, Try.ntmps36
    go_wp2
    go_ret
    obtain ⟨ok, hx, hh, hst⟩ := H.out
    refine ⟨rfl, ?_⟩
    rw [← hst]
    exact hx.bumped ok hh 0
  by_cases h2 : (s.sure : Int) < z
  · have q1 : decide (z < 0) = false := decide_eq_false h1
    have q2 : decide ((s.sure : Int) < z) = true := decide_eq_true h2
    rw [if_pos (.inr h2), if_pos (.inr h2)]
    have H := Lib.hid (And.intro ok (And.intro hx (And.intro hh hst)))
    clear hx hh ok okS hl
    go_enter Try.func36, Try.ntmps36
    go_wp2
    go_ret
    obtain ⟨ok, hx, hh, hst⟩ := H.out
    refine ⟨rfl, ?_⟩
    rw [← hst]
    exact hx.bumped ok hh 0
  have hno : ¬ (z < 0 ∨ (s.sure : Int) < z) := fun e => e.elim h1 h2
  rw [if_neg hno, if_neg hno]
  rw [if_neg hno] at okS
  obtain ⟨k, rfl⟩ : ∃ k : Nat, z = (k : Int) := ⟨z.toNat, by omega⟩
  rw [Int.toNat_natCast] at *
  have hkl : k ≤ nl := by omega
  have q1 : decide ((k : Int) < 0) = false := decide_eq_false (by omega)
  have q2 : decide ((s.sure : Int) < (k : Int)) = false := decide_eq_false h2
  have q3 : ¬ (s.sure : Int) < (k : Int) := h2
  have q4 : ¬ s.sure < k := by omega
  have hf8 := fr_one w p 8 (.int .i64 st)
  have ho8 := own_fr hx.rl hf8 hx.nel
  obtain ⟨sk, hsk⟩ : ∃ sk, s.sure - k = sk := ⟨_, rfl⟩
  obtain ⟨m, hm⟩ : ∃ m, nl - k = m := ⟨_, rfl⟩
  rw [hsk] at okS ⊢
  have fin : ∀ (A2 : Option Addr) (c2 : Nat) (w1 : World), w1.ownsRow w.heap.size 5 1 (.slice A2 m c2) m (byts (s.log.drop k)) → Below w.heap.size (w.setCell ⟨p, 8, none⟩ (.int .i64 st)) w1 →
      w1.cell? ⟨p, 1, none⟩ = some (.slice Al nl cl) ∧ w1.cell? ⟨p, 2, none⟩ = some (.int .i64 s.sure) ∧ w1.frozen? ⟨p, 1, none⟩ = false ∧ w1.frozen? ⟨p, 2, none⟩ = false ∧
        MovedR w p S { s.bump with log := s.log.drop k, sure := sk } ((w1.setCell ⟨p, 1, none⟩ (.slice A2 m c2)).setCell ⟨p, 2, none⟩ (.int .i64 (sk : Nat))) := by
    intro A2 c2 w1 o1 m1
    have hb8 : Blk (w.setCell ⟨p, 8, none⟩ (.int .i64 st)) p 61 _ := hx.blk.set_ 8 (.int .i64 st)
    have hb1 := hb8.below m1 hx.blk.lt
    have f1 : Fr (fun k => k = p) w w1 := hf8.trans (S' := noB) (Fr.of_new (m1.mono (Nat.le_of_eq (by simp)))) (fun _ _ e => e.elim)
    have f2 := fr_more (fr_more f1 1 (.slice A2 m c2)) 2 (.int .i64 (sk : Nat))
    have hat : ∀ k, blkOf A2 = some k → blkOf Al = some k ∨ w.heap.size ≤ k := fun k hk => .inr (o1.lt k (by rw [ownBlock_slice]; exact hk)).1
    have hb3 := (hb1.set_ 1 (.slice A2 m c2)).set_ 2 (.int .i64 (sk : Nat))
    refine ⟨(hb1.cell 1).trans rfl, (hb1.cell 2).trans rfl, hb1.frozen _, hb1.frozen _, fun k => S k ∨ blkOf A2 = some k, ⟨by simpa [hst, hsk] using okS, A2, m, c2, A0, n0, c0, A1, n1, c1, hx.log_ f2 ?_ ?_ (fun k e => .inl e) hat rfl rfl, hh.more w.heap.size hat⟩, fun k hk => hh.sub hat k hk, f2.mono fun k _ e => e ▸ hh.p⟩
    · rw [← hst] at hb3
      exact hb3
    · have hne : ∀ (u : World), u.ownsRow 0 5 1 (.slice A2 m c2) m (byts (s.log.drop k)) → (Value.slice A2 m c2).ownBlock ≠ some p := fun u _ e => by
        have := (o1.lt p e).1
        have := hx.blk.lt
        omega
      have o0 := own_mono o1 (Nat.zero_le _)
      exact own_setCell (own_setCell o0 (p := ⟨p, 1, none⟩) (hne _ o0) _) (p := ⟨p, 2, none⟩) (hne _ o0) _
  have FIN := Lib.hid fin
  have hsz8 : (w.setCell ⟨p, 8, none⟩ (.int .i64 st)).heap.size = w.heap.size := by simp
  have u1 : IntKind.i64.wrap ((s.sure : Int) - (k : Int)) = (sk : Int) := by rw [IntWalk.i64_in _ (by omega)]; omega
  have u2 : (nl : Int) - (k : Int) = (m : Int) := by omega
  have q5 : (k : Int) ≤ (nl : Int) := by omega
  have q6 : (0 : Int) ≤ (k : Int) := by omega
  have q7 : (nl : Int) ≤ (cl : Int) := by omega
  have hred := Reads.of_own ho8
  have hcut := hred.cut hkl hcap.1
  rw [Nat.mul_one, ← byts_drop, hm] at hcut
  rw [hsz8] at hcut
  have hc := fun c => copyR_any (w.setCell ⟨p, 8, none⟩ (.int .i64 st)) w.heap.size _ m c (s.log.drop k) hcut (Nat.le_of_eq hsz8.symm) (by omega)
  rw [hsz8] at hc
  by_cases hck : cl = k
  · obtain rfl : m = 0 := by omega
    rw [if_pos hck] at hc
    clear hx hh ok okS hl hno h1 h2 ho8 hf8 fin hred hcut
    go_enter Try.func36, Try.ntmps36
    go_wp2_with (go_at_call 25; refine (hc _).mono ?_; rintro e w1 ⟨A2, c2, rfl, o1, m1⟩; obtain ⟨z1, z2, z3, z4, hM⟩ := FIN.out A2 c2 w1 o1 m1; have HM := Lib.hid hM; clear hM)
    go_ret
    exact ⟨rfl, HM.out⟩
  · rw [if_neg hck] at hc
    clear hx hh ok okS hl hno h1 h2 ho8 hf8 fin hred hcut
    go_enter Try.func36, Try.ntmps36
    go_wp2_with (go_at_call 25; refine (hc _).mono ?_; rintro e w1 ⟨A2, c2, rfl, o1, m1⟩; obtain ⟨z1, z2, z3, z4, hM⟩ := FIN.out A2 c2 w1 o1 m1; have HM := Lib.hid hM; clear hM)
    go_ret
    exact ⟨rfl, HM.out⟩
end
end Go.Proofs.Ytapgcglpkilofaa
