/- Snapshot, Spare, the document's too, and its Room. Conditions: those that each states. -/
import Derived.Test.YtapgcglpkilofaaDiskSee
namespace Go.Proofs.Ytapgcglpkilofaa
open Go.RowKit

def DS.snapV (s : DS) : List Nat × Bool := if s.last < 0 then ([], false) else (s.lastD, true)
def DS.spareV (s : DS) : List Nat × Bool := if s.spareH = true then (s.spareD, true) else ([], false)
/-- A function tells these bytes, in new memory, and this flag. -/
def TellsB (w : World) (f : FuncId) (A : Option Addr) (v : List Nat × Bool) : Prop := Calls Try.prog f #[.pointer A] w fun e w' =>
  ∃ A2 c2, e = .returned (.tuple #[.slice A2 v.1.length c2, .bool v.2]) ∧ w'.ownsRow w.heap.size 5 1 (.slice A2 v.1.length c2) v.1.length (byts v.1) ∧ Below w.heap.size w w'

section
variable (w : World) (p : Nat) (S : Nat → Prop) (s : DS)

set_option maxHeartbeats 1000000 in
set_option maxRecDepth 100000 in
theorem snap_any (h : PD w p S s) : TellsB w 16 (some ⟨p, 0, none⟩) s.snapV := by
  obtain ⟨ok, Al, nl, cl, A0, n0, c0, A1, n1, c1, hx, hh⟩ := h
  have hp : p < w.heap.size := hx.blk.lt
  have ht := thereYes w p s.cap ok.cap1 hx.x0
  have x3 := hx.x3
  have x5 := hx.x5
  have x7 := hx.x7
  have hl := ok.last
  unfold TellsB DS.snapV DS.lastD
  obtain ⟨la, hla⟩ : ∃ la, s.last = la := ⟨_, rfl⟩
  rw [hla] at hl x7 ⊢
  clear hla
  have hc0 := fun k : Nat => clone_any (w.drewN k) w.heap.size A0 n0 c0 s.d0 (Reads.of_own hx.r0) (Nat.le_refl _) (by rw [← hx.len0]; exact ok.n0)
  have hc1 := fun k : Nat => clone_any (w.drewN k) w.heap.size A1 n1 c1 s.d1 (Reads.of_own hx.r1) (Nat.le_refl _) (by rw [← hx.len1]; exact ok.n1)
  have l0 := hx.len0
  have l1 := hx.len1
  generalize s.d0 = d0 at *
  generalize s.d1 = d1 at *
  have hbd : Below w.heap.size w w.drew := (Below.refl _ w).drew
  have y3 : w.drew.cell? ⟨p, 3, none⟩ = some (.slice A0 n0 c0) := x3
  have y5 : w.drew.cell? ⟨p, 5, none⟩ = some (.slice A1 n1 c1) := x5
  have y7 : w.drew.cell? ⟨p, 7, none⟩ = some (.int .i64 la) := x7
  clear hx hh ok
  rcases hl with rfl | rfl | rfl
  · go_enter Try.func16, Try.ntmps16
    go_wp2_with (go_at_call 41; refine ht.mono ?_; clear ht; rintro e w' ⟨rfl, rfl⟩)
    go_ret2
    exact ⟨none, 0, rfl, World.ownsRow_nil _ _ _ _, by first | exact Below.refl _ _ | exact below_drewN (Below.refl _ w) _⟩
  · subst l0
    go_enter Try.func16, Try.ntmps16
    go_wp2_with (go_at_call 41; refine ht.mono ?_; clear ht; rintro e w' ⟨rfl, rfl⟩)
    go_region_held3 (fun w' => w'.cell? ⟨p, 3, none⟩ = some (.slice A0 d0.length c0) ∧ w'.cell? ⟨p, 7, none⟩ = some (.int .i64 0)) (first | (refine ⟨?_, ?_⟩ <;> assumption) | go_keep)
      ((go_at_call 24; refine (hc0 1).mono ?_; rintro e w1 ⟨g2, c2, rfl, o1, m1⟩; have n1 := hbd.trans m1; have d3 := (n1.cell (p := ⟨p, 3, none⟩) hp).trans y3; have d7 := (n1.cell (p := ⟨p, 7, none⟩) hp).trans y7))
    go_wp2
    go_ret2
    exact ⟨_, _, rfl, o1, n1⟩
  · subst l1
    go_enter Try.func16, Try.ntmps16
    go_wp2_with (go_at_call 41; refine ht.mono ?_; clear ht; rintro e w' ⟨rfl, rfl⟩)
    go_region_held3 (fun w' => w'.cell? ⟨p, 5, none⟩ = some (.slice A1 d1.length c1) ∧ w'.cell? ⟨p, 7, none⟩ = some (.int .i64 1)) (first | (refine ⟨?_, ?_⟩ <;> assumption) | go_keep)
      ((go_at_call 24; refine (hc1 1).mono ?_; rintro e w1 ⟨g2, c2, rfl, o1, m1⟩; have n1 := hbd.trans m1; have d3 := (n1.cell (p := ⟨p, 5, none⟩) hp).trans y5; have d7 := (n1.cell (p := ⟨p, 7, none⟩) hp).trans y7))
    go_wp2
    go_ret2
    exact ⟨_, _, rfl, o1, n1⟩

set_option maxHeartbeats 1000000 in
set_option maxRecDepth 100000 in
theorem snapR_any (h : RD w p S s) : TellsB w 26 (some ⟨p, 0, none⟩) s.snapV := by
  obtain ⟨ok, Al, nl, cl, A0, n0, c0, A1, n1, c1, hx, hh⟩ := h
  have hp : p < w.heap.size := hx.blk.lt
  have x3 := hx.x3
  have x4 := hx.x4
  have x7 := hx.x7
  have hl := ok.last
  unfold TellsB DS.snapV DS.lastD
  obtain ⟨la, hla⟩ : ∃ la, s.last = la := ⟨_, rfl⟩
  rw [hla] at hl x7 ⊢
  clear hla
  have hc0 := fun k : Nat => copyR_any (w.drewN k) w.heap.size A0 n0 c0 s.d0 (Reads.of_own hx.r0) (Nat.le_refl _) (by rw [← hx.len0]; exact ok.n0)
  have hc1 := fun k : Nat => copyR_any (w.drewN k) w.heap.size A1 n1 c1 s.d1 (Reads.of_own hx.r1) (Nat.le_refl _) (by rw [← hx.len1]; exact ok.n1)
  have l0 := hx.len0
  have l1 := hx.len1
  generalize s.d0 = d0 at *
  generalize s.d1 = d1 at *
  have hbd : Below w.heap.size w w.drew := (Below.refl _ w).drew
  have y3 : w.drew.cell? ⟨p, 3, none⟩ = some (.slice A0 n0 c0) := x3
  have y4 : w.drew.cell? ⟨p, 4, none⟩ = some (.slice A1 n1 c1) := x4
  have y7 : w.drew.cell? ⟨p, 7, none⟩ = some (.int .i64 la) := x7
  clear hx hh ok
  rcases hl with rfl | rfl | rfl
  · go_enter Try.func26, Try.ntmps26
    go_wp2
    go_ret2
    exact ⟨none, 0, rfl, World.ownsRow_nil _ _ _ _, by first | exact Below.refl _ _ | exact below_drewN (Below.refl _ w) _⟩
  · subst l0
    go_enter Try.func26, Try.ntmps26
    go_wp2
    go_region_held3 (fun w' => w'.cell? ⟨p, 3, none⟩ = some (.slice A0 d0.length c0) ∧ w'.cell? ⟨p, 7, none⟩ = some (.int .i64 0)) (first | (refine ⟨?_, ?_⟩ <;> assumption) | go_keep)
      ((go_at_call 25; refine (hc0 1).mono ?_; rintro e w1 ⟨g2, c2, rfl, o1, m1⟩; have n1 := hbd.trans m1; have d3 := (n1.cell (p := ⟨p, 3, none⟩) hp).trans y3; have d7 := (n1.cell (p := ⟨p, 7, none⟩) hp).trans y7))
    go_wp2
    go_ret2
    exact ⟨_, _, rfl, o1, n1⟩
  · subst l1
    go_enter Try.func26, Try.ntmps26
    go_wp2
    go_region_held3 (fun w' => w'.cell? ⟨p, 4, none⟩ = some (.slice A1 d1.length c1) ∧ w'.cell? ⟨p, 7, none⟩ = some (.int .i64 1)) (first | (refine ⟨?_, ?_⟩ <;> assumption) | go_keep)
      ((go_at_call 25; refine (hc1 1).mono ?_; rintro e w1 ⟨g2, c2, rfl, o1, m1⟩; have n1 := hbd.trans m1; have d3 := (n1.cell (p := ⟨p, 4, none⟩) hp).trans y4; have d7 := (n1.cell (p := ⟨p, 7, none⟩) hp).trans y7))
    go_wp2
    go_ret2
    exact ⟨_, _, rfl, o1, n1⟩

set_option maxHeartbeats 2000000 in
set_option maxRecDepth 100000 in
theorem spareD_any (h : PD w p S s) : TellsB w 27 (some ⟨p, 0, none⟩) s.spareV := by
  obtain ⟨ok, Al, nl, cl, A0, n0, c0, A1, n1, c1, hx, hh⟩ := h
  have hp : p < w.heap.size := hx.blk.lt
  have ht := fun k : Nat => thereYes (w.drewN k) p s.cap ok.cap1 hx.x0
  have hs := fun k : Nat => spare_any (w.drewN k) p s ok hx.x7
  have x3 := hx.x3
  have x5 := hx.x5
  have xh0 := hx.x4
  have xh1 := hx.x6
  have hl := ok.last
  unfold TellsB DS.spareV DS.spareD DS.spareH
  unfold DS.sp at hs
  obtain ⟨la, hla⟩ : ∃ la, s.last = la := ⟨_, rfl⟩
  rw [hla] at hl ⊢
  simp only [hla] at hs
  clear hla
  have hc0 := fun k : Nat => clone_any (w.drewN k) w.heap.size A0 n0 c0 s.d0 (Reads.of_own hx.r0) (Nat.le_refl _) (by rw [← hx.len0]; exact ok.n0)
  have hc1 := fun k : Nat => clone_any (w.drewN k) w.heap.size A1 n1 c1 s.d1 (Reads.of_own hx.r1) (Nat.le_refl _) (by rw [← hx.len1]; exact ok.n1)
  have l0 := hx.len0
  have l1 := hx.len1
  clear hx hh ok
  generalize s.d0 = d0 at *
  generalize s.d1 = d1 at *
  generalize s.h0 = b0 at *
  generalize s.h1 = b1 at *
  rcases hl with rfl | rfl | rfl
  · subst l0
    cases b0
    · go_enter Try.func27, Try.ntmps27
      go_wp2
      go_quiet ((first | (go_at_call 41; exact quiet_left (ht _)) | (go_at_call 42; exact quiet_left (hs _))))
      go_wp2
      go_ret2
      exact ⟨none, 0, rfl, World.ownsRow_nil _ _ _ _, by first | exact Below.refl _ _ | exact below_drewN (Below.refl _ w) _⟩
    · go_enter Try.func27, Try.ntmps27
      go_wp2
      go_quiet ((first | (go_at_call 41; exact quiet_left (ht _)) | (go_at_call 42; exact quiet_left (hs _))))
      have hbd : Below w.heap.size w (w.drewN nq).drew := (below_drewN (Below.refl _ w) nq).drew
      have ys := hs (nq + 1)
      have yc : (w.drewN nq).drew.cell? ⟨p, 3, none⟩ = some (.slice A0 d0.length c0) := x3
      go_wp2
      go_region_held3 (fun w' => w'.cell? ⟨p, 3, none⟩ = some (.slice A0 d0.length c0)) (first | assumption | go_keep) ((first
        | (go_at_call 42; refine ys.mono ?_; rintro e w1 ⟨rfl, rfl⟩)
        | (go_at_call 24; refine (hc0 (nq + 1)).mono ?_; rintro e w1 ⟨g2, c2, rfl, o1, m1⟩; have n1 := hbd.trans m1; have d3 := (n1.cell (p := ⟨p, 3, none⟩) hp).trans yc)))
      go_wp2
      go_ret2
      exact ⟨_, _, rfl, o1, n1⟩
  · subst l1
    cases b1
    · go_enter Try.func27, Try.ntmps27
      go_wp2
      go_quiet ((first | (go_at_call 41; exact quiet_left (ht _)) | (go_at_call 42; exact quiet_left (hs _))))
      go_wp2
      go_ret2
      exact ⟨none, 0, rfl, World.ownsRow_nil _ _ _ _, by first | exact Below.refl _ _ | exact below_drewN (Below.refl _ w) _⟩
    · go_enter Try.func27, Try.ntmps27
      go_wp2
      go_quiet ((first | (go_at_call 41; exact quiet_left (ht _)) | (go_at_call 42; exact quiet_left (hs _))))
      have hbd : Below w.heap.size w (w.drewN nq).drew := (below_drewN (Below.refl _ w) nq).drew
      have ys := hs (nq + 1)
      have yc : (w.drewN nq).drew.cell? ⟨p, 5, none⟩ = some (.slice A1 d1.length c1) := x5
      go_wp2
      go_region_held3 (fun w' => w'.cell? ⟨p, 5, none⟩ = some (.slice A1 d1.length c1)) (first | assumption | go_keep) ((first
        | (go_at_call 42; refine ys.mono ?_; rintro e w1 ⟨rfl, rfl⟩)
        | (go_at_call 24; refine (hc1 (nq + 1)).mono ?_; rintro e w1 ⟨g2, c2, rfl, o1, m1⟩; have n1 := hbd.trans m1; have d3 := (n1.cell (p := ⟨p, 5, none⟩) hp).trans yc)))
      go_wp2
      go_ret2
      exact ⟨_, _, rfl, o1, n1⟩
  · subst l0
    cases b0
    · go_enter Try.func27, Try.ntmps27
      go_wp2
      go_quiet ((first | (go_at_call 41; exact quiet_left (ht _)) | (go_at_call 42; exact quiet_left (hs _))))
      go_wp2
      go_ret2
      exact ⟨none, 0, rfl, World.ownsRow_nil _ _ _ _, by first | exact Below.refl _ _ | exact below_drewN (Below.refl _ w) _⟩
    · go_enter Try.func27, Try.ntmps27
      go_wp2
      go_quiet ((first | (go_at_call 41; exact quiet_left (ht _)) | (go_at_call 42; exact quiet_left (hs _))))
      have hbd : Below w.heap.size w (w.drewN nq).drew := (below_drewN (Below.refl _ w) nq).drew
      have ys := hs (nq + 1)
      have yc : (w.drewN nq).drew.cell? ⟨p, 3, none⟩ = some (.slice A0 d0.length c0) := x3
      go_wp2
      go_region_held3 (fun w' => w'.cell? ⟨p, 3, none⟩ = some (.slice A0 d0.length c0)) (first | assumption | go_keep) ((first
        | (go_at_call 42; refine ys.mono ?_; rintro e w1 ⟨rfl, rfl⟩)
        | (go_at_call 24; refine (hc0 (nq + 1)).mono ?_; rintro e w1 ⟨g2, c2, rfl, o1, m1⟩; have n1 := hbd.trans m1; have d3 := (n1.cell (p := ⟨p, 3, none⟩) hp).trans yc)))
      go_wp2
      go_ret2
      exact ⟨_, _, rfl, o1, n1⟩

set_option maxHeartbeats 2000000 in
set_option maxRecDepth 100000 in
theorem spareDR_any (h : RD w p S s) : TellsB w 28 (some ⟨p, 0, none⟩) s.spareV := by
  obtain ⟨ok, Al, nl, cl, A0, n0, c0, A1, n1, c1, hx, hh⟩ := h
  have hp : p < w.heap.size := hx.blk.lt
  have hs := fun k : Nat => spareR_any (w.drewN k) p s ok hx.x7
  have x3 := hx.x3
  have x4 := hx.x4
  have xh0 := hx.x5
  have xh1 := hx.x6
  have hl := ok.last
  unfold TellsB DS.spareV DS.spareD DS.spareH
  unfold DS.sp at hs
  obtain ⟨la, hla⟩ : ∃ la, s.last = la := ⟨_, rfl⟩
  rw [hla] at hl ⊢
  simp only [hla] at hs
  clear hla
  have hc0 := fun k : Nat => copyR_any (w.drewN k) w.heap.size A0 n0 c0 s.d0 (Reads.of_own hx.r0) (Nat.le_refl _) (by rw [← hx.len0]; exact ok.n0)
  have hc1 := fun k : Nat => copyR_any (w.drewN k) w.heap.size A1 n1 c1 s.d1 (Reads.of_own hx.r1) (Nat.le_refl _) (by rw [← hx.len1]; exact ok.n1)
  have l0 := hx.len0
  have l1 := hx.len1
  clear hx hh ok
  generalize s.d0 = d0 at *
  generalize s.d1 = d1 at *
  generalize s.h0 = b0 at *
  generalize s.h1 = b1 at *
  rcases hl with rfl | rfl | rfl
  · subst l0
    cases b0
    · go_enter Try.func28, Try.ntmps28
      go_wp2
      go_quiet ((go_at_call 43; exact quiet_left (hs _)))
      go_wp2
      go_ret2
      exact ⟨none, 0, rfl, World.ownsRow_nil _ _ _ _, by first | exact Below.refl _ _ | exact below_drewN (Below.refl _ w) _⟩
    · go_enter Try.func28, Try.ntmps28
      go_wp2
      go_quiet ((go_at_call 43; exact quiet_left (hs _)))
      have hbd : Below w.heap.size w (w.drewN nq).drew := (below_drewN (Below.refl _ w) nq).drew
      have ys := hs (nq + 1)
      have yc : (w.drewN nq).drew.cell? ⟨p, 3, none⟩ = some (.slice A0 d0.length c0) := x3
      go_wp2
      go_region_held3 (fun w' => w'.cell? ⟨p, 3, none⟩ = some (.slice A0 d0.length c0)) (first | assumption | go_keep) ((first
        | (go_at_call 43; refine ys.mono ?_; rintro e w1 ⟨rfl, rfl⟩)
        | (go_at_call 25; refine (hc0 (nq + 1)).mono ?_; rintro e w1 ⟨g2, c2, rfl, o1, m1⟩; have n1 := hbd.trans m1; have d3 := (n1.cell (p := ⟨p, 3, none⟩) hp).trans yc)))
      go_wp2
      go_ret2
      exact ⟨_, _, rfl, o1, n1⟩
  · subst l1
    cases b1
    · go_enter Try.func28, Try.ntmps28
      go_wp2
      go_quiet ((go_at_call 43; exact quiet_left (hs _)))
      go_wp2
      go_ret2
      exact ⟨none, 0, rfl, World.ownsRow_nil _ _ _ _, by first | exact Below.refl _ _ | exact below_drewN (Below.refl _ w) _⟩
    · go_enter Try.func28, Try.ntmps28
      go_wp2
      go_quiet ((go_at_call 43; exact quiet_left (hs _)))
      have hbd : Below w.heap.size w (w.drewN nq).drew := (below_drewN (Below.refl _ w) nq).drew
      have ys := hs (nq + 1)
      have yc : (w.drewN nq).drew.cell? ⟨p, 4, none⟩ = some (.slice A1 d1.length c1) := x4
      go_wp2
      go_region_held3 (fun w' => w'.cell? ⟨p, 4, none⟩ = some (.slice A1 d1.length c1)) (first | assumption | go_keep) ((first
        | (go_at_call 43; refine ys.mono ?_; rintro e w1 ⟨rfl, rfl⟩)
        | (go_at_call 25; refine (hc1 (nq + 1)).mono ?_; rintro e w1 ⟨g2, c2, rfl, o1, m1⟩; have n1 := hbd.trans m1; have d3 := (n1.cell (p := ⟨p, 4, none⟩) hp).trans yc)))
      go_wp2
      go_ret2
      exact ⟨_, _, rfl, o1, n1⟩
  · subst l0
    cases b0
    · go_enter Try.func28, Try.ntmps28
      go_wp2
      go_quiet ((go_at_call 43; exact quiet_left (hs _)))
      go_wp2
      go_ret2
      exact ⟨none, 0, rfl, World.ownsRow_nil _ _ _ _, by first | exact Below.refl _ _ | exact below_drewN (Below.refl _ w) _⟩
    · go_enter Try.func28, Try.ntmps28
      go_wp2
      go_quiet ((go_at_call 43; exact quiet_left (hs _)))
      have hbd : Below w.heap.size w (w.drewN nq).drew := (below_drewN (Below.refl _ w) nq).drew
      have ys := hs (nq + 1)
      have yc : (w.drewN nq).drew.cell? ⟨p, 3, none⟩ = some (.slice A0 d0.length c0) := x3
      go_wp2
      go_region_held3 (fun w' => w'.cell? ⟨p, 3, none⟩ = some (.slice A0 d0.length c0)) (first | assumption | go_keep) ((first
        | (go_at_call 43; refine ys.mono ?_; rintro e w1 ⟨rfl, rfl⟩)
        | (go_at_call 25; refine (hc0 (nq + 1)).mono ?_; rintro e w1 ⟨g2, c2, rfl, o1, m1⟩; have n1 := hbd.trans m1; have d3 := (n1.cell (p := ⟨p, 3, none⟩) hp).trans yc)))
      go_wp2
      go_ret2
      exact ⟨_, _, rfl, o1, n1⟩

set_option maxRecDepth 100000 in
theorem roomR_any (h : RD w p S s) : Calls Try.prog 31 #[.pointer (some ⟨p, 0, none⟩)] w fun e w' => e = .returned (.int .i64 (roomS s)) ∧ ∃ k, w' = w.drewN k := by
  obtain ⟨ok, Al, nl, cl, A0, n0, c0, A1, n1, c1, hx, hh⟩ := h
  have x0 := hx.x0
  have x1 := hx.x1
  have hl := hx.len
  have b1 := ok.cap2
  have b2 := ok.nl
  unfold roomS
  rw [hl] at b2 ⊢
  generalize s.cap = c at *
  obtain ⟨d, hd⟩ : ∃ d : Int, (c : Int) - (nl : Int) = d := ⟨_, rfl⟩
  have u1 : IntKind.i64.wrap ((c : Int) - (nl : Int)) = d := by rw [IntWalk.i64_in _ (by omega)]; exact hd
  obtain ⟨r, hr⟩ : ∃ r, c - nl = r := ⟨_, rfl⟩
  rw [hr]
  by_cases hle : d ≤ 0
  · have e : r = 0 := by omega
    subst e
    clear hx hh ok hl hr hd
    go_enter Try.func31, Try.ntmps31
    go_wp2
    go_quiet (fail)
    go_wp2
    go_ret
    exact ⟨rfl, _, rfl⟩
  · have e : (r : Int) = d := by omega
    rw [e]
    clear hx hh ok hl hr hd e
    go_enter Try.func31, Try.ntmps31
    go_wp2
    go_quiet (fail)
    go_wp2
    go_ret
    exact ⟨rfl, _, rfl⟩
end
theorem roomRNo (w : World) : Calls Try.prog 31 #[.pointer none] w fun e w' => e = .returned (.int .i64 0) ∧ w = w' := by
  go_enter Try.func31, Try.ntmps31
  go_wp2
  go_ret
  exact ⟨rfl, rfl⟩
theorem snapRNo (w : World) : Calls Try.prog 26 #[.pointer none] w fun e w' => e = .returned (.tuple #[.slice none 0 0, .bool false]) ∧ w = w' := by
  go_enter Try.func26, Try.ntmps26
  go_wp2
  go_ret2
  exact ⟨rfl, rfl⟩
theorem spareDRNo (w : World) : Calls Try.prog 28 #[.pointer none] w fun e w' => e = .returned (.tuple #[.slice none 0 0, .bool false]) ∧ ∃ k, w' = w.drewN k := by
  go_enter Try.func28, Try.ntmps28
  go_wp2
  go_quiet (fail)
  go_wp2
  go_ret2
  exact ⟨rfl, _, rfl⟩
end Go.Proofs.Ytapgcglpkilofaa
