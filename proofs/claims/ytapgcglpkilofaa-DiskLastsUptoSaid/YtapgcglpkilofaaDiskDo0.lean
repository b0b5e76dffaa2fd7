/- does of wicketlaw03: disks that are not there. Conditions: those that each states. -/
import Derived.Test.YtapgcglpkilofaaDiskLent
import Derived.Test.YtapgcglpkilofaaDiskTells
import Derived.Deep.RegionLaw
namespace Go.Proofs.Ytapgcglpkilofaa
open Go.RowKit

section
variable (w : World) (N : Int) (A : Option Addr) (n c : Nat) (b : List Nat)
def NilPost (w : World) (e : Ending) (w' : World) : Prop := e = .returned (.tuple #[.pointer none, .pointer none, .bool true]) ∧ Below w.heap.size w w'

set_option maxHeartbeats 8000000 in
set_option maxRecDepth 100000 in
theorem nil_write (hA : Reads w w.heap.size 1 A n (byts b)) (hs : Small b) (hn : n ≤ 140737488351240) : Calls Try.prog 11 #[.pointer none, .pointer none, .agg #[.int .i64 1, .int .i64 N, .slice A n c]] w (NilPost w) := by
  have k0 := Blk.new w 39 #[.int .i64 1, .int .i64 N, .slice A n c]
  have hb1 : Below w.heap.size w (w.alloc (.cells #[.int .i64 1, .int .i64 N, .slice A n c] 39)) := (Below.refl _ w).alloc (Nat.le_refl _) _
  obtain ⟨W1, hW1⟩ : ∃ W1, w.alloc (.cells #[.int .i64 1, .int .i64 N, .slice A n c] 39) = W1 := ⟨_, rfl⟩
  obtain ⟨b0, e0⟩ : ∃ b0, w.heap.size = b0 := ⟨_, rfl⟩
  rw [hW1] at k0 hb1
  rw [e0] at k0
  have hb0 := k0.lt
  have g0 := (k0.cell 0).trans rfl
  have g2 := (k0.cell 2).trans rfl
  have cl := lent_any W1 w.heap.size A n c b (hA.below hb1) hb1.size hn
  have C2 : ∀ w2 A2 c2, w2.ownsRow W1.heap.size 5 1 (.slice A2 (n + 1) c2) (n + 1) (byts (b ++ [165])) → Below W1.heap.size W1 w2 →
      (w2.cell? ⟨b0, 0, none⟩ = some (.int .i64 1) ∧ w2.drew.cell? ⟨b0, 2, none⟩ = some (.slice A n c)) ∧
      Calls Try.prog 9 #[.slice A2 n c2, .slice A n c] w2.drew fun e w5 => e = .returned (.bool true) ∧ Below w.heap.size w w5 := by
    intro w2 A2 c2 o2 m2
    have hb2 := hb1.trans (m2.mono hb1.size)
    refine ⟨⟨(m2.cell (p := ⟨b0, 0, none⟩) hb0).trans g0, (m2.cell (p := ⟨b0, 2, none⟩) hb0).trans g2⟩, ?_⟩
    have o3 := own_fr (S := noB) o2 (Fr.refl _ w2).drew fun _ _ e => e
    refine (left_any w2.drew _ w.heap.size A2 A n c2 c b o3 (hA.below hb2.drew) hs hn).mono ?_
    rintro e w5 ⟨rfl, f5⟩
    exact ⟨rfl, hb2.drew.trans (f5.below (fun k hk => Nat.le_trans hb1.size (o2.lt k (by rw [ownBlock_slice]; exact hk)).1) hb2.size)⟩
  have C2' := Lib.hid C2
  have c19 := fun W X n c => writeNo W none (.inl rfl) X n c
  have c32 := fun W X n c => writeRNo W X n c
  clear k0 hb1 C2 hA
  go_enter Try.func11, Try.ntmps11
  go_wp2_with (go_at_call 6; refine cl.mono ?_; clear cl; rintro e w2 ⟨A2, c2, rfl, o2, m2⟩; obtain ⟨⟨y0, y2⟩, D2⟩ := C2'.out w2 A2 c2 o2 m2)
  go_region_law (first
    | (go_simp; go_at_call 19; refine (c19 _ _ _ _).mono ?_; rintro e w3 ⟨rfl, rfl⟩)
    | (go_simp; go_at_call 32; refine (c32 _ _ _ _).mono ?_; rintro e w3 ⟨rfl, rfl⟩))
  all_goals
    go_wp2_with (go_at_call 9; refine D2.mono ?_; clear D2; rintro e w5 ⟨rfl, h5⟩; have H5 := Lib.hid h5; clear h5)
    go_ret3
    exact ⟨rfl, H5.out⟩

set_option maxHeartbeats 8000000 in
set_option maxRecDepth 100000 in
theorem nil_put (hA : Reads w w.heap.size 1 A n (byts b)) (hs : Small b) (hn : n ≤ 140737488351240) : Calls Try.prog 11 #[.pointer none, .pointer none, .agg #[.int .i64 5, .int .i64 N, .slice A n c]] w (NilPost w) := by
  have k0 := Blk.new w 39 #[.int .i64 5, .int .i64 N, .slice A n c]
  have hb1 : Below w.heap.size w (w.alloc (.cells #[.int .i64 5, .int .i64 N, .slice A n c] 39)) := (Below.refl _ w).alloc (Nat.le_refl _) _
  obtain ⟨W1, hW1⟩ : ∃ W1, w.alloc (.cells #[.int .i64 5, .int .i64 N, .slice A n c] 39) = W1 := ⟨_, rfl⟩
  obtain ⟨b0, e0⟩ : ∃ b0, w.heap.size = b0 := ⟨_, rfl⟩
  rw [hW1] at k0 hb1
  rw [e0] at k0
  have hb0 := k0.lt
  have g0 := (k0.cell 0).trans rfl
  have g2 := (k0.cell 2).trans rfl
  have cl := lent_any W1 w.heap.size A n c b (hA.below hb1) hb1.size hn
  have C2 : ∀ w2 A2 c2, w2.ownsRow W1.heap.size 5 1 (.slice A2 (n + 1) c2) (n + 1) (byts (b ++ [165])) → Below W1.heap.size W1 w2 →
      (w2.cell? ⟨b0, 0, none⟩ = some (.int .i64 5) ∧ w2.drew.cell? ⟨b0, 2, none⟩ = some (.slice A n c)) ∧
      Calls Try.prog 9 #[.slice A2 n c2, .slice A n c] w2.drew fun e w5 => e = .returned (.bool true) ∧ Below w.heap.size w w5 := by
    intro w2 A2 c2 o2 m2
    have hb2 := hb1.trans (m2.mono hb1.size)
    refine ⟨⟨(m2.cell (p := ⟨b0, 0, none⟩) hb0).trans g0, (m2.cell (p := ⟨b0, 2, none⟩) hb0).trans g2⟩, ?_⟩
    have o3 := own_fr (S := noB) o2 (Fr.refl _ w2).drew fun _ _ e => e
    refine (left_any w2.drew _ w.heap.size A2 A n c2 c b o3 (hA.below hb2.drew) hs hn).mono ?_
    rintro e w5 ⟨rfl, f5⟩
    exact ⟨rfl, hb2.drew.trans (f5.below (fun k hk => Nat.le_trans hb1.size (o2.lt k (by rw [ownBlock_slice]; exact hk)).1) hb2.size)⟩
  have C2' := Lib.hid C2
  have c19 := fun W X n c => putNo W none (.inl rfl) X n c
  have c32 := fun W X n c => putRNo W X n c
  clear k0 hb1 C2 hA
  go_enter Try.func11, Try.ntmps11
  go_wp2_with (go_at_call 6; refine cl.mono ?_; clear cl; rintro e w2 ⟨A2, c2, rfl, o2, m2⟩; obtain ⟨⟨y0, y2⟩, D2⟩ := C2'.out w2 A2 c2 o2 m2)
  go_region_law (first
    | (go_simp; go_at_call 17; refine (c19 _ _ _ _).mono ?_; rintro e w3 ⟨rfl, rfl⟩)
    | (go_simp; go_at_call 33; refine (c32 _ _ _ _).mono ?_; rintro e w3 ⟨rfl, rfl⟩))
  all_goals
    go_wp2_with (go_at_call 9; refine D2.mono ?_; clear D2; rintro e w5 ⟨rfl, h5⟩; have H5 := Lib.hid h5; clear h5)
    go_ret3
    exact ⟨rfl, H5.out⟩

set_option maxHeartbeats 8000000 in
set_option maxRecDepth 100000 in
theorem nil_rest (K : Int) (h1 : K ≠ 1) (h5 : K ≠ 5) : Calls Try.prog 11 #[.pointer none, .pointer none, .agg #[.int .i64 K, .int .i64 N, .slice A n c]] w (NilPost w) := by
  have hb1 : Below w.heap.size w (w.alloc (.cells #[.int .i64 K, .int .i64 N, .slice A n c] 39)) := (Below.refl _ w).alloc (Nat.le_refl _) _
  have b1 : (K == 1) = false := by rw [beq_eq_false_iff_ne]; exact h1
  have b5 : (K == 5) = false := by rw [beq_eq_false_iff_ne]; exact h5
  have HB := Lib.hid hb1
  clear hb1
  by_cases h2 : K = 2
  · subst h2
    have c1 := fun W => syncNo W none (.inl rfl)
    have c2 := fun W => syncRNo W
    clear b1 b5 h1 h5
    go_enter Try.func11, Try.ntmps11
    go_wp2_with (first
      | (go_at_call 18; refine (c1 _).mono ?_; rintro e w3 ⟨rfl, rfl⟩)
      | (go_at_call 34; refine (c2 _).mono ?_; rintro e w3 ⟨rfl, rfl⟩))
    go_ret3
    exact ⟨rfl, HB.out⟩
  have b2 : (K == 2) = false := by rw [beq_eq_false_iff_ne]; exact h2
  by_cases h3 : K = 3
  · subst h3
    have c1 := fun W z => trimNo W none (.inl rfl) z
    have c2 := fun W z => trimRNo W z
    clear b1 b5 h1 h5 b2 h2
    go_enter Try.func11, Try.ntmps11
    go_wp2
    go_region_law (first
      | (go_simp; go_at_call 20; refine (c1 _ _).mono ?_; rintro e w3 ⟨rfl, rfl⟩)
      | (go_simp; go_at_call 35; refine (c2 _ _).mono ?_; rintro e w3 ⟨rfl, rfl⟩))
    all_goals
      go_wp2
      go_ret3
      exact ⟨rfl, HB.out.drew⟩
  have b3 : (K == 3) = false := by rw [beq_eq_false_iff_ne]; exact h3
  by_cases h4 : K = 4
  · subst h4
    have c1 := fun W z => dropNo W none (.inl rfl) z
    have c2 := fun W z => dropRNo W z
    clear b1 b5 h1 h5 b2 h2 b3 h3
    go_enter Try.func11, Try.ntmps11
    go_wp2
    go_region_law (first
      | (go_simp; go_at_call 21; refine (c1 _ _).mono ?_; rintro e w3 ⟨rfl, rfl⟩)
      | (go_simp; go_at_call 36; refine (c2 _ _).mono ?_; rintro e w3 ⟨rfl, rfl⟩))
    all_goals
      go_wp2
      go_ret3
      exact ⟨rfl, HB.out.drew⟩
  have b4 : (K == 4) = false := by rw [beq_eq_false_iff_ne]; exact h4
  by_cases h6 : K = 6
  · subst h6
    have c1 := fun W => switchNo W none (.inl rfl)
    have c2 := fun W => switchRNo W
    clear b1 b5 h1 h5 b2 h2 b3 h3 b4 h4
    go_enter Try.func11, Try.ntmps11
    go_wp2_with (first
      | (go_at_call 22; refine (c1 _).mono ?_; rintro e w3 ⟨rfl, rfl⟩)
      | (go_at_call 37; refine (c2 _).mono ?_; rintro e w3 ⟨rfl, rfl⟩))
    go_ret3
    exact ⟨rfl, HB.out⟩
  have b6 : (K == 6) = false := by rw [beq_eq_false_iff_ne]; exact h6
  by_cases h7 : K = 7
  · subst h7
    have c1 := fun W z => stopNo W none (.inl rfl) z
    have c2 := fun W z => stopRNo W z
    have c3 := fun W => tellsNo W none (.inl rfl)
    clear b1 b5 h1 h5 b2 h2 b3 h3 b4 h4 b6 h6
    go_enter Try.func11, Try.ntmps11
    go_wp2
    go_region_law (first
      | (go_simp; go_at_call 14; refine (c1 _ _).mono ?_; rintro e w3 ⟨rfl, rfl⟩)
      | (go_simp; go_at_call 38; refine (c2 _ _).mono ?_; rintro e w3 ⟨rfl, rfl⟩))
    all_goals
      go_wp2_with (go_at_call 10; refine (c3 _).mono ?_; rintro e w3 ⟨rfl, n3, rfl⟩)
      go_ret3
      exact ⟨rfl, by first | exact below_drewN HB.out.drew n3 | exact below_drewN HB.out _⟩
  have b7 : (K == 7) = false := by rw [beq_eq_false_iff_ne]; exact h7
  by_cases h8 : K = 8
  · subst h8
    have c1 := fun W => copyNo W none (.inl rfl)
    have c2 := fun W => copyRNo W
    have c3 := fun W X n c => writeNo W none (.inl rfl) X n c
    have c4 := fun W X n c => putNo W none (.inl rfl) X n c
    clear b1 b5 h1 h5 b2 h2 b3 h3 b4 h4 b6 h6 b7 h7
    go_enter Try.func11, Try.ntmps11
    go_wp2_with (first
      | (go_at_call 23; refine (c1 _).mono ?_; rintro e w3 ⟨rfl, rfl⟩)
      | (go_at_call 39; refine (c2 _).mono ?_; rintro e w3 ⟨rfl, rfl⟩)
      | (go_at_call 19; refine (c3 _ _ _ _).mono ?_; rintro e w3 ⟨rfl, rfl⟩)
      | (go_at_call 17; refine (c4 _ _ _ _).mono ?_; rintro e w3 ⟨rfl, rfl⟩))
    go_ret3
    exact ⟨rfl, (HB.out.alloc HB.out.size _).alloc (HB.out.alloc HB.out.size _).size _⟩
  have b8 : (K == 8) = false := by rw [beq_eq_false_iff_ne]; exact h8
  go_enter Try.func11, Try.ntmps11
  go_wp2
  go_ret3
  exact ⟨rfl, HB.out⟩
end
end Go.Proofs.Ytapgcglpkilofaa
