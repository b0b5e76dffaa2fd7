/- slices.Clone of bytes, the document's Copy, there, spare, and what only looks at a disk's cells. Conditions: those that each states. -/
import Derived.Test.YtapgcglpkilofaaDiskBase
import Derived.Test.YtapgcglpkilofaaProg
import Derived.WalkLawsBesides
import Derived.WalkSpells
import Derived.BigQuiet
import Derived.Outline
import Derived.LoopTactic
import Derived.IntWalk
namespace Go.Proofs.Ytapgcglpkilofaa
open Go.RowKit

theorem Try.info5w : (Try.prog.info? 5).map (fun i => (i.zero, i.size, i.bytes)) = some (some (.int .u8 0), 1, 1) := by kernel_rfl

set_option maxRecDepth 100000 in
theorem clone_any (w : World) (B : Nat) (A : Option Addr) (n c : Nat) (l : List Nat) (h : Reads w B 1 A n (byts l)) (hB : B ≤ w.heap.size) (hn : n ≤ 140737488351240) :
    Calls Try.prog 24 #[.slice A n c] w fun e w' => ∃ A2 c2, e = .returned (.slice A2 n c2) ∧ w'.ownsRow w.heap.size 5 1 (.slice A2 n c2) n (byts l) ∧ Below w.heap.size w w' := by
  obtain ⟨i0, hi, hz0, hz1, hz2⟩ := info_parts Try.info5w
  have hnn := fun (W : World) => Lib.run_eql_slice_nil (P := Try.prog) W 22 5 A n c 0 0 Try.underlying22
  cases A with
  | none =>
    have hn0 : n = 0 := by
      rcases Nat.eq_zero_or_pos n with h0 | h0
      · exact h0
      · obtain ⟨ad, e, _⟩ := h.2 h0; cases e
    subst hn0
    have hl : byts l = [] := List.eq_nil_of_length_eq_zero (by simpa using h.1)
    rw [hl]
    clear h hl
    go_enter Try.func24, Try.ntmps24
    go_wp2
    go_ret
    exact ⟨none, 0, rfl, World.ownsRow_nil _ _ _ _, Below.refl _ _⟩
  | some ad =>
    have ho : (w.alloc (.cells #[] 5)).ownsRow w.heap.size 5 1 (.slice (some ⟨w.heap.size, 0, none⟩) 0 0) 0 [] := World.ownsRow_made w #[] 0 (Nat.le_refl _) (by unfold maxLen; omega) rfl
    have hr2 := h.alloc hB (.cells #[] 5)
    have hb1 : Below w.heap.size w (w.alloc (.cells #[] 5)) := (Below.refl _ w).alloc (Nat.le_refl _) _
    go_enter Try.func24, Try.ntmps24
    go_wp2_with (at_builtin; refine wpList_append_any _ rfl _ _ 22 rfl w.heap.size 5 i0 _ 1 1 Try.underlying22 hi hz0 hz1 hz2 rfl (by decide) _ _ _ rfl ho _ _ n _ _ rfl hr2 ?c1 ?c2 ?c3 ?c4 ?_)
    case c1 => exact byts_one _
    case c2 => unfold maxLen; omega
    case c3 => omega
    case c4 => simp
    intro v2 w2 ho2 hg2 _
    try simp only [Nat.zero_add, List.nil_append] at ho2
    obtain ⟨A2, c2, rfl⟩ := own_shape ho2
    go_wp2
    go_ret
    exact ⟨A2, c2, rfl, ho2, hb1.grown hg2 (by simp) (own_base ho)⟩

set_option maxRecDepth 100000 in
theorem copyR_any (w : World) (B : Nat) (A : Option Addr) (n c : Nat) (l : List Nat) (h : Reads w B 1 A n (byts l)) (hB : B ≤ w.heap.size) (hn : n ≤ 140737488351240) :
    Calls Try.prog 25 #[.slice A n c] w fun e w' => ∃ A2 c2, e = .returned (.slice A2 n c2) ∧ w'.ownsRow w.heap.size 5 1 (.slice A2 n c2) n (byts l) ∧ Below w.heap.size w w' := by
  obtain ⟨i0, hi, hz0, hz1, hz2⟩ := info_parts Try.info5w
  go_enter Try.func25, Try.ntmps25
  go_wp2_with (at_builtin; refine wpList_append_any _ rfl _ _ 22 rfl w.heap.size 5 i0 (.int .u8 0) 1 1 Try.underlying22 hi hz0 hz1 hz2 rfl (by decide) _ _ _ rfl (World.ownsRow_nil _ _ _ _) B A n c _ rfl h ?c1 ?c2 ?c3 ?c4 ?_)
  case c1 => exact byts_one _
  case c2 => unfold maxLen; omega
  case c3 => omega
  case c4 => exact Nat.le_refl _
  intro v1 w1 o1 g1 _
  obtain ⟨P1, p1, rfl⟩ := own_shape o1
  try simp only [Nat.zero_add, List.nil_append] at o1
  have hb1 : Below w.heap.size w w1 := (Below.refl _ _).grown g1 (Nat.le_refl _) (fun k hk => by cases hk)
  go_wp2
  go_ret
  exact ⟨P1, p1, rfl, o1, hb1⟩

/-- A disk that is not there: none, or one of no room. -/
def Gone (w : World) (A : Option Addr) : Prop := A = none ∨ ∃ p, A = some ⟨p, 0, none⟩ ∧ w.cell? ⟨p, 0, none⟩ = some (.int .i64 0)
theorem thereNo (w : World) (A : Option Addr) (h : Gone w A) : Calls Try.prog 41 #[.pointer A] w fun e w' => e = .returned (.bool false) ∧ w = w' := by
  rcases h with rfl | ⟨p, rfl, c0⟩
  · go_enter Try.func41, Try.ntmps41
    go_wp2
    go_ret
    exact ⟨rfl, rfl⟩
  · go_enter Try.func41, Try.ntmps41
    go_wp2
    go_ret
    exact ⟨rfl, rfl⟩
theorem thereYes (w : World) (p : Nat) (c : Nat) (hc : 1 ≤ c) (c0 : w.cell? ⟨p, 0, none⟩ = some (.int .i64 c)) : Calls Try.prog 41 #[.pointer (some ⟨p, 0, none⟩)] w fun e w' => e = .returned (.bool true) ∧ w = w' := by
  have q1 : (0 : Int) < (c : Int) := by omega
  have q2 : 0 < c := hc
  go_enter Try.func41, Try.ntmps41
  go_wp2
  go_ret
  exact ⟨rfl, rfl⟩
theorem spare_any (w : World) (p : Nat) (s : DS) (hs : s.Ok) (c7 : w.cell? ⟨p, 7, none⟩ = some (.int .i64 s.last)) : Calls Try.prog 42 #[.pointer (some ⟨p, 0, none⟩)] w fun e w' => e = .returned (.int .i64 (s.sp : Nat)) ∧ w = w' := by
  have hl := hs.last
  unfold DS.sp
  generalize s.last = x at *
  rcases hl with rfl | rfl | rfl
  · go_enter Try.func42, Try.ntmps42
    go_wp2
    go_ret
    exact ⟨rfl, rfl⟩
  · go_enter Try.func42, Try.ntmps42
    go_wp2
    go_ret
    exact ⟨rfl, rfl⟩
  · go_enter Try.func42, Try.ntmps42
    go_wp2
    go_ret
    exact ⟨rfl, rfl⟩
theorem spareR_any (w : World) (p : Nat) (s : DS) (hs : s.Ok) (c7 : w.cell? ⟨p, 7, none⟩ = some (.int .i64 s.last)) : Calls Try.prog 43 #[.pointer (some ⟨p, 0, none⟩)] w fun e w' => e = .returned (.int .i64 (s.sp : Nat)) ∧ w = w' := by
  have hl := hs.last
  unfold DS.sp
  generalize s.last = x at *
  rcases hl with rfl | rfl | rfl
  · go_enter Try.func43, Try.ntmps43
    go_wp2
    go_ret
    exact ⟨rfl, rfl⟩
  · go_enter Try.func43, Try.ntmps43
    go_wp2
    go_ret
    exact ⟨rfl, rfl⟩
  · go_enter Try.func43, Try.ntmps43
    go_wp2
    go_ret
    exact ⟨rfl, rfl⟩
end Go.Proofs.Ytapgcglpkilofaa
