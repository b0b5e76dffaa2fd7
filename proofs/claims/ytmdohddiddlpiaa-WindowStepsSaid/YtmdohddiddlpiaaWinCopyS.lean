/- wicket/window at one type of things: New, Copy, All. Conditions: those that each states. -/
import Derived.Test.YtmdohddiddlpiaaWinBaseS
import Derived.Deep.RegionHeld3
namespace Go.Proofs.Ytmdohddiddlpiaa
open Go.RowKit

theorem Try.info75w : (Try.prog.info? 75).map (fun i => (i.zero, i.size, i.bytes)) = some (some (.agg #[.bool false, Value.string ⟨#[]⟩]), 2, 24) := by kernel_rfl
theorem madeS (n : Nat) : (madeCells #[.bool false, Value.string ⟨#[]⟩] (n * 2)).toList = ringS (fun _ => false) (fun _ => ⟨#[]⟩) n := by
  refine pairsN_ext _ _ n _ (by simp [madeCells]; omega) fun i hi => ?_
  have e1 : 2 * i % 2 = 0 := by omega
  have e2 : (2 * i + 1) % 2 = 1 := by omega
  constructor
  · simp [madeCells, e1, show 2 * i < n * 2 by omega]
  · simp [madeCells, e2, show 2 * i + 1 < n * 2 by omega]

theorem newNoS (w : World) (z : Int) (hz : z < 1 ∨ 64 < z) : Calls Try.prog 15 #[.int .i64 z] w fun e w' => e = .returned (.tuple #[.pointer none, .int .i64 2]) ∧ w = w' := by
  rcases hz with h | h
  · go_enter Try.func15, Try.ntmps15
    go_wp2
    go_ret2
    exact ⟨rfl, rfl⟩
  · have h2 : ¬ z < 1 := by omega
    go_enter Try.func15, Try.ntmps15
    go_wp2
    go_ret2
    exact ⟨rfl, rfl⟩

set_option maxRecDepth 100000 in
theorem newYesS (w : World) (n : Nat) (h1 : 1 ≤ n) (h2 : n ≤ 64) : Calls Try.prog 15 #[.int .i64 n] w fun e w' => ∃ p, e = .returned (.tuple #[.pointer (some ⟨p, 0, none⟩), .int .i64 0]) ∧ ∃ g, RWS w' p g n n (fun _ => false) (fun _ => ⟨#[]⟩) 0 0 ∧ w.heap.size ≤ p ∧ w.heap.size ≤ g ∧ Below w.heap.size w w' := by
  obtain ⟨i0, hi, hz0, hz1, hz2⟩ := info_parts Try.info75w
  have hm := run_make (P := Try.prog) w 54 75 i0 _ Try.underlying54 hi hz0 .i64 .i64 (n : Int) (n : Int) (by omega) (by omega) (by rw [hz2]; omega) (by omega)
  rw [hz1] at hm
  simp only [Int.toNat_natCast] at hm
  obtain ⟨M, hM⟩ : ∃ M, madeCells (Value.agg #[.bool false, Value.string ⟨#[]⟩]).cells (n * 2) = M := ⟨_, rfl⟩
  have hMl : M.toList = ringS (fun _ => false) (fun _ => ⟨#[]⟩) n := by rw [← hM]; exact madeS n
  rw [hM] at hm
  have HM := Lib.hid hMl
  clear hM hMl
  have q1 : ¬ (n : Int) < 1 := by omega
  have q2 : ¬ (64 : Int) < (n : Int) := by omega
  go_enter Try.func15, Try.ntmps15
  go_wp2
  go_ret2
  refine ⟨_, rfl, w.heap.size, ⟨?_, ⟨M, ?_, ?_⟩, h1, h2, Nat.le_refl _, by omega, by omega, by simp, Nat.le_refl _⟩, by simp, Nat.le_refl _, ((Below.refl _ w).alloc (Nat.le_refl _) _).alloc (by simp) _⟩
  · have := Blk.new (w.alloc (.cells M 75)) 56 #[.slice (some ⟨w.heap.size, 0, none⟩) n n, .int .i64 0, .int .i64 0]
    simpa using this
  · exact (Blk.new w 75 M).alloc _
  · rw [HM.out, List.take_of_length_le (by rw [ringS, pairsN_len]; omega)]

theorem ringOneS (n : Nat) (o : Nat → Bool) (v : Nat → ByteArray) : ∀ u ∈ ringS o v n, u.oneCell' = true := by
  intro u hu
  simp only [ringS, pairsN, List.mem_flatMap, List.mem_range] at hu
  obtain ⟨i, _, hu⟩ := hu
  simp at hu
  rcases hu with rfl | rfl <;> rfl

section
variable (w : World) (p g n c : Nat) (o : Nat → Bool) (v : Nat → ByteArray) (m l : Nat) (h : RWS w p g n c o v m l)
include h

set_option maxRecDepth 100000 in
theorem cloneS : Calls Try.prog 35 #[.slice (some ⟨g, 0, none⟩) n c] w fun e w' => ∃ g2 c2, e = .returned (.slice (some ⟨g2, 0, none⟩) n c2) ∧ w'.ownsRow w.heap.size 75 2 (.slice (some ⟨g2, 0, none⟩) n c2) n (ringS o v n) ∧ Below w.heap.size w w' := by
  obtain ⟨i0, hi, hz0, hz1, hz2⟩ := info_parts Try.info75w
  have hr := h.reads
  have h1 := h.pos
  have h2 := h.most
  have one := ringOneS n o v
  obtain ⟨R, hR⟩ : ∃ R, ringS o v n = R := ⟨_, rfl⟩
  rw [hR] at hr one ⊢
  clear hR h
  have ho : (w.alloc (.cells #[] 75)).ownsRow w.heap.size 75 2 (.slice (some ⟨w.heap.size, 0, none⟩) 0 0) 0 [] := World.ownsRow_made w #[] 0 (Nat.le_refl _) (by unfold maxLen; omega) rfl
  have hr2 := hr.alloc (Nat.le_refl _) (.cells #[] 75)
  have hnn := fun (W : World) => Lib.run_eql_slice_nil (P := Try.prog) W 54 75 (some ⟨g, 0, none⟩) n c 0 0 Try.underlying54
  have hb1 : Below w.heap.size w (w.alloc (.cells #[] 75)) := (Below.refl _ w).alloc (Nat.le_refl _) _
  go_enter Try.func35, Try.ntmps35
  go_wp2_with (at_builtin; refine wpList_append_any _ rfl _ _ 54 rfl w.heap.size 75 i0 _ 2 24 Try.underlying54 hi hz0 hz1 hz2 rfl (by decide) _ _ _ rfl ho _ _ n _ _ rfl hr2 ?c1 ?c2 ?c3 ?c4 ?_)
  case c1 => exact one
  case c2 => unfold maxLen; omega
  case c3 => omega
  case c4 => simp
  intro v2 w2 ho2 hg2 _
  try simp only [Nat.zero_add, List.nil_append] at ho2
  obtain ⟨g2, c2, hv, _, _⟩ := ho2.form (by omega)
  subst hv
  go_wp2
  go_ret
  exact ⟨g2, c2, rfl, ho2, hb1.grown hg2 (by simp) (own_base ho)⟩

set_option maxHeartbeats 1000000 in
set_option maxRecDepth 100000 in
theorem copyS : Calls Try.prog 16 #[.pointer (some ⟨p, 0, none⟩)] w fun e w' => ∃ p2, e = .returned (.pointer (some ⟨p2, 0, none⟩)) ∧ ∃ g2 c2, RWS w' p2 g2 n c2 o v m l ∧ w.heap.size ≤ p2 ∧ w.heap.size ≤ g2 ∧ Below w.heap.size w w' := by
  have ht := thereS w p g n c o v m l h
  have h1 := h.pos
  have hc := fun (W : World) (hb : Below w.heap.size w W) => cloneS W p g n c o v m l (h.fr (S := noB) (Fr.of_new hb) (fun h => h) (fun h => h))
  have hcl := fun (W : World) (hb : Below w.heap.size w W) => h.fr (S := noB) (Fr.of_new hb) (fun h => h) (fun h => h)
  have hbd : Below w.heap.size w w.drew := (Below.refl _ w).drew
  have e0 : w.drew.cell? ⟨p, 0, none⟩ = some (.slice (some ⟨g, 0, none⟩) n c) := h.c0
  have e1 : w.drew.cell? ⟨p, 1, none⟩ = some (.int .i64 m) := h.c1
  have e2 : w.drew.cell? ⟨p, 2, none⟩ = some (.int .i64 l) := h.c2
  obtain ⟨R, hR⟩ : ∃ R, ringS o v n = R := ⟨_, rfl⟩
  simp only [hR] at hc
  have H := Lib.hid h
  have HR := Lib.hid hR
  clear hR h
  go_enter Try.func16, Try.ntmps16
  go_wp2_with (go_at_call 34; refine ht.mono ?_; clear ht; rintro e w' ⟨rfl, rfl⟩)
  go_region_held3 (fun w' => w'.cell? ⟨p, 0, none⟩ = some (.slice (some ⟨g, 0, none⟩) n c) ∧ w'.cell? ⟨p, 1, none⟩ = some (.int .i64 m) ∧ w'.cell? ⟨p, 2, none⟩ = some (.int .i64 l)) (first | (refine ⟨?_, ?_, ?_⟩ <;> assumption) | go_keep)
    ((go_at_call 35; refine (hc _ (by assumption)).mono ?_; rintro e w1 ⟨g2, c2, rfl, o1, m1⟩; have n1 := hbd.trans m1; have d0 := (hcl _ n1).c0; have d1 := (hcl _ n1).c1; have d2 := (hcl _ n1).c2))
  obtain ⟨hg2, hc2, cur, hcur, htk⟩ := row_blk o1 (by omega)
  have hs1 := n1.size
  go_wp2
  go_ret
  have h := H.out
  refine ⟨_, rfl, g2, c2, ⟨Blk.new w1 56 _, ⟨cur, hcur.alloc _, by rw [htk, HR.out]⟩, h.pos, h.most, h.le, h.span, h.far, ?_, hc2⟩, hs1, hg2, n1.alloc hs1 _⟩
  have := hcur.lt
  omega

end

/-- What All tells. -/
theorem allS (w : World) (p : Option Addr) : Calls Try.prog 42 #[.pointer p] w fun e w' => e = .returned (.func (.func 48) #[] #[.pointer (some ⟨w.heap.size, 0, none⟩)]) ∧ w' = w.alloc (.cells #[.pointer p] 38) := by
  go_enter Try.func42, Try.ntmps42
  go_wp2
  go_ret
  exact ⟨rfl, rfl⟩
end Go.Proofs.Ytmdohddiddlpiaa
