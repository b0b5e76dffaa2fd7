/- wicket/window at one type of things: its cells; there, at, Mark, Last, Room, find, New. Conditions: those that each states. -/
import Derived.Test.YtmdohddiddlpiaaWinMath
import Derived.Test.YtmdohddiddlpiaaProg
import Derived.WalkLawsBesides
import Derived.WalkSpells
import Derived.BigQuiet
import Derived.Outline
import Derived.LoopTactic
import Derived.IntWalk
namespace Go.Proofs.Ytmdohddiddlpiaa
open Go.RowKit

def ringS (o : Nat → Bool) (v : Nat → ByteArray) (n : Nat) : List Value := pairsN (fun i => .bool (o i)) (fun i => Value.string (v i)) n
/-- A window: a ring of n places, its mark and its last number. -/
structure RWS (w : World) (p g n c : Nat) (o : Nat → Bool) (v : Nat → ByteArray) (m l : Nat) : Prop where
  win : Blk w p 56 #[.slice (some ⟨g, 0, none⟩) n c, .int .i64 m, .int .i64 l]
  ring : ∃ cur, Blk w g 75 cur ∧ cur.toList.take (2 * n) = ringS o v n
  pos : 1 ≤ n
  most : n ≤ 64
  le : m ≤ l
  span : l ≤ m + n
  far : l ≤ 1000000
  ne : p ≠ g
  cap : n ≤ c
namespace RWS
variable {w w' : World} {p g n c : Nat} {o : Nat → Bool} {v : Nat → ByteArray} {m l : Nat}
theorem ltp (h : RWS w p g n c o v m l) : p < w.heap.size := h.win.lt
theorem ltg (h : RWS w p g n c o v m l) : g < w.heap.size := by obtain ⟨cur, hb, _⟩ := h.ring; exact hb.lt
theorem frz (h : RWS w p g n c o v m l) (i : Nat) : w.frozen? ⟨g, i, none⟩ = false := by obtain ⟨cur, hb, _⟩ := h.ring; exact hb.frozen i
theorem fr {S : Nat → Prop} (h : RWS w p g n c o v m l) (hf : Fr S w w') (h1 : ¬ S p) (h2 : ¬ S g) : RWS w' p g n c o v m l :=
  ⟨h.win.fr hf h1, by obtain ⟨cur, hb, e⟩ := h.ring; exact ⟨cur, hb.fr hf h2, e⟩, h.pos, h.most, h.le, h.span, h.far, h.ne, h.cap⟩
theorem drewN (h : RWS w p g n c o v m l) (k : Nat) : RWS (w.drewN k) p g n c o v m l :=
  ⟨h.win.drewN k, by obtain ⟨cur, hb, e⟩ := h.ring; exact ⟨cur, hb.drewN k, e⟩, h.pos, h.most, h.le, h.span, h.far, h.ne, h.cap⟩
theorem c0 (h : RWS w p g n c o v m l) : w.cell? ⟨p, 0, none⟩ = some (.slice (some ⟨g, 0, none⟩) n c) := (h.win.cell 0).trans rfl
theorem c1 (h : RWS w p g n c o v m l) : w.cell? ⟨p, 1, none⟩ = some (.int .i64 m) := (h.win.cell 1).trans rfl
theorem c2 (h : RWS w p g n c o v m l) : w.cell? ⟨p, 2, none⟩ = some (.int .i64 l) := (h.win.cell 2).trans rfl
theorem cell_ (h : RWS w p g n c o v m l) (j : Nat) (hj : j < 2 * n) : w.cell? ⟨g, j, none⟩ = (ringS o v n)[j]? := by
  obtain ⟨cur, hb, e⟩ := h.ring
  rw [hb.cell, ← e, List.getElem?_take, if_pos hj, Array.getElem?_toList]
theorem r0 (h : RWS w p g n c o v m l) {r : Nat} (hr : r < n) : w.cell? ⟨g, r * 2, none⟩ = some (.bool (o r)) := by
  rw [h.cell_ _ (by omega), Nat.mul_comm r 2]
  exact (pairsN_get _ _ n r hr).1
theorem r1 (h : RWS w p g n c o v m l) {r : Nat} (hr : r < n) : w.cell? ⟨g, r * 2 + 1, none⟩ = some (Value.string (v r)) := by
  rw [h.cell_ _ (by omega), Nat.mul_comm r 2]
  exact (pairsN_get _ _ n r hr).2
/-- A place stored anew. -/
theorem put (h : RWS w p g n c o v m l) (r : Nat) (b : Bool) (x : ByteArray) : RWS ((w.setCell ⟨g, r * 2, none⟩ (.bool b)).setCell ⟨g, r * 2 + 1, none⟩ (Value.string x)) p g n c (upd o r b) (upd v r x) m l := by
  refine ⟨(h.win.far h.ne _).far h.ne _, ?_, h.pos, h.most, h.le, h.span, h.far, h.ne, h.cap⟩
  obtain ⟨cur, hb, e⟩ := h.ring
  refine ⟨_, (hb.set_ (r * 2) (.bool b)).set_ (r * 2 + 1) (Value.string x), ?_⟩
  rw [Array.toList_setIfInBounds, Array.toList_setIfInBounds, List.take_set, List.take_set, e, Nat.mul_comm r 2, ringS, pairsN_set, ringS]
  congr 1
  · funext i; unfold upd; split <;> rfl
  · funext i; unfold upd; split <;> rfl
/-- A thing stored anew. -/
theorem put1 (h : RWS w p g n c o v m l) (r : Nat) (x : ByteArray) : RWS (w.setCell ⟨g, r * 2 + 1, none⟩ (Value.string x)) p g n c o (upd v r x) m l := by
  refine ⟨h.win.far h.ne _, ?_, h.pos, h.most, h.le, h.span, h.far, h.ne, h.cap⟩
  obtain ⟨cur, hb, e⟩ := h.ring
  refine ⟨_, hb.set_ (r * 2 + 1) (Value.string x), ?_⟩
  rw [Array.toList_setIfInBounds, List.take_set, e, Nat.mul_comm r 2, ringS, pairsN_set2, ringS]
  congr 1
  funext i; unfold upd; split <;> rfl
theorem reads (h : RWS w p g n c o v m l) : Reads w w.heap.size 2 (some ⟨g, 0, none⟩) n (ringS o v n) := by
  refine ⟨by rw [ringS, pairsN_len]; omega, fun _ => ⟨_, rfl, h.ltg, fun j u hu => ?_⟩⟩
  have hj := (List.getElem?_eq_some_iff.1 hu).1
  rw [ringS, pairsN_len] at hj
  rw [addr_add, h.cell_ j hj, hu]
theorem mark (h : RWS w p g n c o v m l) {m' : Nat} (hm : m ≤ m') (hl : m' ≤ l) : RWS (w.setCell ⟨p, 1, none⟩ (.int .i64 m')) p g n c o v m' l :=
  ⟨by simpa using h.win.set_ 1 (.int .i64 m'), by obtain ⟨cur, hb, e⟩ := h.ring; exact ⟨cur, hb.far (Ne.symm h.ne) _, e⟩, h.pos, h.most, hl, by have := h.span; omega, h.far, h.ne, h.cap⟩
theorem last (h : RWS w p g n c o v m l) {l' : Nat} (hm : m ≤ l') (hl : l' ≤ m + n) (hf : l' ≤ 1000000) : RWS (w.setCell ⟨p, 2, none⟩ (.int .i64 l')) p g n c o v m l' :=
  ⟨by simpa using h.win.set_ 2 (.int .i64 l'), by obtain ⟨cur, hb, e⟩ := h.ring; exact ⟨cur, hb.far (Ne.symm h.ne) _, e⟩, h.pos, h.most, hm, hl, hf, h.ne, h.cap⟩
end RWS

section
variable (w : World) (p g n c : Nat) (o : Nat → Bool) (v : Nat → ByteArray) (m l : Nat) (h : RWS w p g n c o v m l)
include h

theorem thereS : Calls Try.prog 34 #[.pointer (some ⟨p, 0, none⟩)] w fun e w' => e = .returned (.bool true) ∧ w = w' := by
  have c0 := h.c0
  have hp := h.pos
  have q1 : (0 : Int) < (n : Int) := by omega
  have q2 : 0 < n := hp
  go_enter Try.func34, Try.ntmps34
  go_wp2
  go_ret
  exact ⟨rfl, rfl⟩

theorem markS : Calls Try.prog 19 #[.pointer (some ⟨p, 0, none⟩)] w fun e w' => e = .returned (.int .i64 m) ∧ w = w' := by
  have c1 := h.c1
  have ht := thereS w p g n c o v m l h
  go_enter Try.func19, Try.ntmps19
  go_wp2_with (go_at_call 34; refine ht.mono ?_; clear ht; rintro e w' ⟨rfl, rfl⟩)
  go_ret
  exact ⟨rfl, rfl⟩

theorem lastS : Calls Try.prog 21 #[.pointer (some ⟨p, 0, none⟩)] w fun e w' => e = .returned (.int .i64 l) ∧ w = w' := by
  have c1 := h.c2
  have ht := thereS w p g n c o v m l h
  go_enter Try.func21, Try.ntmps21
  go_wp2_with (go_at_call 34; refine ht.mono ?_; clear ht; rintro e w' ⟨rfl, rfl⟩)
  go_ret
  exact ⟨rfl, rfl⟩

set_option maxRecDepth 100000 in
theorem roomS : Calls Try.prog 24 #[.pointer (some ⟨p, 0, none⟩)] w fun e w' => e = .returned (.int .i64 (n + m - l : Nat)) ∧ ∃ k, w' = w.drewN k := by
  have c0 := h.c0
  have c1 := h.c1
  have c2 := h.c2
  have ht := thereS w p g n c o v m l h
  have b1 := h.le
  have b2 := h.span
  have b3 := h.far
  have b4 := h.most
  obtain ⟨d, hd⟩ : ∃ d, n + m - l = d := ⟨_, rfl⟩
  rw [hd]
  obtain ⟨f, hf⟩ : ∃ f, l - m = f := ⟨_, rfl⟩
  have u1 : IntKind.i64.wrap ((l : Int) - (m : Int)) = (f : Int) := by rw [IntWalk.i64_in _ (by omega)]; omega
  have u2 : IntKind.i64.wrap ((n : Int) - (f : Int)) = (d : Int) := by rw [IntWalk.i64_in _ (by omega)]; omega
  clear hd hf h
  go_enter Try.func24, Try.ntmps24
  go_wp2_with (go_at_call 34; refine ht.mono ?_; clear ht; rintro e w' ⟨rfl, rfl⟩)
  go_quiet (fail)
  go_wp2
  go_ret
  exact ⟨rfl, _, rfl⟩

set_option maxRecDepth 100000 in
theorem atS (k r : Nat) (hr : k % n = r) (hk : k ≤ 1000064) : Calls Try.prog 44 #[.pointer (some ⟨p, 0, none⟩), .int .i64 k] w fun e w' => e = .returned (.pointer (some ⟨g, r * 2, none⟩)) ∧ ∃ j, w' = w.drewN j := by
  have c0 := h.c0
  have hp := h.pos
  have b4 := h.most
  have hrn : r < n := by rw [← hr]; exact Nat.mod_lt _ (by omega)
  have q0 : (0 : Int) ≤ (k : Int) := by omega
  have q1 : (0 : Int) < (n : Int) := by omega
  have e1 : (k : Int) % (n : Int) = (r : Int) := by rw [← hr]; omega
  have e2 : (k : Int).tmod (n : Int) = (r : Int) := by rw [Int.tmod_eq_emod_of_nonneg (by omega)]; exact e1
  have q2 : (0 : Int) ≤ (r : Int) := by omega
  have q3 : (r : Int) < (n : Int) := by omega
  have q4 : ¬ (n : Int) = 0 := by omega
  have q5 : ((n : Int) == 0) = false := by rw [beq_eq_false_iff_ne]; exact q4
  clear h hr
  go_enter Try.func44, Try.ntmps44
  go_wp2
  go_quiet (fail)
  go_wp2
  go_ret
  exact ⟨by simp, _, rfl⟩
end
end Go.Proofs.Ytmdohddiddlpiaa
