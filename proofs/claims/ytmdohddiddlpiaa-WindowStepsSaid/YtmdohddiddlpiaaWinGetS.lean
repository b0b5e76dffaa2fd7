/- wicket/window at one type of things: Get, Set. Conditions: those that each states. -/
import Derived.Test.YtmdohddiddlpiaaWinFindS
namespace Go.Proofs.Ytmdohddiddlpiaa
open Go.RowKit

section
variable (w : World) (p g n c : Nat) (o : Nat → Bool) (v : Nat → ByteArray) (m l : Nat) (h : RWS w p g n c o v m l)
include h

set_option maxRecDepth 100000 in
theorem getNoS (z : Int) (hz : ¬ IsOut n o m l z) : Calls Try.prog 37 #[.pointer (some ⟨p, 0, none⟩), .int .i64 z] w fun e w' => e = .returned (.tuple #[Value.string ⟨#[]⟩, .int .i64 5]) ∧ ∃ j, w' = w.drewN j := by
  have hf := findNoS w p g n c o v m l h z hz
  clear h hz
  go_enter Try.func37, Try.ntmps37
  go_wp2_with (go_at_call 45; refine hf.mono ?_; clear hf; rintro e w' ⟨rfl, j, rfl⟩)
  go_ret2
  exact ⟨rfl, _, rfl⟩

set_option maxRecDepth 100000 in
theorem getYesS (k r : Nat) (h1 : m < k) (h2 : k ≤ l) (hr : k % n = r) (ho : o r = true) : Calls Try.prog 37 #[.pointer (some ⟨p, 0, none⟩), .int .i64 k] w fun e w' => e = .returned (.tuple #[Value.string (v r), .int .i64 0]) ∧ ∃ j, w' = w.drewN j := by
  have hf := findYesS w p g n c o v m l h k r h1 h2 hr ho
  have hpos := h.pos
  have hrn : r < n := by rw [← hr]; exact Nat.mod_lt _ (by omega)
  have dN := fun j => (h.drewN j).r1 hrn
  clear h hr ho
  go_enter Try.func37, Try.ntmps37
  go_wp2_with (go_at_call 45; refine hf.mono ?_; clear hf; rintro e w' ⟨rfl, j, rfl⟩; have dj := dN j)
  go_ret2
  exact ⟨rfl, _, rfl⟩

set_option maxRecDepth 100000 in
theorem setNoS (z : Int) (x : ByteArray) (hz : ¬ IsOut n o m l z) : Calls Try.prog 39 #[.pointer (some ⟨p, 0, none⟩), .int .i64 z, Value.string x] w fun e w' => e = .returned (.int .i64 5) ∧ ∃ j, w' = w.drewN j := by
  have hf := findNoS w p g n c o v m l h z hz
  clear h hz
  go_enter Try.func39, Try.ntmps39
  go_wp2_with (go_at_call 45; refine hf.mono ?_; clear hf; rintro e w' ⟨rfl, j, rfl⟩)
  go_ret
  exact ⟨rfl, _, rfl⟩

set_option maxRecDepth 100000 in
theorem setYesS (k r : Nat) (x : ByteArray) (h1 : m < k) (h2 : k ≤ l) (hr : k % n = r) (ho : o r = true) : Calls Try.prog 39 #[.pointer (some ⟨p, 0, none⟩), .int .i64 k, Value.string x] w fun e w' => e = .returned (.int .i64 0) ∧
    RWS w' p g n c o (upd v r x) m l ∧ Fr (fun k => k = p ∨ k = g) w w' := by
  have hf := findYesS w p g n c o v m l h k r h1 h2 hr ho
  have hpos := h.pos
  have hrn : r < n := by rw [← hr]; exact Nat.mod_lt _ (by omega)
  have H := Lib.hid h
  clear h hr ho
  go_enter Try.func39, Try.ntmps39
  go_wp2_with (go_at_call 45; refine hf.mono ?_; clear hf; rintro e w' ⟨rfl, j, rfl⟩; have h3 := H.out.drewN j; have d1 := h3.r1 hrn; have g1 := h3.frz (r * 2 + 1); have h4 := h3.put1 r x; have f4 : Fr (fun k => k = p ∨ k = g) w ((w.drewN j).setCell ⟨g, r * 2 + 1, none⟩ (Value.string x)) := ((Fr.refl (fun k => k = p ∨ k = g) w).drewN j).setCell (p := ⟨g, r * 2 + 1, none⟩) (fun _ => .inr rfl) _)
  go_ret
  exact ⟨rfl, h4, f4⟩
end
end Go.Proofs.Ytmdohddiddlpiaa
