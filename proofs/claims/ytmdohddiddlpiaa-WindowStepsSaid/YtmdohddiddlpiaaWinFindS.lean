/- wicket/window at one type of things: find, Give, Get, Set, New. Conditions: those that each states. -/
import Derived.Test.YtmdohddiddlpiaaWinBaseS
import Derived.Deep.MidRow
namespace Go.Proofs.Ytmdohddiddlpiaa
open Go.RowKit




section
variable (w : World) (p g n c : Nat) (o : Nat → Bool) (v : Nat → ByteArray) (m l : Nat) (h : RWS w p g n c o v m l)
include h

set_option maxRecDepth 100000 in
theorem findNoS (z : Int) (hz : ¬ IsOut n o m l z) : Calls Try.prog 45 #[.pointer (some ⟨p, 0, none⟩), .int .i64 z] w fun e w' => e = .returned (.tuple #[.pointer none, .int .i64 5]) ∧ ∃ j, w' = w.drewN j := by
  have c1 := h.c1
  have c2 := h.c2
  have ht := thereS w p g n c o v m l h
  by_cases h1 : z ≤ (m : Int)
  · have q1 : z ≤ (m : Int) := h1
    clear h hz
    go_enter Try.func45, Try.ntmps45
    go_wp2_with (go_at_call 34; refine ht.mono ?_; clear ht; rintro e w' ⟨rfl, rfl⟩)
    go_ret2
    exact ⟨rfl, 0, rfl⟩
  · by_cases h2 : (l : Int) < z
    · have q1 : ¬ z ≤ (m : Int) := h1
      have q2 : (l : Int) < z := h2
      clear h hz
      go_enter Try.func45, Try.ntmps45
      go_wp2_with (go_at_call 34; refine ht.mono ?_; clear ht; rintro e w' ⟨rfl, rfl⟩)
      go_ret2
      exact ⟨rfl, 0, rfl⟩
    · obtain ⟨k, rfl⟩ : ∃ k : Nat, z = k := ⟨z.toNat, by omega⟩
      have hfar := h.far
      have hpos := h.pos
      obtain ⟨r, hr⟩ : ∃ r, k % n = r := ⟨_, rfl⟩
      have hrn : r < n := by rw [← hr]; exact Nat.mod_lt _ (by omega)
      have ho : o r = false := by
        cases hb : o r with
        | false => rfl
        | true => exact absurd ⟨by omega, by omega, by rw [Int.toNat_natCast, hr]; exact hb⟩ hz
      have ha := atS w p g n c o v m l h k r hr (by omega)
      have d0 := h.r0 hrn
      rw [ho] at d0
      have q1 : ¬ (k : Int) ≤ (m : Int) := h1
      have q2 : ¬ (l : Int) < (k : Int) := h2
      have dN := fun j => (h.drewN j).r0 hrn
      simp only [ho] at dN
      clear h hz hr ho
      go_enter Try.func45, Try.ntmps45
      go_wp2_with (first
        | (go_at_call 34; refine ht.mono ?_; clear ht; rintro e w' ⟨rfl, rfl⟩)
        | (go_at_call 44; refine ha.mono ?_; clear ha; rintro e w' ⟨rfl, j, rfl⟩; have dj := dN j))
      go_ret2
      exact ⟨rfl, _, rfl⟩

set_option maxRecDepth 100000 in
theorem findYesS (k r : Nat) (h1 : m < k) (h2 : k ≤ l) (hr : k % n = r) (ho : o r = true) : Calls Try.prog 45 #[.pointer (some ⟨p, 0, none⟩), .int .i64 k] w fun e w' => e = .returned (.tuple #[.pointer (some ⟨g, r * 2, none⟩), .int .i64 0]) ∧ ∃ j, w' = w.drewN j := by
  have c1 := h.c1
  have c2 := h.c2
  have ht := thereS w p g n c o v m l h
  have hfar := h.far
  have hpos := h.pos
  have hrn : r < n := by rw [← hr]; exact Nat.mod_lt _ (by omega)
  have ha := fun j => atS (w.drewN j) p g n c o v m l (h.drewN j) k r hr (by omega)
  have ha0 := atS w p g n c o v m l h k r hr (by omega)
  have q1 : ¬ (k : Int) ≤ (m : Int) := by omega
  have q2 : ¬ (l : Int) < (k : Int) := by omega
  have dN := fun j => (h.drewN j).r0 hrn
  simp only [ho] at dN
  clear h hr ho
  go_enter Try.func45, Try.ntmps45
  go_wp2_with (first
    | (go_at_call 34; refine ht.mono ?_; clear ht; rintro e w' ⟨rfl, rfl⟩)
    | (go_at_call 44; refine ha0.mono ?_; clear ha0; rintro e w' ⟨rfl, j, rfl⟩; have dj := dN j)
    | (go_at_call 44; refine (ha j).mono ?_; clear ha; rintro e w' ⟨rfl, j2, rfl⟩))
  go_ret2
  exact ⟨rfl, _, rfl⟩

set_option maxRecDepth 100000 in
theorem giveFullS (x : ByteArray) (hl : l = m + n) : Calls Try.prog 27 #[.pointer (some ⟨p, 0, none⟩), Value.string x] w fun e w' => e = .returned (.tuple #[.int .i64 0, .int .i64 7]) ∧ ∃ j, w' = w.drewN j := by
  have ht := thereS w p g n c o v m l h
  have hr := roomS w p g n c o v m l h
  rw [show n + m - l = 0 by omega] at hr
  clear h
  go_enter Try.func27, Try.ntmps27
  go_wp2_with (first
    | (go_at_call 34; refine ht.mono ?_; clear ht; rintro e w' ⟨rfl, rfl⟩)
    | (go_at_call 24; refine hr.mono ?_; clear hr; rintro e w' ⟨rfl, j, rfl⟩))
  go_ret2
  exact ⟨rfl, _, rfl⟩

set_option maxHeartbeats 1000000 in
set_option maxRecDepth 100000 in
theorem giveS (x : ByteArray) (hl : l < m + n) (hf : l < 1000000) : Calls Try.prog 27 #[.pointer (some ⟨p, 0, none⟩), Value.string x] w fun e w' => e = .returned (.tuple #[.int .i64 (l + 1 : Nat), .int .i64 0]) ∧
    RWS w' p g n c (upd o ((l + 1) % n) true) (upd v ((l + 1) % n) x) m (l + 1) ∧ Fr (fun k => k = p ∨ k = g) w w' := by
  have ht := thereS w p g n c o v m l h
  have hr := roomS w p g n c o v m l h
  obtain ⟨d, hd⟩ : ∃ d, n + m - l = d := ⟨_, rfl⟩
  rw [hd] at hr
  have hd0 : 0 < d := by omega
  have hdb : ((d : Int) == 0) = false := by rw [beq_eq_false_iff_ne]; omega
  have hpos := h.pos
  have hle := h.le
  obtain ⟨r, hr'⟩ : ∃ r, (l + 1) % n = r := ⟨_, rfl⟩
  have hrn : r < n := by rw [← hr']; exact Nat.mod_lt _ (by omega)
  obtain ⟨l2, hl2⟩ : ∃ l2, l + 1 = l2 := ⟨_, rfl⟩
  have u1 : IntKind.i64.wrap ((l : Int) + 1) = (l2 : Int) := by rw [IntWalk.i64_in _ (by omega)]; omega
  have H := Lib.hid h
  rw [hr', hl2]
  rw [hl2] at hr'
  clear h hd
  go_enter Try.func27, Try.ntmps27
  go_wp2_with (first
    | (go_at_call 34; refine ht.mono ?_; clear ht; rintro e w' ⟨rfl, rfl⟩)
    | (go_at_call 24; refine hr.mono ?_; clear hr; rintro e w' ⟨rfl, j, rfl⟩; have h1 := H.out.drewN j; have c2 := h1.c2; have g2 := h1.win.frozen 2; obtain ⟨w2, hw2⟩ : ∃ w2, (w.drewN j).setCell ⟨p, 2, none⟩ (.int .i64 (l2 : Int)) = w2 := ⟨_, rfl⟩; have h2 := h1.last (l' := l2) (by omega) (by omega) (by omega); rw [hw2] at h2; have k2 := h2.c2; have f2 : Fr (fun k => k = p ∨ k = g) w w2 := (by rw [← hw2]; exact ((Fr.refl (fun k => k = p ∨ k = g) w).drewN j).setCell (p := ⟨p, 2, none⟩) (fun _ => .inl rfl) _); have ha := atS w2 p g n c o v m l2 h2 l2 r hr' (by omega); have H2 := Lib.hid h2; clear h2 h1)
    | (go_at_call 44; refine ha.mono ?_; clear ha; rintro e w' ⟨rfl, j2, rfl⟩; have h3 := H2.out.drewN j2; have d0 := h3.r0 hrn; have d1 := h3.r1 hrn; have g0 := h3.frz (r * 2); have g1 := h3.frz (r * 2 + 1); have h4 := h3.put r true x; have k4 := h4.c2; have f4 : Fr (fun k => k = p ∨ k = g) w ((((w2.drewN j2).setCell ⟨g, r * 2, none⟩ (.bool true)).setCell ⟨g, r * 2 + 1, none⟩ (Value.string x))) := ((f2.drewN j2).setCell (p := ⟨g, r * 2, none⟩) (fun _ => .inr rfl) _).setCell (p := ⟨g, r * 2 + 1, none⟩) (fun _ => .inr rfl) _))
  go_ret2
  exact ⟨rfl, h4, f4⟩

end
end Go.Proofs.Ytmdohddiddlpiaa
