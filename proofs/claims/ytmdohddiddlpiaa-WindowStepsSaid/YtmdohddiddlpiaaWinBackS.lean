/- wicket/window at one type of things: Back. Conditions: those that each states. -/
import Derived.Test.YtmdohddiddlpiaaWinFindS
import Derived.Deep.LoopGhost
namespace Go.Proofs.Ytmdohddiddlpiaa
open Go.RowKit

section
variable (w : World) (p g n c : Nat) (o : Nat → Bool) (v : Nat → ByteArray) (m l : Nat) (h : RWS w p g n c o v m l)
include h

set_option maxRecDepth 100000 in
theorem backNoS (z : Int) (hz : ¬ IsOut n o m l z) : Calls Try.prog 28 #[.pointer (some ⟨p, 0, none⟩), .int .i64 z] w fun e w' => e = .returned (.tuple #[Value.string ⟨#[]⟩, .int .i64 5]) ∧ ∃ j, w' = w.drewN j := by
  have hf := findNoS w p g n c o v m l h z hz
  clear h hz
  go_enter Try.func28, Try.ntmps28
  go_wp2
  go_step3
  go_wp2_with (go_at_call 45; refine hf.mono ?_; clear hf; rintro e w' ⟨rfl, j, rfl⟩)
  try simp (config := { zetaDelta := true }) only [Exit.noGoto, Exit.then, Exit.inBlock]
  go_ret2
  exact ⟨rfl, _, rfl⟩

set_option maxHeartbeats 2000000 in
set_option maxRecDepth 100000 in
theorem backYesS (k r : Nat) (h1 : m < k) (h2 : k ≤ l) (hr : k % n = r) (ho : o r = true) : Calls Try.prog 28 #[.pointer (some ⟨p, 0, none⟩), .int .i64 k] w fun e w' => e = .returned (.tuple #[Value.string (v r), .int .i64 0]) ∧
    ∃ m', m ≤ m' ∧ m' ≤ l ∧ (∀ j, m < j → j ≤ m' → upd o r false (j % n) = false) ∧ (m' = l ∨ upd o r false ((m' + 1) % n) = true) ∧ RWS w' p g n c (upd o r false) (upd v r ⟨#[]⟩) m' l ∧ Fr (fun k => k = p ∨ k = g) w w' := by
  have hf := findYesS w p g n c o v m l h k r h1 h2 hr ho
  have hpos := h.pos
  have hle := h.le
  have hfar := h.far
  have hrn : r < n := by rw [← hr]; exact Nat.mod_lt _ (by omega)
  have dN := fun j => (h.drewN j).r1 hrn
  have H := Lib.hid h
  clear h hr ho
  obtain ⟨o', ho'⟩ : ∃ o', upd o r false = o' := ⟨_, rfl⟩
  obtain ⟨v', hv'⟩ : ∃ v', upd v r ⟨#[]⟩ = v' := ⟨_, rfl⟩
  obtain ⟨vr, hvr⟩ : ∃ vr, v r = vr := ⟨_, rfl⟩
  simp only [ho', hv', hvr]
  simp only [hvr] at dN
  have HO := Lib.hid ho'
  have HV := Lib.hid hv'
  clear ho' hv' hvr
  go_enter Try.func28, Try.ntmps28
  go_wp2
  go_step3
  go_wp2_with (go_at_call 45; refine hf.mono ?_; clear hf; rintro e w' ⟨rfl, j, rfl⟩; have dj := dN j; have h1 := H.out.drewN j; have d0 := h1.r0 hrn; have g0 := h1.frz (r * 2); have g1 := h1.frz (r * 2 + 1); have h2 := h1.put r false ⟨#[]⟩; have f2 : Fr (fun k => k = p ∨ k = g) w (((w.drewN j).setCell ⟨g, r * 2, none⟩ (.bool false)).setCell ⟨g, r * 2 + 1, none⟩ (Value.string ⟨#[]⟩)) := (((Fr.refl (fun k => k = p ∨ k = g) w).drewN j).setCell (p := ⟨g, r * 2, none⟩) (fun _ => .inr rfl) _).setCell (p := ⟨g, r * 2 + 1, none⟩) (fun _ => .inr rfl) _; obtain ⟨w2, hw2⟩ : ∃ w2, ((w.drewN j).setCell ⟨g, r * 2, none⟩ (.bool false)).setCell ⟨g, r * 2 + 1, none⟩ (Value.string ⟨#[]⟩) = w2 := ⟨_, rfl⟩; rw [hw2] at h2 f2)
  go_step3
  go_wp2
  clear hw2 h1 dj d0 g0 g1 dN H
  rw [HO.out, HV.out] at h2
  have H3 := Lib.hid (And.intro h2 f2)
  clear h2 f2
  go_loopg [] (l - m) (fun gk wr => ∃ q, gk = l - q ∧ m ≤ q ∧ q ≤ l ∧ Hid (∀ j, m < j → j ≤ q → o' (j % n) = false) ∧ Hid (RWS wr p g n c o' v' q l ∧ Fr (fun k => k = p ∨ k = g) w wr))
  case atStart => exact ⟨m, rfl, Nat.le_refl _, hle, Lib.hid (fun j a b => by omega), H3⟩
  case round =>
    clear H3
    obtain ⟨q, rfl, hq1, hq2, hall, hW⟩ := hrel
    have e1 := hW.out.1.c1
    have e2 := hW.out.1.c2
    by_cases hlt : q < l
    · have x1 : (q : Int) < (l : Int) := by omega
      obtain ⟨q2, hq3⟩ : ∃ q2, q + 1 = q2 := ⟨_, rfl⟩
      have u1 : IntKind.i64.wrap ((q : Int) + 1) = (q2 : Int) := by rw [IntWalk.i64_in _ (by omega)]; omega
      obtain ⟨s, hs⟩ : ∃ s, q2 % n = s := ⟨_, rfl⟩
      have hsn : s < n := by rw [← hs]; exact Nat.mod_lt _ (by omega)
      have ha := fun j => atS (wr.drewN j) p g n c o' v' q l (hW.out.1.drewN j) q2 s hs (by omega)
      have dN := fun j => (hW.out.1.drewN j).r0 hsn
      have c1N := fun j => (hW.out.1.drewN j).c1
      have HS := Lib.hid hs
      cases hb : o' s with
      | true =>
        simp only [hb] at dN
        have HB := Lib.hid hb
        clear hs hb
        go_wp2
        go_quiet (fail)
        go_wp2_with (go_at_call 44; refine (ha _).mono ?_; clear ha; rintro e w' ⟨rfl, j2, rfl⟩)
        try simp (config := { zetaDelta := true }) only [Exit.noGoto, Exit.then, Exit.inBlock]
        go_ret2
        exact ⟨rfl, q, hq1, hq2, hall.out, .inr (by rw [hq3, HS.out]; exact HB.out), hW.out.1.drewN _, hW.out.2.drewN _⟩
      | false =>
        simp only [hb] at dN
        have HB := Lib.hid hb
        clear hs hb
        have gN := fun j => (hW.out.1.drewN j).win.frozen 1
        have hnx : ∀ j, RWS ((wr.drewN j).setCell ⟨p, 1, none⟩ (.int .i64 q2)) p g n c o' v' q2 l ∧ Fr (fun k => k = p ∨ k = g) w ((wr.drewN j).setCell ⟨p, 1, none⟩ (.int .i64 q2)) :=
          fun j => ⟨(hW.out.1.drewN j).mark (m' := q2) (by omega) (by omega), (hW.out.2.drewN j).setCell (p := ⟨p, 1, none⟩) (fun _ => .inl rfl) _⟩
        have HN := Lib.hid hnx
        clear hnx
        go_wp2
        go_quiet (fail)
        go_wp2_with (go_at_call 44; refine (ha _).mono ?_; clear ha; rintro e w' ⟨rfl, j2, rfl⟩)
        go_roundg (l - q2)
        case measure => omega
        case rel =>
          refine ⟨q2, rfl, by omega, by omega, Lib.hid (fun j a b => ?_), Lib.hid (HN.out _)⟩
          by_cases hj : j ≤ q
          · exact hall.out j a hj
          · obtain rfl : j = q2 := by omega
            rw [HS.out]; exact HB.out
    · have x1 : ¬ (q : Int) < (l : Int) := by omega
      go_wp2
      go_quiet (fail)
      go_wp2
      try simp (config := { zetaDelta := true }) only [Exit.noGoto, Exit.then, Exit.inBlock]
      go_ret2
      exact ⟨rfl, q, hq1, hq2, hall.out, .inl (by omega), hW.out.1.drewN _, hW.out.2.drewN _⟩
end
end Go.Proofs.Ytmdohddiddlpiaa
