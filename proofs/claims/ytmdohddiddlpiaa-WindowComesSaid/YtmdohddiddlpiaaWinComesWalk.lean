/- The walk of wicketlaw17.WindowComes. Conditions: those that it states. -/
import Derived.Test.YtmdohddiddlpiaaWinEmptied
namespace Go.Proofs.Ytmdohddiddlpiaa
open Go.RowKit

def intsV (l : List Int) : List Value := l.map (Value.int .i64)

/-- Give, in both its ways. -/
theorem giveAny (n m l : Nat) (o : Nat → Bool) (v : Nat → Int) (x : Int) (p g c : Nat) (hl : l ≤ m + n) (hf : l < 1000000) (ht : m = l ∨ o ((m + 1) % n) = true) :
    ∃ (N E : Int) (o1 : Nat → Bool) (v1 : Nat → Int) (l1 : Nat), (E = 0 ∧ N = (l : Int) + 1 ∧ l1 = l + 1 ∨ E = 7 ∧ N = 0 ∧ l1 = l) ∧ (m = l1 ∨ o1 ((m + 1) % n) = true) ∧
      ∀ W, RWI W p g n c o v m l → Calls Try.prog 9 #[.pointer (some ⟨p, 0, none⟩), .int .i64 x] W fun e w' => e = .returned (.tuple #[.int .i64 N, .int .i64 E]) ∧ RWI w' p g n c o1 v1 m l1 ∧ Fr (fun k => k = p ∨ k = g) W w' := by
  by_cases h : l = m + n
  · refine ⟨0, 7, o, v, l, .inr ⟨rfl, rfl, rfl⟩, ht, fun W hW => (giveFullI W p g n c o v m l hW x h).mono ?_⟩
    rintro e w' ⟨rfl, j, rfl⟩
    exact ⟨rfl, hW.drewN j, (Fr.refl _ _).drewN j⟩
  · refine ⟨(l : Int) + 1, 0, _, _, l + 1, .inl ⟨rfl, rfl, rfl⟩, ?_, fun W hW => giveI W p g n c o v m l hW x (by omega) hf⟩
    rcases ht with rfl | ht
    · exact .inr (upd_same _ _ _)
    · right
      unfold upd
      split
      · rfl
      · exact ht
/-- Back, in both its ways. -/
theorem backAny (n m l : Nat) (o : Nat → Bool) (v : Nat → Int) (k : Nat) (p g c : Nat) (ht : m = l ∨ o ((m + 1) % n) = true) :
    ∃ F : Int, (F = 0 ∨ F = 5) ∧ ∀ W, RWI W p g n c o v m l → Calls Try.prog 12 #[.pointer (some ⟨p, 0, none⟩), .int .i64 (k : Int)] W fun e w' => ∃ X : Int, e = .returned (.tuple #[.int .i64 X, .int .i64 F]) ∧
      ∃ o2 v2 m2, m ≤ m2 ∧ (m2 = l ∨ o2 ((m2 + 1) % n) = true) ∧ RWI w' p g n c o2 v2 m2 l ∧ Fr (fun k => k = p ∨ k = g) W w' := by
  by_cases h : IsOut n o m l (k : Int)
  · refine ⟨0, .inl rfl, fun W hW => (backYesI W p g n c o v m l hW k (k % n) (by have := h.1; omega) (by have := h.2.1; omega) rfl (by have := h.2.2; simpa using this)).mono ?_⟩
    rintro e w' ⟨rfl, m', a, b, _, t, hR, hF⟩
    exact ⟨_, rfl, _, _, m', a, t, hR, hF⟩
  · refine ⟨5, .inr rfl, fun W hW => (backNoI W p g n c o v m l hW _ h).mono ?_⟩
    rintro e w' ⟨rfl, j, rfl⟩
    exact ⟨_, rfl, o, v, m, Nat.le_refl _, ht, hW.drewN j, (Fr.refl _ _).drewN j⟩

set_option maxHeartbeats 4000000 in
set_option maxRecDepth 100000 in
theorem windowComes_walk (w : World) (z : Int) (A1 : Option Addr) (n1 c1 : Nat) (zs : List Int) (h1 : Reads w w.heap.size 1 A1 n1 (intsV zs)) (hn1 : n1 ≤ 9223372036854775807) (hzs : ∀ x ∈ zs, x ≤ 9223372036854775807) :
    Calls Try.prog 3 #[.int .i64 z, .slice A1 n1 c1] w fun e w' => e = .returned (.bool true) ∧ Below w.heap.size w w' := by
  have hk := knownWin w
  have hzl : zs.length = n1 := by have := h1.1; simp [intsV] at this; omega
  by_cases hz : 1 ≤ z ∧ z ≤ 64
  · obtain ⟨n, rfl⟩ : ∃ n : Nat, z = n := ⟨z.toNat, by omega⟩
    have p1 : 1 ≤ n := by omega
    have p64 : n ≤ 64 := by omega
    have HZ := Lib.hid hzl
    clear hzl hz
    go_enter Try.func3, Try.ntmps3
    go_wp2_with (first
      | (go_at_call 6; refine hk.mono ?_; clear hk; rintro e w1 ⟨rfl, b1⟩; have hnw := newYesI w1 n p1 p64)
      | (go_at_call 7; refine hnw.mono ?_; clear hnw; rintro e w2 ⟨p, rfl, g, hR, hp, hg, b2⟩))
    have b3 : Below w.heap.size w w2 := b1.trans (b2.mono b1.size)
    have hps : w.heap.size ≤ p := Nat.le_trans b1.size hp
    have hgs : w.heap.size ≤ g := Nat.le_trans b1.size hg
    clear b1 b2 hp hg
    go_loopw [7, 8] (fun mv iv wr => ∃ (i m l : Nat) (o : Nat → Bool) (v : Nat → Int), i ≤ n1 ∧ i ≤ 200 ∧ iv = .int .i64 i ∧ mv = .int .i64 m ∧ l ≤ i ∧ Hid (m = l ∨ o ((m + 1) % n) = true) ∧ RWI wr p g n n o v m l ∧ Below w.heap.size w wr) (fun _ iv _ => n1 - (intOf iv).toNat)
    case atStart => exact ⟨0, 0, 0, _, _, by omega, by omega, rfl, rfl, by omega, Lib.hid (.inl rfl), hR, b3⟩
    case round =>
      clear hR b3
      obtain ⟨i, m, l, o, v, hi1, hi2, rfl, rfl, hli, hT, hR, hB⟩ := hrel
      have hle := hR.le
      have hsp := hR.span
      by_cases hlt : i < n1 ∧ i < 200
      · obtain ⟨hlt1, hlt2⟩ := hlt
        have y1 : (i : Int) < (n1 : Int) := by omega
        have y2 : (i : Int) < 200 := by omega
        have y3 : (0 : Int) ≤ (i : Int) := by omega
        obtain ⟨N, E, o1, v1, l1, hE, ht1, cg⟩ := giveAny n m l o v (i : Int) p g n hsp (by omega) hT.out
        have hi' : i < zs.length := by have := HZ.out; omega
        obtain ⟨ad, u, rfl, hab, hu, hcell⟩ := h1.at_ hlt1
        obtain ⟨x, hx⟩ : ∃ x, zs[i] = x := ⟨_, rfl⟩
        obtain rfl : u = .int .i64 x := by simp [intsV, hi', hx] at hu; exact hu.symm
        have hxb : x ≤ 9223372036854775807 := by rw [← hx]; exact hzs _ (List.getElem_mem _)
        have cN := fun (W : World) (hb : Below w.heap.size w W) => (hb.cell (p := ad.add i) (by rw [block_of_add]; exact hab)).trans hcell
        -- the number that is given back
        obtain ⟨kk, hkk, hk3⟩ : ∃ kk : Nat, (if 0 < x then (m : Int) + 1 + x % (n : Int) else (m : Int) + 1) = (kk : Int) ∧ kk ≤ 1000 := by
          have := Int.emod_nonneg x (show (n : Int) ≠ 0 by omega)
          have := Int.emod_lt_of_pos x (show (0 : Int) < (n : Int) by omega)
          refine ⟨(if 0 < x then (m : Int) + 1 + x % (n : Int) else (m : Int) + 1).toNat, ?_, ?_⟩ <;> split <;> omega
        obtain ⟨F, hF, cb⟩ := backAny n m l1 o1 v1 kk p g n ht1
        have cg' := cg wr hR
        clear hu hx cg hcell hT ht1
        have em0 := Int.emod_nonneg x (show (n : Int) ≠ 0 by omega)
        have em1 := Int.emod_lt_of_pos x (show (0 : Int) < (n : Int) by omega)
        have nz : ((n : Int) == 0) = false := by rw [beq_eq_false_iff_ne]; omega
        have nz2 : ¬ (n : Int) = 0 := by omega
        have hBW : ∀ W, Fr (fun k => k = p ∨ k = g) wr W → Below w.heap.size w W := fun W hf => hB.trans (hf.below (fun k hk => by rcases hk with rfl | rfl <;> assumption) hB.size)
        have HB := Lib.hid hBW
        clear hBW
        by_cases hx0 : 0 < x
        all_goals first | rw [if_pos hx0] at hkk | rw [if_neg hx0] at hkk
        all_goals rcases hE with ⟨rfl, rfl, hl1⟩ | ⟨rfl, rfl, rfl⟩
        all_goals try (have hl1a : l1 ≤ l + 1 := (by omega); have hl1b : l + 1 ≤ l1 := (by omega); clear hl1)
        all_goals rcases hF with rfl | rfl
        all_goals
          go_wp2_with (first
            | (go_at_call 8; refine (lastI _ p g n n _ _ _ _ (by assumption)).mono ?_; rintro e w' ⟨rfl, rfl⟩)
            | (go_at_call 9; refine cg'.mono ?_; clear cg'; rintro e w4 ⟨rfl, h4, f4⟩; have b4 := HB.out _ f4; have e4 := cN _ b4; have hl4 := h4.le; clear hR)
            | (go_at_call 10; refine (num_any _ _).mono ?_; rintro e w' ⟨rfl, rfl⟩)
            | (go_at_call 11; refine (markI _ p g n n _ _ _ _ (by assumption)).mono ?_; rintro e w' ⟨rfl, rfl⟩)
            | (go_at_call 12; refine (cb _ h4).mono ?_; clear cb; rintro e w5 ⟨X, rfl, o2, v2, m2, q1, ht2, h5, f5⟩; clear h4 e4; have b5 := f4.trans' f5; have hl5 := h5.le; have hs5 := h5.span; have q2 : ¬ (m2 : Int) < (m : Int) := (by omega); have q3 : ∀ y : Nat, m2 ≤ y → ¬ (y : Int) < (m2 : Int) := (fun y hy => by omega); have q4 : ∀ y : Nat, y ≤ m2 + n → ¬ (n : Int) < (y : Int) - (m2 : Int) := (fun y hy => by omega); replace q3 := q3 _ hl5; replace q4 := q4 _ hs5)
            | (go_at_call 13; have hrm := roomI _ p g n n _ _ _ _ h5; have dd : ∀ y : Nat, m2 ≤ y → y ≤ m2 + n → (n : Int) - ((y : Int) - (m2 : Int)) = ((n + m2 - y : Nat) : Int) := (fun y h1 h2 => by omega); replace dd := dd _ hl5 hs5; generalize hdd : n + m2 - _ = d at hrm dd; clear hdd; refine hrm.mono ?_; clear hrm; rintro e w6 ⟨rfl, j, rfl⟩; have h6 := h5.drewN j; have b6 := b5.drewN j; clear h5 b5))
          go_roundw
          case rel => exact ⟨i + 1, m2, _, o2, v2, by omega, by omega, by go_num, rfl, by omega, Lib.hid ht2, h6, HB.out _ b6⟩
          case measure => simp [intOf]; omega
      · have hem := emptied_any wr p g n n o v m l hR hT.out
        by_cases hl1 : i < n1
        · have y1 : (i : Int) < (n1 : Int) := by omega
          have y2 : ¬ (i : Int) < 200 := by omega
          go_wp2_with (go_at_call 14; refine hem.mono ?_; clear hem; rintro e w4 ⟨rfl, f4⟩)
          go_ret
          exact ⟨rfl, hB.trans (f4.below (fun k hk => by rcases hk with rfl | rfl <;> assumption) hB.size)⟩
        · have y1 : ¬ (i : Int) < (n1 : Int) := by omega
          go_wp2_with (go_at_call 14; refine hem.mono ?_; clear hem; rintro e w4 ⟨rfl, f4⟩)
          go_ret
          exact ⟨rfl, hB.trans (f4.below (fun k hk => by rcases hk with rfl | rfl <;> assumption) hB.size)⟩
  · have hz2 : z < 1 ∨ 64 < z := by omega
    rcases hz2 with q1 | q1
    · go_enter Try.func3, Try.ntmps3
      go_wp2_with (first
        | (go_at_call 6; refine hk.mono ?_; clear hk; rintro e w1 ⟨rfl, b1⟩)
        | (go_at_call 7; refine (newNoI _ z (.inl q1)).mono ?_; rintro e w2 ⟨rfl, rfl⟩))
      go_ret
      exact ⟨rfl, b1⟩
    · have q2 : ¬ z < 1 := by omega
      go_enter Try.func3, Try.ntmps3
      go_wp2_with (first
        | (go_at_call 6; refine hk.mono ?_; clear hk; rintro e w1 ⟨rfl, b1⟩)
        | (go_at_call 7; refine (newNoI _ z (.inr q1)).mono ?_; rintro e w2 ⟨rfl, rfl⟩))
      go_ret
      exact ⟨rfl, b1⟩
end Go.Proofs.Ytmdohddiddlpiaa
