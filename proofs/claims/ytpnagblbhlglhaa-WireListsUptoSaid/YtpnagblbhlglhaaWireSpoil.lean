/- spoil: what was told is written over and grown. Conditions: those that it states. -/
import Derived.Test.YtpnagblbhlglhaaWireForms
namespace Go.Proofs.Ytpnagblbhlglhaa
open Go.RowKit

set_option maxHeartbeats 1000000 in
set_option maxRecDepth 100000 in
theorem spoil_any (w : World) (base : Nat) (A : Option Addr) (n c : Nat) (bs : List Nat) (h : w.ownsRow base 5 1 (.slice A n c) n (byts bs)) (hbase : base ≤ w.heap.size) (hn : n ≤ 140737488355318) :
    Calls Try.prog 32 #[.slice A n c] w fun e w' => e = .returned (.tuple #[]) ∧ Fr (fun k => blkOf A = some k) w w' := by
  obtain ⟨i0, hi, hz0, hz1, hz2⟩ := info_parts Try.info5w
  go_enter Try.func32, Try.ntmps32
  go_wp2
  go_loopw [2] (fun iv wr => ∃ (k : Nat) (bs : List Nat), k ≤ n ∧ iv = .int .i64 k ∧ wr.ownsRow base 5 1 (.slice A n c) n (byts bs) ∧ Fr (fun k => blkOf A = some k) w wr) (fun iv _ => n - (intOf iv).toNat)
  case atStart => exact ⟨0, bs, by omega, rfl, h, Fr.refl _ _⟩
  case round =>
    clear h
    obtain ⟨k, bs, hk, rfl, h, hf⟩ := hrel
    have k0 : (0 : Int) ≤ (k : Int) := by omega
    by_cases hlt : k < n
    · have k1 : (k : Int) < (n : Int) := by omega
      obtain ⟨g, rfl, hgb, _, hcell, hfr, hst⟩ := own_open h (by omega)
      have hlen : bs.length = n := by have := h.1; rw [byts_length] at this; omega
      have cj := hcell k (.int .u8 (bs[k]'(by omega) : Nat)) (by simp [byts, show k < bs.length by omega])
      have fj := hfr k
      have hs2 := hst k (.int .u8 ((90 : Nat) : Int)) hlt
      have hset : (byts bs).set k (.int .u8 ((90 : Nat) : Int)) = byts (bs.set k 90) := by simp [byts, List.map_set]
      rw [hset] at hs2
      have hf2 : Fr (fun k => blkOf (some (⟨g, 0, none⟩ : Addr)) = some k) w (wr.setCell ⟨g, k, none⟩ (.int .u8 ((90 : Nat) : Int))) := hf.setCell (p := ⟨g, k, none⟩) (fun _ => rfl) _
      have HS := Lib.hid (And.intro hs2 hf2)
      clear hset hst hcell hfr hs2 hf2
      go_wp2
      go_roundw
      case rel => exact ⟨k + 1, bs.set k 90, by omega, by go_num, HS.out.1, HS.out.2⟩
      case measure => simp [intOf]; omega
    · have hszr := hf.size
      go_wp2
      obtain ⟨wo, rfl⟩ : ∃ wo : World, wo = wr := ⟨_, rfl⟩
      go_loopw [0, 3] (fun sv iv wr => ∃ (i : Nat) (bs : List Nat) (A2 : Option Addr) (n2 c2 : Nat), i ≤ 9 ∧ iv = .int .i64 i ∧ sv = .slice A2 n2 c2 ∧ n2 = n + i ∧ wr.ownsRow base 5 1 (.slice A2 n2 c2) n2 (byts bs) ∧ (∀ k, blkOf A2 = some k → blkOf A = some k ∨ w.heap.size ≤ k) ∧ Fr (fun k => blkOf A = some k) w wr) (fun _ iv _ => 9 - (intOf iv).toNat)
      case atStart => exact ⟨0, bs, A, n, c, by omega, rfl, rfl, rfl, h, fun _ h => .inl h, hf⟩
      case round =>
        clear h hf hszr
        obtain ⟨i, bs, A2, n2, c2, hi9, rfl, rfl, rfl, h, hA, hf⟩ := hrel
        have hszr := hf.size
        by_cases hlt : i < 9
        · have k1 : (i : Int) < 9 := by omega
          have ho' := h.alloc (.cells #[.int .u8 ((91 : Nat) : Int)] 5)
          have hr1 := reads_one wr 91
          go_wp2_with (at_builtin; refine wpList_append_any _ rfl _ _ 24 rfl base 5 i0 (.int .u8 0) 1 1 Try.underlying24 hi hz0 hz1 hz2 rfl (by decide) _ _ _ rfl ho' _ _ 1 _ _ rfl hr1 ?c1 ?c2 ?c3 ?c4 ?_)
          case c1 => exact byts_one _
          case c2 => unfold maxLen; omega
          case c3 => omega
          case c4 => first | omega | (simp; omega)
          intro v2 w2 ho2 hg2 hat
          obtain ⟨A3, c3, rfl⟩ := own_shape ho2
          go_wp2
          go_roundw
          case rel =>
            refine ⟨i + 1, bs ++ [91], A3, _, c3, by omega, by go_num, rfl, by omega, ?_, ?_, ?_⟩
            · rw [byts_append]; exact ho2
            · intro k hk
              rcases own_at hat k hk with h1 | h1
              · exact hA k h1
              · right; first | omega | (simp at h1; omega)
            · refine (hf.trans (Fr.of_new ((Below.refl _ wr).alloc (Nat.le_refl _) (.cells #[.int .u8 ((91 : Nat) : Int)] 5))) (S' := noB) (fun _ _ h => h.elim)).trans (Fr.of_grown (S := fun k => blkOf A2 = some k) hg2 (fun k hk => by rw [ownBlock_slice] at hk; exact hk)) ?_
              intro k hk h1
              rcases hA k h1 with h2 | h2
              · exact h2
              · omega
          case measure => simp [intOf]; omega
        · go_wp2
          go_end0
          exact ⟨rfl, hf⟩

end Go.Proofs.Ytpnagblbhlglhaa
