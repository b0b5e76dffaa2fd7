/- The plain law of wicketlaw01.WireBack: what is read of what was written. Conditions: those that each states. -/
import Derived.Test.YtpnagblbhlglhaaWireLaw
import Derived.Test.YtpnagblbhlglhaaWireFlag
namespace Go.Proofs.Ytpnagblbhlglhaa

/-- All that was written, in its order. -/
structure Back (N : Nat) (S : Int) (F : Bool) (n0 : Nat) (bs LL : List Nat) (k1 k2 k3 : Nat) : Prop where
  small : Small LL
  len : LL.length = k1 + k2 + k3 + n0 + 1
  le : k1 ≤ 10 ∧ k2 ≤ 10 ∧ k3 ≤ 10
  p1 : rdV LL = N ∧ rdK LL = k1 ∧ rdE LL = 0
  p2 : rdV (LL.drop k1) = zig S ∧ rdK (LL.drop k1) = k2 ∧ rdE (LL.drop k1) = 0
  p3 : rdV (LL.drop (k1 + k2)) = n0 ∧ rdK (LL.drop (k1 + k2)) = k3
  p4 : bytE LL (k1 + k2) n0 = 0
  p5 : (LL.drop (k1 + k2 + k3)).take n0 = bs
  p6 : flagE (LL.drop (k1 + k2 + k3 + n0)) = 0 ∧ flagV (LL.drop (k1 + k2 + k3 + n0)) = F

theorem back_of (N : Nat) (S : Int) (F : Bool) (n0 : Nat) (bs : List Nat) (hN : N < 18446744073709551616) (hz : zig S < 18446744073709551616) (hl : bs.length = n0) (hn : n0 < 18446744073709551616) (hs : Small bs) (hf : Small (flagF F)) (hfl : (flagF F).length = 1) :
    Back N S F n0 bs (numF N ++ (numF (zig S) ++ ((numF n0 ++ bs) ++ flagF F))) (numF N).length (numF (zig S)).length (numF n0).length := by
  have d1 : (numF N ++ (numF (zig S) ++ ((numF n0 ++ bs) ++ flagF F))).drop (numF N).length = numF (zig S) ++ ((numF n0 ++ bs) ++ flagF F) := List.drop_left
  have d2 : (numF N ++ (numF (zig S) ++ ((numF n0 ++ bs) ++ flagF F))).drop ((numF N).length + (numF (zig S)).length) = numF n0 ++ (bs ++ flagF F) := by
    rw [← List.drop_drop, d1, List.drop_left, List.append_assoc]
  have d3 : (numF N ++ (numF (zig S) ++ ((numF n0 ++ bs) ++ flagF F))).drop ((numF N).length + (numF (zig S)).length + (numF n0).length) = bs ++ flagF F := by
    rw [← List.drop_drop, d2, List.drop_left]
  have d4 : (numF N ++ (numF (zig S) ++ ((numF n0 ++ bs) ++ flagF F))).drop ((numF N).length + (numF (zig S)).length + (numF n0).length + n0) = flagF F := by
    rw [← List.drop_drop, d3, ← hl, List.drop_left]
  have hlen : (numF N ++ (numF (zig S) ++ ((numF n0 ++ bs) ++ flagF F))).length = (numF N).length + (numF (zig S)).length + (numF n0).length + n0 + 1 := by
    simp only [List.length_append, hl, hfl]; omega
  have r1 := rd_form N (numF (zig S) ++ ((numF n0 ++ bs) ++ flagF F)) hN
  have r2 := rd_form (zig S) ((numF n0 ++ bs) ++ flagF F) hz
  have r3 := rd_form n0 (bs ++ flagF F) hn
  refine ⟨?_, hlen, ⟨numF_le _ hN, numF_le _ hz, numF_le _ hn⟩, r1, by rw [d1]; exact r2, by rw [d2]; exact ⟨r3.1, r3.2.1⟩, ?_, by rw [d3, ← hl]; exact List.take_left, ?_⟩
  · exact (numF_small N).append ((numF_small _).append (((numF_small n0).append hs).append hf))
  · unfold bytE cntE
    rw [hlen, d2, r3.1, r3.2.1, r3.2.2]
    have h1 : ¬ n0 < n0 := Nat.lt_irrefl _
    have h2 : ¬ (numF N).length + (numF (zig S)).length + (numF n0).length + n0 + 1 - ((numF N).length + (numF (zig S)).length + (numF n0).length) < n0 := by omega
    simp only [h1, h2, if_true, if_false]
  · rw [d4]
    cases F <;> exact ⟨rfl, rfl⟩

/-- What bytes are read as is written as they were; a byte less ends within it. -/
structure WireRead (b : List Nat) (V K : Nat) (y : List Nat) : Prop where
  v : rdV b = V
  k : rdK b = K
  form : (numF V).length = K
  ylen : y.length = V
  yes : (b.drop K).take V = y
  le : K + V ≤ b.length
  pos : 1 ≤ K
  back : numF V ++ y = b.take (K + V)
  short : bytE ((numF V ++ y).take (K + V - 1)) 0 b.length = 4
  ysmall : Small y
theorem read_of (b : List Nat) (hs : Small b) (hn : b.length < 18446744073709551616) (h : bytE b 0 b.length = 0) : ∃ V K y, WireRead b V K y := by
  unfold bytE at h
  rw [Nat.zero_add, List.drop_zero] at h
  have hc0 : cntE b b.length = 0 := by
    by_cases h0 : cntE b b.length = 0
    · exact h0
    · rw [if_neg h0] at h; exact absurd h h0
  rw [if_pos hc0] at h
  have hle : rdV b ≤ b.length - rdK b := by
    by_cases h0 : b.length - rdK b < rdV b
    · rw [if_pos h0] at h; cases h
    · omega
  have hE : rdE b = 0 := by
    unfold cntE at hc0
    by_cases h0 : rdE b = 0
    · exact h0
    · rw [if_neg h0] at hc0; cases hc0
  obtain ⟨rest, hb, hk⟩ := rd_back hs hE
  have hp := numF_pos (rdV b)
  have hkl : rdK b ≤ b.length := by
    have := congrArg List.length hb
    rw [List.length_append] at this
    omega
  obtain ⟨V, hV⟩ : ∃ V, rdV b = V := ⟨_, rfl⟩
  obtain ⟨K, hK⟩ : ∃ K, rdK b = K := ⟨_, rfl⟩
  rw [hV] at hb hk hp hle
  rw [hK] at hk hkl hle
  have hdrop : b.drop K = rest := by rw [hb, hk, List.drop_left]
  have hrl : rest.length = b.length - K := by rw [← hdrop, List.length_drop]
  have hyl : (rest.take V).length = V := by rw [List.length_take]; omega
  refine ⟨V, K, rest.take V, ⟨hV, hK, hk.symm, hyl, by rw [hdrop], by omega, by omega, ?_, ?_, ?_⟩⟩
  · rw [hk]
    conv => rhs; arg 2; rw [hb]
    exact (List.take_length_add_append V).symm
  · rcases Nat.eq_zero_or_pos V with h0 | h0
    · subst h0
      have : (numF 0 ++ rest.take 0).take (K + 0 - 1) = [] := by
        rw [hk, numF_low (by omega)]
        rfl
      rw [this]
      rfl
    · have e : (numF V ++ rest.take V).take (K + V - 1) = numF V ++ (rest.take V).take (V - 1) := by
        rw [show K + V - 1 = (numF V).length + (V - 1) by omega]
        exact List.take_length_add_append (V - 1)
      rw [e]
      have r := rd_form V ((rest.take V).take (V - 1)) (by omega)
      unfold bytE cntE
      rw [Nat.zero_add, List.drop_zero, r.1, r.2.1, r.2.2]
      have h1 : ¬ b.length < V := by omega
      have h2 : (numF V ++ (rest.take V).take (V - 1)).length - (numF V).length < V := by
        rw [List.length_append, List.length_take, hyl]; omega
      simp only [h1, h2, if_true, if_false]
  · have : Small rest := by rw [← hdrop]; exact hs.drop K
    exact this.take V

end Go.Proofs.Ytpnagblbhlglhaa
