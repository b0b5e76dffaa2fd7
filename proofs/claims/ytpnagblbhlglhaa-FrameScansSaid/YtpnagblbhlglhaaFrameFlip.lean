/- A frame with one bit other is none: plain facts. Conditions: those that each states. -/
import Derived.Test.YtpnagblbhlglhaaFrameMath
import Derived.Test.YtpnagblbhlglhaaCrcTellMath
namespace Go.Proofs.Ytpnagblbhlglhaa
open Go.RowKit

theorem flipB_left (l m : List Nat) (k : Nat) (h : k < 8 * l.length) : flipB (l ++ m) k = flipB l k ++ m := by
  have h1 : k / 8 < l.length := by omega
  rw [flipB_set _ _ (by rw [List.length_append]; omega), flipB_set _ _ h1, List.set_append_left _ _ h1, List.getElem_append_left h1]
theorem flipB_right (l m : List Nat) (k : Nat) (h : 8 * l.length ≤ k) (h2 : k < 8 * (l.length + m.length)) : flipB (l ++ m) k = l ++ flipB m (k - 8 * l.length) := by
  have h1 : l.length ≤ k / 8 := by omega
  have e1 : (k - 8 * l.length) / 8 = k / 8 - l.length := by omega
  have e2 : (k - 8 * l.length) % 8 = k % 8 := by omega
  rw [flipB_set _ _ (by rw [List.length_append]; omega), flipB_set m _ (by omega), List.set_append_right _ _ h1, List.getElem_append_right h1, e2]
  simp only [e1]
theorem flipB_ne (l : List Nat) (k : Nat) (h : k < 8 * l.length) : flipB l k ≠ l := fun e => by
  have := par_flip l k h
  rw [e] at this
  revert this
  cases parL l <;> decide
theorem crc_flip {l : List Nat} (hs : Small l) (k : Nat) (h : k < 8 * l.length) : crcSum (flipB l k) ≠ crcSum l := odd_sums hs (flipB_small hs k) (par_flip l k h)

theorem list4 {s : List Nat} (h : s.length = 4) : ∃ a b c d, s = [a, b, c, d] := by
  match s, h with
  | [a, b, c, d], _ => exact ⟨a, b, c, d, rfl⟩
theorem list5 {s : List Nat} (h : s.length = 5) : ∃ a b c d e, s = [a, b, c, d, e] := by
  match s, h with
  | [a, b, c, d, e], _ => exact ⟨a, b, c, d, e, rfl⟩
/-- The sum that stands in four bytes. -/
def sum4 (s : List Nat) : Nat := num4 (s.getD 0 0) (s.getD 1 0) (s.getD 2 0) (s.getD 3 0)
theorem bgS_mid {h s : List Nat} (b : List Nat) (h5 : h.length = 5) (h4 : s.length = 4) : bgS (h ++ s ++ b) = sum4 s := by
  obtain ⟨a1, a2, a3, a4, a5, rfl⟩ := list5 h5
  obtain ⟨s1, s2, s3, s4, rfl⟩ := list4 h4
  rfl
theorem sum4_inj {s t : List Nat} (hs : s.length = 4) (ht : t.length = 4) (ss : Small s) (st : Small t) (h : sum4 s = sum4 t) : s = t := by
  obtain ⟨a, b, c, d, rfl⟩ := list4 hs
  obtain ⟨a', b', c', d', rfl⟩ := list4 ht
  have h1 : num4 a b c d = num4 a' b' c' d' := h
  have e1 := word4_num4 a b c d (ss a (by simp)) (ss b (by simp)) (ss c (by simp)) (ss d (by simp))
  have e2 := word4_num4 a' b' c' d' (st a' (by simp)) (st b' (by simp)) (st c' (by simp)) (st d' (by simp))
  rw [← e1, ← e2, h1]
/-- What One asks of three parts. -/
theorem one_parts {h s b : List Nat} (h5 : h.length = 5) (h4 : s.length = 4) (hE : beginE (h ++ s ++ b) = 0) (hn : 9 + bgN (h ++ s ++ b) = (h ++ s ++ b).length) : crcSum (h ++ b) = sum4 s := by
  have hl : (h ++ s ++ b).length = 9 + b.length := by rw [List.length_append, List.length_append, h5, h4]
  rw [hl] at hn
  have hbn : bgN (h ++ s ++ b) = b.length := by omega
  have hbig : ¬ 2147483647 < bgN (h ++ s ++ b) := by
    intro hbig
    unfold beginE at hE
    rw [if_neg (by omega), if_pos hbig] at hE
    cases hE
  rw [beginE_eq (by omega) (by omega) (by omega), bgS_mid b h5 h4] at hE
  have e1 : (h ++ s ++ b).take 5 = h := by rw [List.append_assoc, ← h5, List.take_left]
  have e2 : bodyN (h ++ s ++ b) = b := by
    unfold bodyN
    rw [hbn, ← show (h ++ s).length = 9 by rw [List.length_append, h5, h4], List.drop_left, List.take_length]
  rw [e1, e2] at hE
  by_cases h : crcSum (h ++ b) = sum4 s
  · exact h
  · rw [if_neg h] at hE; cases hE
theorem small_append {l m : List Nat} (hl : Small l) (hm : Small m) : Small (l ++ m) := fun c hc => (List.mem_append.1 hc).elim (hl c) (hm c)
theorem flip_none (k : Nat) (b : List Nat) (hk : k < 256) (hs : Small b) (j : Nat) (hj : j < 8 * (9 + b.length)) : ¬ (beginE (flipB (frameN k b) j) = 0 ∧ 9 + bgN (flipB (frameN k b) j) = (flipB (frameN k b) j).length) := by
  rintro ⟨hE, hn⟩
  obtain ⟨S, hS⟩ : ∃ S, crcSum (headN k b.length ++ b) = S := ⟨_, rfl⟩
  have hSl : S < 4294967296 := by rw [← hS]; exact crcSum_lt _
  have hF : frameN k b = headN k b.length ++ word4 S ++ b := by unfold frameN; rw [hS]
  obtain ⟨h, hh⟩ : ∃ h, headN k b.length = h := ⟨_, rfl⟩
  obtain ⟨s, hss⟩ : ∃ s, word4 S = s := ⟨_, rfl⟩
  have h5 : h.length = 5 := by rw [← hh]; rfl
  have h4 : s.length = 4 := by rw [← hss]; rfl
  have sh : Small h := by rw [← hh]; exact headN_small hk
  have s4 : Small s := by rw [← hss]; exact word4_small S
  have hsum : crcSum (h ++ b) = sum4 s := by rw [← hh, hS, ← hss]; exact (num4_word4 S hSl).symm
  rw [hF, hh, hss] at hE hn
  clear hF hh hss hS
  by_cases c1 : j < 8 * 9
  · rw [flipB_left (h ++ s) b j (by rw [List.length_append, h5, h4]; omega)] at hE hn
    by_cases c2 : j < 8 * 5
    · rw [flipB_left h s j (by rw [h5]; omega)] at hE hn
      have := one_parts (by rw [flipB_length, h5]) h4 hE hn
      rw [← hsum, ← flipB_left h b j (by rw [h5]; omega)] at this
      exact crc_flip (small_append sh hs) j (by rw [List.length_append, h5]; omega) this
    · rw [flipB_right h s j (by rw [h5]; omega) (by rw [h5, h4]; omega)] at hE hn
      have := one_parts h5 (by rw [flipB_length, h4]) hE hn
      rw [hsum] at this
      exact flipB_ne s (j - 8 * h.length) (by rw [h5, h4]; omega) (sum4_inj h4 (by rw [flipB_length, h4]) s4 (flipB_small s4 _) this).symm
  · rw [flipB_right (h ++ s) b j (by rw [List.length_append, h5, h4]; omega) (by rw [List.length_append, h5, h4]; omega)] at hE hn
    have := one_parts h5 h4 hE hn
    have e := flipB_right h b (j - 8 * 4) (by rw [h5]; omega) (by rw [h5]; omega)
    rw [show j - 8 * 4 - 8 * h.length = j - 8 * (h ++ s).length by rw [List.length_append, h5, h4]; omega] at e
    rw [← hsum, ← e] at this
    exact crc_flip (small_append sh hs) (j - 8 * 4) (by rw [List.length_append, h5]; omega) this
end Go.Proofs.Ytpnagblbhlglhaa
