/- Frames, one behind the other, and what a going over them tells: plain facts. Conditions: those that each states. -/
import Derived.Test.YtpnagblbhlglhaaFrameScanMath
namespace Go.Proofs.Ytpnagblbhlglhaa
open Go.RowKit

theorem frameN_app (k : Nat) (b rest : List Nat) : frameN k b ++ rest = k :: (b.length / 16777216 % 256) :: (b.length / 65536 % 256) :: (b.length / 256 % 256) :: (b.length % 256) ::
    (crcSum (headN k b.length ++ b) / 16777216 % 256) :: (crcSum (headN k b.length ++ b) / 65536 % 256) :: (crcSum (headN k b.length ++ b) / 256 % 256) :: (crcSum (headN k b.length ++ b) % 256) :: (b ++ rest) := by
  unfold frameN
  generalize crcSum (headN k b.length ++ b) = S
  simp [headN, word4]
section
variable (k a1 a2 a3 a4 s1 s2 s3 s4 : Nat) (l : List Nat)
theorem bg_cons : bgN (k :: a1 :: a2 :: a3 :: a4 :: l) = num4 a1 a2 a3 a4 := rfl
theorem bgS_cons : bgS (k :: a1 :: a2 :: a3 :: a4 :: s1 :: s2 :: s3 :: s4 :: l) = num4 s1 s2 s3 s4 := rfl
theorem body_cons (n : Nat) (h : bgN (k :: a1 :: a2 :: a3 :: a4 :: s1 :: s2 :: s3 :: s4 :: l) = n) : bodyN (k :: a1 :: a2 :: a3 :: a4 :: s1 :: s2 :: s3 :: s4 :: l) = l.take n := by
  unfold bodyN; rw [h]; rfl
end
theorem take_nine (a0 a1 a2 a3 a4 a5 a6 a7 a8 d : Nat) (l : List Nat) : (a0 :: a1 :: a2 :: a3 :: a4 :: a5 :: a6 :: a7 :: a8 :: l).take (d + 9) = a0 :: a1 :: a2 :: a3 :: a4 :: a5 :: a6 :: a7 :: a8 :: l.take d := rfl
theorem beginE_eq {b : List Nat} (h9 : 9 ≤ b.length) (hn : bgN b ≤ 2147483647) (hl : 9 + bgN b ≤ b.length) : beginE b = if crcSum (b.take 5 ++ bodyN b) = bgS b then 0 else 141 := by
  unfold beginE; rw [if_neg (by omega), if_neg (by omega), if_neg (by omega)]
theorem beginE_torn {b : List Nat} (hn : bgN b ≤ 2147483647) (hl : b.length < 9 + bgN b) : beginE b = 140 := by
  unfold beginE
  by_cases h9 : b.length < 9
  · rw [if_pos h9]
  · rw [if_neg h9, if_neg (by omega), if_pos hl]
theorem beginE_short {b : List Nat} (h9 : b.length < 9) : beginE b = 140 := by unfold beginE; rw [if_pos h9]
theorem bg_frame (k : Nat) (b rest : List Nat) (hb : b.length ≤ 2147483647) : bgN (frameN k b ++ rest) = b.length := by
  rw [frameN_app, bg_cons, num4_word4 _ (by omega)]
theorem bgS_frame (k : Nat) (b rest : List Nat) : bgS (frameN k b ++ rest) = crcSum (headN k b.length ++ b) := by
  rw [frameN_app, bgS_cons, num4_word4 _ (crcSum_lt _)]
theorem body_frame (k : Nat) (b rest : List Nat) (hb : b.length ≤ 2147483647) : bodyN (frameN k b ++ rest) = b := by
  have h := bg_frame k b rest hb
  rw [frameN_app] at h ⊢
  rw [body_cons _ _ _ _ _ _ _ _ _ _ _ h, List.take_left]
theorem take5_frame (k : Nat) (b rest : List Nat) : (frameN k b ++ rest).take 5 = headN k b.length := by
  rw [frameN_app]; rfl
theorem begin_frame (k : Nat) (b rest : List Nat) (hb : b.length ≤ 2147483647) : beginE (frameN k b ++ rest) = 0 := by
  have hl : (frameN k b ++ rest).length = 9 + b.length + rest.length := by rw [List.length_append, frameN_len]
  rw [beginE_eq (by omega) (by rw [bg_frame k b rest hb]; exact hb) (by rw [bg_frame k b rest hb]; omega), body_frame k b rest hb, bgS_frame, take5_frame, if_pos rfl]
theorem scanL_frame (k : Nat) (b rest : List Nat) (hb : b.length ≤ 2147483647) : scanL (frameN k b ++ rest) = (k, b) :: scanL rest := by
  have hne : frameN k b ++ rest ≠ [] := by rw [frameN_app]; exact List.cons_ne_nil _ _
  rw [scanL_step hne (begin_frame k b rest hb), body_frame k b rest hb, bg_frame k b rest hb]
  have e1 : (frameN k b ++ rest).getD 0 0 = k := by rw [frameN_app]; rfl
  rw [e1, ← frameN_len k b, List.drop_left]
theorem scanE_frame (k : Nat) (b rest : List Nat) (hb : b.length ≤ 2147483647) : scanE (frameN k b ++ rest) = scanE rest := by
  have hne : frameN k b ++ rest ≠ [] := by rw [frameN_app]; exact List.cons_ne_nil _ _
  rw [scanE_step hne (begin_frame k b rest hb), bg_frame k b rest hb, ← frameN_len k b, List.drop_left]

/-- Frames, one behind the other. -/
def framesN (l : List (Nat × List Nat)) : List Nat := l.flatMap fun x => frameN x.1 x.2
theorem framesN_cons (x : Nat × List Nat) (l : List (Nat × List Nat)) : framesN (x :: l) = frameN x.1 x.2 ++ framesN l := by simp [framesN]
theorem framesN_append (a b : List (Nat × List Nat)) : framesN (a ++ b) = framesN a ++ framesN b := by simp [framesN]
theorem framesN_len (l : List (Nat × List Nat)) : (framesN l).length = sizeL l := by
  induction l with
  | nil => rfl
  | cons x l ih => obtain ⟨k, b⟩ := x; rw [framesN_cons, List.length_append, ih, frameN_len, sizeL_cons]
theorem scan_frames (l : List (Nat × List Nat)) (rest : List Nat) (h : ∀ x ∈ l, x.2.length ≤ 2147483647) : scanL (framesN l ++ rest) = l ++ scanL rest ∧ scanE (framesN l ++ rest) = scanE rest := by
  induction l with
  | nil => exact ⟨rfl, rfl⟩
  | cons x l ih =>
    have h1 := h x (List.mem_cons_self ..)
    have h2 := ih fun y hy => h y (List.mem_cons_of_mem _ hy)
    rw [framesN_cons, List.append_assoc, scanL_frame _ _ _ h1, scanE_frame _ _ _ h1, h2.1, h2.2]
    exact ⟨rfl, rfl⟩
theorem scan_all (l : List (Nat × List Nat)) (h : ∀ x ∈ l, x.2.length ≤ 2147483647) : scanL (framesN l) = l ∧ scanE (framesN l) = 0 := by
  have := scan_frames l [] h
  rw [List.append_nil, scanL_nil, scanE_nil, List.append_nil] at this
  exact this

/-- A beginning of a frame is torn. -/
theorem begin_cut (k : Nat) (b rest : List Nat) (hb : b.length ≤ 2147483647) (c : Nat) (hc : c < 9 + b.length) : beginE ((frameN k b ++ rest).take c) = 140 := by
  by_cases h9 : c < 9
  · exact beginE_short (by rw [List.length_take]; omega)
  · have hbg : bgN ((frameN k b ++ rest).take c) = b.length := by
      obtain ⟨d, rfl⟩ : ∃ d, c = d + 9 := ⟨c - 9, by omega⟩
      have h := bg_frame k b rest hb
      rw [frameN_app] at h ⊢
      rw [bg_cons] at h
      rw [take_nine, bg_cons]
      exact h
    exact beginE_torn (by omega) (by rw [hbg, List.length_take]; omega)
theorem scan_cut (l : List (Nat × List Nat)) (h : ∀ x ∈ l, x.2.length ≤ 2147483647) (c : Nat) (hc : c ≤ sizeL l) :
    ∃ m, m ≤ l.length ∧ scanL ((framesN l).take c) = l.take m ∧ sizeL (l.take m) ≤ c ∧ scanE ((framesN l).take c) = (if sizeL (l.take m) = c then 0 else 140) ∧ (m < l.length → c < sizeL (l.take (m + 1))) := by
  induction l generalizing c with
  | nil =>
    obtain rfl : c = 0 := by simpa [sizeL] using hc
    exact ⟨0, Nat.le_refl _, scanL_nil, Nat.le_refl _, scanE_nil, fun h => absurd h (by simp)⟩
  | cons x l ih =>
    obtain ⟨k, b⟩ := x
    have h1 : b.length ≤ 2147483647 := h (k, b) (List.mem_cons_self ..)
    rw [sizeL_cons] at hc
    rw [framesN_cons]
    by_cases hcut : c < 9 + b.length
    · have hb := begin_cut k b (framesN l) h1 c hcut
      by_cases h0 : c = 0
      · subst h0
        refine ⟨0, Nat.zero_le _, scanL_nil, Nat.le_refl _, scanE_nil, fun _ => ?_⟩
        show 0 < sizeL [(k, b)]
        rw [sizeL_one]; omega
      · have hne : (frameN k b ++ framesN l).take c ≠ [] := by
          obtain ⟨d, rfl⟩ : ∃ d, c = d + 1 := ⟨c - 1, by omega⟩
          rw [frameN_app]
          exact List.cons_ne_nil _ _
        refine ⟨0, Nat.zero_le _, scanL_end hne (by rw [hb]; decide), Nat.zero_le _, ?_, fun _ => ?_⟩
        · rw [scanE_end hne (by rw [hb]; decide), hb, if_neg (fun e => h0 e.symm)]
        · show c < sizeL [(k, b)]
          rw [sizeL_one]; exact hcut
    · obtain ⟨m, hm1, hm2, hm3, hm4, hm5⟩ := ih (fun y hy => h y (List.mem_cons_of_mem _ hy)) (c - (9 + b.length)) (by omega)
      have ht : (frameN k b ++ framesN l).take c = frameN k b ++ (framesN l).take (c - (9 + b.length)) := by
        rw [List.take_append, frameN_len, List.take_of_length_le (by rw [frameN_len]; omega)]
      rw [ht, scanL_frame _ _ _ h1, scanE_frame _ _ _ h1]
      refine ⟨m + 1, by rw [List.length_cons]; omega, by rw [hm2]; rfl, ?_, ?_, fun hm => ?_⟩
      · rw [List.take_succ_cons, sizeL_cons]; omega
      · rw [List.take_succ_cons, sizeL_cons, hm4]
        by_cases e : sizeL (l.take m) = c - (9 + b.length)
        · rw [if_pos e, if_pos (by omega)]
        · rw [if_neg e, if_neg (by omega)]
      · rw [List.length_cons] at hm
        rw [List.take_succ_cons, sizeL_cons]
        have := hm5 (by omega)
        omega
end Go.Proofs.Ytpnagblbhlglhaa
