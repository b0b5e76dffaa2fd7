/- The plain law of texts: what a text says has that text; what has a text is what it says. Conditions: those that each states. -/
import Derived.Test.YtnghfnpmbjnjeaaNamesRead2
namespace Go.Proofs.Ytnghfnpmbjnjeaa

def digN (n : Nat) : Nat := if n < 10 then 48 + n else 55 + n
def letF (c : Nat) : List Nat := if plainN c = true then [c] else [37, digN (c / 16), digN (c % 16)]
def textF (b : List Nat) : List Nat := b.flatMap letF
def textN (b : List Nat) : List Nat := if b.length = 0 then [37] else textF b
def valN (c : Nat) : Nat := if 65 ≤ c ∧ c ≤ 70 then c - 55 else (c + 208) % 256
def pairN (h l : Nat) : Nat := (16 * valN h % 256 + valN l) % 256
/-- What a text says, without a look. -/
def rdec : Nat → List Nat → List Nat
  | 0, _ => []
  | _ + 1, [] => []
  | n + 1, c :: r => if c = 37 then match r with
      | h :: l :: r' => pairN h l :: rdec n r'
      | _ => c :: rdec n r
    else c :: rdec n r
theorem rdec_fuel : ∀ (m : Nat) (x : List Nat), x.length ≤ m → rdec m x = rdec x.length x
  | 0, [], _ => rfl
  | 0, _ :: _, h => by simp at h
  | _ + 1, [], _ => rfl
  | m + 1, c :: r, h => by
    have hr : r.length ≤ m := by simpa using h
    have ih := rdec_fuel m r hr
    show rdec (m + 1) (c :: r) = rdec (r.length + 1) (c :: r)
    by_cases hc : c = 37
    · match r, hr, ih with
      | [], _, ih => simp only [rdec, hc, if_true, ih]
      | [_], _, ih => simp only [rdec, hc, if_true, ih]
      | x :: y :: r', hr, _ =>
        have e1 := rdec_fuel m r' (by simp at hr; omega)
        have e2 := rdec_fuel (r'.length + 1 + 1) r' (by omega)
        simp only [rdec, hc, if_true, List.length_cons, e1, e2]
    · simp only [rdec, hc, if_false, ih]
  termination_by m => m
def rdecL (x : List Nat) : List Nat := rdec x.length x
theorem rdecL_nil : rdecL [] = [] := rfl
theorem rdecL_other (c : Nat) (r : List Nat) (h : c ≠ 37) : rdecL (c :: r) = c :: rdecL r := by
  simp only [rdecL, List.length_cons, rdec, h, if_false]
theorem rdecL_short (r : List Nat) (h : r.length < 2) : rdecL (37 :: r) = 37 :: rdecL r := by
  match r, h with
  | [], _ => rfl
  | [_], _ => simp only [rdecL, List.length_cons, List.length_nil, rdec, if_true]
theorem rdecL_pair (a b : Nat) (r : List Nat) : rdecL (37 :: a :: b :: r) = pairN a b :: rdecL r := by
  have e := rdec_fuel (r.length + 1 + 1) r (by omega)
  simp only [rdecL, List.length_cons, rdec, if_true, e]

theorem nib_dig (n : Nat) (h : n < 16) : nibN (digN n) = some n := by
  unfold nibN digN
  split
  · rw [if_pos (by omega)]; congr 1; omega
  · rw [if_neg (by omega), if_pos (by omega)]; congr 1; omega
theorem nib_val {c x : Nat} (h : nibN c = some x) : valN c = x ∧ x < 16 ∧ digN x = c := by
  unfold nibN at h
  split at h
  · injection h with h; subst h; refine ⟨?_, by omega, ?_⟩
    · unfold valN; rw [if_neg (by omega)]; omega
    · unfold digN; rw [if_pos (by omega)]; omega
  · split at h
    · injection h with h; subst h; refine ⟨?_, by omega, ?_⟩
      · unfold valN; rw [if_pos (by omega)]
      · unfold digN; rw [if_neg (by omega)]; omega
    · cases h
theorem plain37 : plainN 37 = false := by decide
theorem letF_ne (c : Nat) : letF c ≠ [] := by unfold letF; split <;> simp

/-- What is read has that text, and is what is read without a look. -/
theorem read_text : ∀ (m : Nat) (s b : List Nat), s.length ≤ m → readL s = some b → rdecL s = b ∧ textF b = s
  | _, [], b, _, h => by rw [readL_nil] at h; injection h with h; subst h; exact ⟨rfl, rfl⟩
  | 0, _ :: _, _, hl, _ => by simp at hl
  | m + 1, c :: r, b, hl, h => by
    have hr : r.length ≤ m := by simpa using hl
    by_cases hp : plainN c = true
    · rw [readL_plain c r hp] at h
      obtain ⟨b', hb', rfl⟩ := Option.map_eq_some_iff.1 h
      obtain ⟨e1, e2⟩ := read_text m r b' hr hb'
      have hc : c ≠ 37 := by rintro rfl; rw [plain37] at hp; cases hp
      refine ⟨by rw [rdecL_other c r hc, e1], ?_⟩
      show letF c ++ textF b' = c :: r
      unfold letF
      rw [if_pos hp, e2]
      rfl
    · have hp' : plainN c = false := by simpa using hp
      by_cases hc : c = 37
      · subst hc
        match r, hr, h with
        | [], _, h => rw [readL_short [] (by simp)] at h; cases h
        | [x], _, h => rw [readL_short [x] (by simp)] at h; cases h
        | x :: y :: r', hr, h =>
          rw [readL_pair] at h
          cases hx : nibN x with
          | none => rw [hx] at h; cases h
          | some u =>
            cases hy : nibN y with
            | none => rw [hx, hy] at h; cases h
            | some v =>
              rw [hx, hy] at h
              dsimp only at h
              obtain ⟨x1, x2, x3⟩ := nib_val hx
              obtain ⟨y1, y2, y3⟩ := nib_val hy
              by_cases hz : plainN (16 * u + v) = true
              · rw [if_pos hz] at h; cases h
              · rw [if_neg hz] at h
                obtain ⟨b', hb', rfl⟩ := Option.map_eq_some_iff.1 h
                obtain ⟨e1, e2⟩ := read_text m r' b' (by simp at hr; omega) hb'
                have hpn : pairN x y = 16 * u + v := by unfold pairN; rw [x1, y1]; omega
                refine ⟨by rw [rdecL_pair, e1, hpn], ?_⟩
                show letF (16 * u + v) ++ textF b' = 37 :: x :: y :: r'
                unfold letF
                rw [if_neg hz, e2, show (16 * u + v) / 16 = u by omega, show (16 * u + v) % 16 = v by omega, x3, y3]
                rfl
      · rw [readL_bad c r hp' hc] at h; cases h
  termination_by m => m
/-- What has its text is read. -/
theorem text_read : ∀ (m : Nat) (s : List Nat), s.length ≤ m → textF (rdecL s) = s → readL s = some (rdecL s)
  | _, [], _, _ => rfl
  | 0, _ :: _, hl, _ => by simp at hl
  | m + 1, c :: r, hl, h => by
    have hr : r.length ≤ m := by simpa using hl
    have other : rdecL (c :: r) = c :: rdecL r → (c = 37 → r.length < 2) → readL (c :: r) = some (rdecL (c :: r)) := by
      intro he hsh
      rw [he] at h ⊢
      change letF c ++ textF (rdecL r) = c :: r at h
      unfold letF at h
      by_cases hp : plainN c = true
      · rw [if_pos hp] at h
        have h2 : textF (rdecL r) = r := by simpa using h
        rw [readL_plain c r hp, text_read m r hr h2]
        rfl
      · rw [if_neg hp] at h
        simp only [List.cons_append, List.nil_append, List.cons.injEq] at h
        have := hsh h.1.symm
        have h3 := congrArg List.length h.2
        simp at h3
        omega
    by_cases hc : c = 37
    · subst hc
      match r, hr, h, other with
      | [], _, _, other => exact other (rdecL_short [] (by simp)) (fun _ => by simp)
      | [x], _, _, other => exact other (rdecL_short [x] (by simp)) (fun _ => by simp)
      | x :: y :: r', hr, h, _ =>
        rw [rdecL_pair] at h ⊢
        change letF (pairN x y) ++ textF (rdecL r') = 37 :: x :: y :: r' at h
        have hv : pairN x y < 256 := Nat.mod_lt _ (by decide)
        generalize pairN x y = v at h hv ⊢
        unfold letF at h
        by_cases hp : plainN v = true
        · rw [if_pos hp] at h
          simp only [List.cons_append, List.nil_append, List.cons.injEq] at h
          rw [h.1, plain37] at hp
          cases hp
        · rw [if_neg hp] at h
          simp only [List.cons_append, List.nil_append, List.cons.injEq, true_and] at h
          obtain ⟨h1, h2, h3⟩ := h
          rw [readL_pair, ← h1, ← h2, nib_dig _ (by omega), nib_dig _ (by omega)]
          dsimp only
          rw [show 16 * (v / 16) + v % 16 = v by omega, if_neg hp, text_read m r' (by simp at hr; omega) h3]
          rfl
    · exact other (rdecL_other c r hc) (fun h => absurd h hc)
  termination_by m => m
/-- A text of bytes is read as they were. -/
theorem read_of_text : ∀ (b : List Nat), (∀ c ∈ b, c < 256) → readL (textF b) = some b
  | [], _ => rfl
  | c :: b, hb => by
    have ih := read_of_text b (fun x hx => hb x (List.mem_cons_of_mem _ hx))
    have hc := hb c (List.mem_cons_self ..)
    show readL (letF c ++ textF b) = _
    unfold letF
    by_cases hp : plainN c = true
    · rw [if_pos hp]
      show readL (c :: textF b) = _
      rw [readL_plain c _ hp, ih]
      rfl
    · rw [if_neg hp]
      show readL (37 :: digN (c / 16) :: digN (c % 16) :: textF b) = _
      rw [readL_pair, nib_dig _ (by omega), nib_dig _ (by omega)]
      dsimp only
      rw [show 16 * (c / 16) + c % 16 = c by omega, if_neg hp, ih]
      rfl
theorem textF_nil {b : List Nat} (h : textF b = []) : b = [] := by
  cases b with
  | nil => rfl
  | cons c b =>
    have : letF c ++ textF b = [] := h
    exact absurd (List.append_eq_nil_iff.1 this).1 (letF_ne c)
theorem readA_text (b : List Nat) (hb : ∀ c ∈ b, c < 256) : readA (textN b) = (b, 0) := by
  unfold textN
  by_cases h : b.length = 0
  · rw [if_pos h, List.eq_nil_of_length_eq_zero h]
    rfl
  · rw [if_neg h]
    have hr := read_of_text b hb
    unfold readA
    have h1 : textF b ≠ [37] := by
      intro e
      rw [e, readL_short [] (by simp)] at hr
      cases hr
    have h2 : textF b ≠ [] := fun e => h (by rw [textF_nil e]; rfl)
    rw [if_neg h1, if_neg h2, hr]
/-- The document's reading: what the text says, if that has this text. -/
def refReadA (s : List Nat) : List Nat × Nat := if s = [37] then ([], 0) else if s.length = 0 ∨ textN (rdecL s) ≠ s then ([], 4) else (rdecL s, 0)
theorem refReadA_eq (s : List Nat) : refReadA s = readA s := by
  unfold refReadA readA
  by_cases h1 : s = [37]
  · rw [if_pos h1, if_pos h1]
  · rw [if_neg h1, if_neg h1]
    by_cases h2 : s = []
    · rw [if_pos h2, if_pos (.inl (by rw [h2]; rfl))]
    · rw [if_neg h2]
      have hl : s.length ≠ 0 := fun e => h2 (List.eq_nil_of_length_eq_zero e)
      have hd : (rdecL s).length ≠ 0 := by
        match s, h2 with
        | c :: r, _ =>
          by_cases hc : c = 37
          · subst hc
            match r with
            | [] => rw [rdecL_short [] (by simp)]; simp
            | [x] => rw [rdecL_short [x] (by simp)]; simp
            | x :: y :: r' => rw [rdecL_pair]; simp
          · rw [rdecL_other c r hc]; simp
      have ht : textN (rdecL s) = textF (rdecL s) := by unfold textN; rw [if_neg hd]
      rw [ht]
      cases hx : readL s with
      | none =>
        have hne : textF (rdecL s) ≠ s := fun e => by
          have := text_read _ s (Nat.le_refl _) e
          rw [hx] at this
          cases this
        rw [if_pos (.inr hne)]
      | some b =>
        obtain ⟨e1, e2⟩ := read_text _ s b (Nat.le_refl _) hx
        rw [if_neg (by rw [e1, e2]; simp [hl]), e1]

theorem textF_le (b : List Nat) : (textF b).length ≤ 3 * b.length := by
  induction b with
  | nil => exact Nat.le_refl _
  | cons c b ih =>
    show (letF c ++ textF b).length ≤ 3 * (b.length + 1)
    rw [List.length_append]
    have : (letF c).length ≤ 3 := by unfold letF; split <;> simp
    omega
theorem letF_small {c : Nat} (hc : c < 256) : Small (letF c) := by
  unfold letF digN
  intro x hx
  split at hx
  · simp at hx; omega
  · simp at hx
    rcases hx with rfl | rfl | rfl
    · decide
    · split <;> omega
    · split <;> omega
theorem textF_small {b : List Nat} (hb : Small b) : Small (textF b) := by
  intro x hx
  obtain ⟨c, hc, hx⟩ := List.mem_flatMap.1 hx
  exact letF_small (hb c hc) x hx
theorem textF_append (b c : List Nat) : textF (b ++ c) = textF b ++ textF c := by simp [textF]
theorem rdec_small : ∀ (n : Nat) (s : List Nat), Small s → Small (rdec n s)
  | 0, _, _ => fun c hc => by simp [rdec] at hc
  | _ + 1, [], _ => fun c hc => by simp [rdec] at hc
  | n + 1, c :: r, h => by
    have hr : Small r := fun x hx => h x (List.mem_cons_of_mem _ hx)
    have hc := h c (List.mem_cons_self ..)
    have ih := rdec_small n r hr
    intro x hx
    by_cases h37 : c = 37
    · match r, hr, ih, hx with
      | [], _, ih, hx => simp only [rdec, h37, if_true] at hx; rcases List.mem_cons.1 hx with rfl | h; exact (by decide); exact ih x h
      | [y], _, ih, hx => simp only [rdec, h37, if_true] at hx; rcases List.mem_cons.1 hx with rfl | h; exact (by decide); exact ih x h
      | y :: z :: r', hr, _, hx =>
        simp only [rdec, h37, if_true] at hx
        rcases List.mem_cons.1 hx with rfl | h
        · exact Nat.mod_lt _ (by decide)
        · exact rdec_small n r' (fun q hq => hr q (by simp [hq])) x h
    · simp only [rdec, h37, if_false] at hx
      rcases List.mem_cons.1 hx with rfl | h
      · exact hc
      · exact ih x h
  termination_by n => n
theorem rdec_len : ∀ (n : Nat) (s : List Nat), (rdec n s).length ≤ s.length
  | 0, _ => by simp [rdec]
  | _ + 1, [] => by simp [rdec]
  | n + 1, c :: r => by
    have ih := rdec_len n r
    by_cases h37 : c = 37
    · match r, ih with
      | [], ih => simp only [rdec, h37, if_true, List.length_cons]; omega
      | [y], ih => simp only [rdec, h37, if_true, List.length_cons]; simp at ih; omega
      | y :: z :: r', _ =>
        have := rdec_len n r'
        simp only [rdec, h37, if_true, List.length_cons]
        omega
    · simp only [rdec, h37, if_false, List.length_cons]; omega
  termination_by n => n

end Go.Proofs.Ytnghfnpmbjnjeaa
