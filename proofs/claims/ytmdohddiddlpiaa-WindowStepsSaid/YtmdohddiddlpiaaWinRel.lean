/- A ring and the document's two lists say the same. Conditions: those that each states. -/
import Derived.Test.YtmdohddiddlpiaaWinRef4
import Derived.Test.YtmdohddiddlpiaaWinPlainS
namespace Go.Proofs.Ytmdohddiddlpiaa

theorem mk_unique (l : List Bool) : ∀ M, (∀ i, i < M → l[i]? = some true) → (M = l.length ∨ l[M]? = some false) → mk l = M := by
  induction l with
  | nil =>
    intro M h1 h2
    rcases h2 with h2 | h2
    · simpa [mk] using h2.symm
    · simp at h2
  | cons b r ih =>
    intro M h1 h2
    cases b with
    | false =>
      cases M with
      | zero => rfl
      | succ M => have := h1 0 (by omega); simp at this
    | true =>
      cases M with
      | zero =>
        rcases h2 with h2 | h2
        · simp at h2
        · simp at h2
      | succ M =>
        rw [mk]
        congr 1
        refine ih M (fun i hi => by have := h1 (i + 1) (by omega); simpa using this) ?_
        rcases h2 with h2 | h2
        · exact .inl (by simpa using h2)
        · exact .inr (by simpa using h2)
theorem nOut_mk (l : List Bool) : nOut (l.take (mk l)) = 0 := by
  induction l with
  | nil => rfl
  | cons b r ih =>
    cases b with
    | false => rfl
    | true => rw [mk, List.take_succ_cons]; exact ih

structure Rel (n : Nat) (o : Nat → Bool) (v : Nat → ByteArray) (m l : Nat) (th : List ByteArray) (bk : List Bool) : Prop where
  bl : bk.length = l
  tl : th.length = l
  mks : mk bk = m
  out : ∀ j b, m ≤ j → bk[j]? = some b → o ((j + 1) % n) = !b
  thing : ∀ j x, bk[j]? = some false → th[j]? = some x → v ((j + 1) % n) = x
namespace Rel
variable {n : Nat} {o : Nat → Bool} {v : Nat → ByteArray} {m l : Nat} {th : List ByteArray} {bk : List Bool}
theorem start (n : Nat) : Rel n (fun _ => false) (fun _ => ⟨#[]⟩) 0 0 [] [] := ⟨rfl, rfl, rfl, fun j b _ h => by simp at h, fun j x h => by simp at h⟩
theorem below (h : Rel n o v m l th bk) (j : Nat) (hb : bk[j]? = some false) : m ≤ j := by
  rcases Nat.lt_or_ge j m with h1 | h1
  · have := mk_true bk j (by rw [h.mks]; exact h1)
    rw [this] at hb
    cases hb
  · exact h1
theorem isOut (h : Rel n o v m l th bk) (z : Int) : IsOut n o m l z ↔ OutB bk z := by
  constructor
  · rintro ⟨a, b, c⟩
    obtain ⟨j, rfl⟩ : ∃ j : Nat, z = (j : Int) + 1 := ⟨(z - 1).toNat, by omega⟩
    have hj : j < bk.length := by rw [h.bl]; omega
    have ho := h.out j bk[j] (by omega) (List.getElem?_eq_getElem hj)
    rw [show ((j : Int) + 1).toNat = j + 1 by omega] at c
    rw [c] at ho
    refine ⟨by omega, ?_⟩
    rw [show ((j : Int) + 1).toNat - 1 = j by omega, List.getElem?_eq_getElem hj]
    cases hb : bk[j] with
    | false => rfl
    | true => rw [hb] at ho; cases ho
  · rintro ⟨a, b⟩
    obtain ⟨j, rfl⟩ : ∃ j : Nat, z = (j : Int) + 1 := ⟨(z - 1).toNat, by omega⟩
    rw [show ((j : Int) + 1).toNat - 1 = j by omega] at b
    have hj := (List.getElem?_eq_some_iff.1 b).1
    have hm := h.below j b
    rw [h.bl] at hj
    refine ⟨by omega, by omega, ?_⟩
    rw [show ((j : Int) + 1).toNat = j + 1 by omega]
    exact h.out j false hm b
/-- What it is that is out. -/
theorem get (h : Rel n o v m l th bk) {j : Nat} (hb : bk[j]? = some false) : ∃ x, th[j]? = some x ∧ v ((j + 1) % n) = x ∧ m < j + 1 ∧ j + 1 ≤ l ∧ o ((j + 1) % n) = true := by
  have hj := (List.getElem?_eq_some_iff.1 hb).1
  have hm := h.below j hb
  rw [h.bl] at hj
  have hx : th[j]? = some (th[j]'(by rw [h.tl]; exact hj)) := List.getElem?_eq_getElem _
  exact ⟨_, hx, h.thing j _ hb hx, by omega, by omega, h.out j false hm hb⟩
theorem give (h : Rel n o v m l th bk) (x : ByteArray) (hl : l < m + n) : Rel n (upd o ((l + 1) % n) true) (upd v ((l + 1) % n) x) m (l + 1) (th ++ [x]) (bk ++ [false]) := by
  have hml : m ≤ l := by rw [← h.mks, ← h.bl]; exact mk_le bk
  refine ⟨by rw [List.length_append, h.bl]; rfl, by rw [List.length_append, h.tl]; rfl, ?_, fun j b hj hb => ?_, fun j y hb hy => ?_⟩
  · refine mk_unique _ m (fun i hi => ?_) ?_
    · rw [List.getElem?_append_left (by rw [h.bl]; omega)]
      exact mk_true bk i (by rw [h.mks]; exact hi)
    · right
      by_cases hlt : m < l
      · rw [List.getElem?_append_left (by rw [h.bl]; omega), ← h.mks]
        exact mk_false bk (by rw [h.mks, h.bl]; exact hlt)
      · rw [List.getElem?_append_right (by rw [h.bl]; omega), h.bl, show m - l = 0 by omega]; rfl
  · have hjl := (List.getElem?_eq_some_iff.1 hb).1
    rw [List.length_append, h.bl] at hjl
    by_cases hjl2 : j < l
    · rw [List.getElem?_append_left (by rw [h.bl]; exact hjl2)] at hb
      rw [upd_other o true (mod_ne (m := m) (by omega) (by omega) (by omega) (by omega) (by omega))]
      exact h.out j b hj hb
    · have e : j = l := by simp at hjl; omega
      subst e
      rw [List.getElem?_append_right (by rw [h.bl]; omega), h.bl, Nat.sub_self] at hb
      have : b = false := by simpa using hb.symm
      rw [upd_same, this]; rfl
  · have hjl := (List.getElem?_eq_some_iff.1 hb).1
    rw [List.length_append, h.bl] at hjl
    by_cases hjl2 : j < l
    · rw [List.getElem?_append_left (by rw [h.bl]; exact hjl2)] at hb
      rw [List.getElem?_append_left (by rw [h.tl]; exact hjl2)] at hy
      have hm := h.below j hb
      rw [upd_other v x (mod_ne (m := m) (by omega) (by omega) (by omega) (by omega) (by omega))]
      exact h.thing j y hb hy
    · have e : j = l := by simp at hjl; omega
      subst e
      rw [List.getElem?_append_right (by rw [h.tl]; omega), h.tl, Nat.sub_self] at hy
      have : y = x := by simpa using hy.symm
      rw [upd_same, this]
theorem set_ (h : Rel n o v m l th bk) {j : Nat} (hb : bk[j]? = some false) (hspan : l ≤ m + n) (x : ByteArray) : Rel n o (upd v ((j + 1) % n) x) m l (th.set j x) bk := by
  have hj := (List.getElem?_eq_some_iff.1 hb).1
  have hm := h.below j hb
  rw [h.bl] at hj
  refine ⟨h.bl, by rw [List.length_set, h.tl], h.mks, h.out, fun i y hi hy => ?_⟩
  have hil := (List.getElem?_eq_some_iff.1 hi).1
  rw [h.bl] at hil
  have him := h.below i hi
  by_cases e : i = j
  · subst e
    rw [List.getElem?_set_self (by rw [h.tl]; exact hil)] at hy
    rw [upd_same]
    simpa using hy
  · rw [List.getElem?_set_ne (by omega)] at hy
    rw [upd_other v x (mod_ne (m := m) (by omega) (by omega) (by omega) (by omega) (by omega))]
    exact h.thing i y hi hy
theorem back (h : Rel n o v m l th bk) {j : Nat} (hb : bk[j]? = some false) (hspan : l ≤ m + n) (z : ByteArray) {m' : Nat} (h1 : m ≤ m') (h2 : m' ≤ l) (hall : ∀ i, m < i → i ≤ m' → upd o ((j + 1) % n) false (i % n) = false)
    (ht : m' = l ∨ upd o ((j + 1) % n) false ((m' + 1) % n) = true) : Rel n (upd o ((j + 1) % n) false) (upd v ((j + 1) % n) z) m' l th (bk.set j true) := by
  have hj := (List.getElem?_eq_some_iff.1 hb).1
  have hm := h.below j hb
  rw [h.bl] at hj
  have hout : ∀ i b, m ≤ i → (bk.set j true)[i]? = some b → upd o ((j + 1) % n) false ((i + 1) % n) = !b := by
    intro i b hi hib
    have hil := (List.getElem?_eq_some_iff.1 hib).1
    rw [List.length_set, h.bl] at hil
    by_cases e : i = j
    · subst e
      rw [List.getElem?_set_self (by rw [h.bl]; exact hil)] at hib
      have : b = true := by simpa using hib.symm
      rw [upd_same, this]; rfl
    · rw [List.getElem?_set_ne (by omega)] at hib
      rw [upd_other o false (mod_ne (m := m) (by omega) (by omega) (by omega) (by omega) (by omega))]
      exact h.out i b hi hib
  refine ⟨by rw [List.length_set, h.bl], h.tl, ?_, fun i b hi hib => hout i b (by omega) hib, fun i y hi hy => ?_⟩
  · refine mk_unique _ m' (fun i hi => ?_) ?_
    · have hil : i < (bk.set j true).length := by rw [List.length_set, h.bl]; omega
      obtain ⟨b, hib⟩ : ∃ b, (bk.set j true)[i]? = some b := ⟨_, List.getElem?_eq_getElem hil⟩
      rw [hib]
      by_cases him : i < m
      · have := mk_true bk i (by rw [h.mks]; exact him)
        rw [List.getElem?_set_ne (by omega), this] at hib
        exact hib.symm
      · have e1 := hout i b (by omega) hib
        rw [hall (i + 1) (by omega) (by omega)] at e1
        cases b with
        | true => rfl
        | false => cases e1
    · rcases ht with e | e
      · exact .inl (by rw [List.length_set, h.bl]; exact e)
      · by_cases hlt : m' < l
        · right
          have hil : m' < (bk.set j true).length := by rw [List.length_set, h.bl]; omega
          obtain ⟨b, hib⟩ : ∃ b, (bk.set j true)[m']? = some b := ⟨_, List.getElem?_eq_getElem hil⟩
          have e1 := hout m' b h1 hib
          rw [e] at e1
          rw [hib]
          cases b with
          | false => rfl
          | true => cases e1
        · exact .inl (by rw [List.length_set, h.bl]; omega)
  · have hne : i ≠ j := by
      rintro rfl
      rw [List.getElem?_set_self (by rw [h.bl]; exact hj)] at hi
      cases hi
    rw [List.getElem?_set_ne (by omega)] at hi
    have hil := (List.getElem?_eq_some_iff.1 hi).1
    rw [h.bl] at hil
    have him := h.below i hi
    rw [upd_other v z (mod_ne (m := m) (by omega) (by omega) (by omega) (by omega) (by omega))]
    exact h.thing i y hi hy
/-- How many are out. -/
theorem count (h : Rel n o v m l th bk) : ∀ q, m + q ≤ l → (outsNS o v n m q).length = nOut (bk.take (m + q)) := by
  intro q
  induction q with
  | zero => intro _; rw [Nat.add_zero, ← h.mks, nOut_mk]; rfl
  | succ q ih =>
    intro hq
    have hj : m + q < bk.length := by rw [h.bl]; omega
    have hs := nOut_step bk (m + q) bk[m + q] (List.getElem?_eq_getElem hj)
    have ho := h.out (m + q) bk[m + q] (by omega) (List.getElem?_eq_getElem hj)
    rw [← Nat.add_assoc, hs, outsNS, List.length_append, ih (by omega), show m + 1 + q = m + q + 1 by omega, ho]
    cases bk[m + q] <;> rfl
theorem count_all (h : Rel n o v m l th bk) : (outsNS o v n m (l - m)).length = nOut bk := by
  have hml : m ≤ l := by rw [← h.mks, ← h.bl]; exact mk_le bk
  rw [h.count (l - m) (by omega), show m + (l - m) = l by omega, List.take_of_length_le (by rw [h.bl]; exact Nat.le_refl _)]
end Rel
end Go.Proofs.Ytmdohddiddlpiaa
