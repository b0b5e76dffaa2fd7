/- Two pairs that go alike, and a copy that goes on apart. Conditions: those that each states. -/
import Derived.Test.YtmdohddiddlpiaaWinDo
import Derived.Test.YtmdohddiddlpiaaWinCopyS
import Derived.Test.YtmdohddiddlpiaaWinRef4
import Derived.Test.YtmdohddiddlpiaaWinLenS
import Derived.Test.YtmdohddiddlpiaaOpenRows
import Derived.Deep.RegionWith
namespace Go.Proofs.Ytmdohddiddlpiaa
open Go.RowKit Go.Shelf

/-- What a ring and lists that go alike answer. -/
structure Alike (V : World) (p q n m l K : Nat) : Prop where
  mark : Calls Try.prog 19 #[.pointer (some ⟨p, 0, none⟩)] V fun e w' => e = .returned (.int .i64 m) ∧ V = w'
  mark2 : Calls Try.prog 20 #[.pointer (some ⟨q, 0, none⟩)] V fun e w' => e = .returned (.int .i64 m) ∧ V = w'
  last : Calls Try.prog 21 #[.pointer (some ⟨p, 0, none⟩)] V fun e w' => e = .returned (.int .i64 l) ∧ V = w'
  len : Calls Try.prog 22 #[.pointer (some ⟨p, 0, none⟩)] V fun e w' => e = .returned (.int .i64 K) ∧ Below V.heap.size V w'
  len2 : Calls Try.prog 23 #[.pointer (some ⟨q, 0, none⟩)] V fun e w' => e = .returned (.int .i64 K) ∧ V = w'
  room : Calls Try.prog 24 #[.pointer (some ⟨p, 0, none⟩)] V fun e w' => e = .returned (.int .i64 ((n : Int) - (l : Int) + (m : Int))) ∧ ∃ k, w' = V.drewN k
  goes : Calls Try.prog 25 #[.pointer (some ⟨p, 0, none⟩), .pointer (some ⟨q, 0, none⟩), .int .i64 0] V fun e w' => e = .returned (.bool true) ∧ Below V.heap.size V w'
  things : ∃ A a, V.cell? ⟨q, 1, none⟩ = some (.slice A l a)
theorem PW.alike {w : World} {base n p g q k : Nat} {A B : Option Addr} (h : PW w base n p g q A B k) : ∃ m l K, l ≤ k ∧ l ≤ m + n ∧ m ≤ l ∧ ∀ V, Below w.heap.size w V → Alike V p q n m l K := by
  obtain ⟨c, o, v, m, l, a, b, th, bk, h1, h2, h3, h4⟩ := h
  refine ⟨m, l, nOut bk, h4, h1.span, h1.le, fun V hV => ?_⟩
  have r1 := h1.fr (S := noB) (Fr.of_new hV) (fun h => h) (fun h => h)
  have r2 := h2.new hV
  have hs := h1.span
  have e1 := rMark V base q A a B b n th bk r2
  rw [h3.mks] at e1
  have e2 := lenS V p g n c o v m l r1
  rw [h3.count_all] at e2
  have e3 := roomS V p g n c o v m l r1
  rw [show ((n + m - l : Nat) : Int) = (n : Int) - (l : Int) + (m : Int) by omega] at e3
  have e4 := r2.c1
  rw [h3.tl] at e4
  exact ⟨markS V p g n c o v m l r1, e1, lastS V p g n c o v m l r1, e2, rLen V base q A a B b n th bk r2, e3, goes_any V base p g n c o v m l r1 q A a B b n th bk r2 h3 0, _, _, e4⟩
theorem PW.lt {w : World} {base n p g q k : Nat} {A B : Option Addr} (h : PW w base n p g q A B k) : ∀ i, ft5 p g q A B i → i < w.heap.size := by
  obtain ⟨c, o, v, m, l, a, b, th, bk, h1, h2, h3, h4⟩ := h
  rintro i ((rfl | rfl) | rfl | hh | hh)
  · exact h1.ltp
  · exact h1.ltg
  · exact h2.blk.lt
  · exact own_blk_lt h2.o1 (by rw [ownBlock_slice]; exact hh)
  · exact own_blk_lt h2.o2 (by rw [ownBlock_slice]; exact hh)
theorem PW.fr {w w' : World} {base n p g q k k' : Nat} {A B : Option Addr} (h : PW w base n p g q A B k) {S : Nat → Prop} (hf : Fr S w w') (hS : ∀ i, ft5 p g q A B i → ¬ S i) (hk : k ≤ k') : PW w' base n p g q A B k' := by
  obtain ⟨c, o, v, m, l, a, b, th, bk, h1, h2, h3, h4⟩ := h
  exact ⟨c, o, v, m, l, a, b, th, bk, h1.fr hf (hS p (.inl (.inl rfl))) (hS g (.inl (.inr rfl))), h2.fr hf (hS q (.inr (.inl rfl))) (fun k hk => hS k (.inr (.inr (.inl hk)))) (fun k hk => hS k (.inr (.inr (.inr hk)))), h3, Nat.le_trans h4 hk⟩
/-- A copy of both. -/
theorem PW.copy {w : World} {base n p g q k : Nat} {A B : Option Addr} (h : PW w base n p g q A B k) (hb : base ≤ w.heap.size) :
    Calls Try.prog 16 #[.pointer (some ⟨p, 0, none⟩)] w fun e w1 => ∃ p2, e = .returned (.pointer (some ⟨p2, 0, none⟩)) ∧ Calls Try.prog 17 #[.pointer (some ⟨q, 0, none⟩)] w1 fun e w2 => ∃ q2, e = .returned (.pointer (some ⟨q2, 0, none⟩)) ∧
      ∃ g2 A2 B2, PW w2 base n p2 g2 q2 A2 B2 k ∧ PW w2 base n p g q A B k ∧ (∀ i, ft5 p2 g2 q2 A2 B2 i → w.heap.size ≤ i) ∧ Below w.heap.size w w2 := by
  have hlt := h.lt
  have hw := h
  obtain ⟨c, o, v, m, l, a, b, th, bk, h1, h2, h3, h4⟩ := h
  refine (copyS w p g n c o v m l h1).mono ?_
  rintro e w1 ⟨p2, rfl, g2, c2, r1, hp2, hg2, b1⟩
  refine ⟨p2, rfl, (rCopy w1 base q A a B b n th bk (h2.new b1) (Nat.le_trans hb b1.size)).mono ?_⟩
  rintro e w2 ⟨q2, rfl, A2, a2, B2, b2, r2, hq2, hA2, hB2, m2⟩
  have hw2 : Below w.heap.size w w2 := b1.trans (m2.mono b1.size)
  refine ⟨q2, rfl, g2, A2, B2, ⟨c2, o, v, m, l, a2, b2, th, bk, r1.fr (S := noB) (Fr.of_new m2) (fun h => h) (fun h => h), r2, h3, h4⟩, hw.fr (S := noB) (Fr.of_new hw2) (fun _ _ h => h) (Nat.le_refl _), ?_, hw2⟩
  have hsz := b1.size
  rintro i ((rfl | rfl) | rfl | hh | hh)
  · exact hp2
  · exact hg2
  · omega
  · have := hA2 i hh; omega
  · have := hB2 i hh; omega

def Cur (w W : World) (n p g q : Nat) (A B : Option Addr) (i : Nat) : Prop := PW W w.heap.size n p g q A B i ∧ (∀ k, ft5 p g q A B k → w.heap.size ≤ k) ∧ Below w.heap.size w W
def Old (w W : World) (n p g q : Nat) (A B : Option Addr) (i : Nat) (ov sv : Value) : Prop :=
  (ov = .pointer none ∧ sv = .pointer none) ∨ ∃ p' g' q' A' B', ov = .pointer (some ⟨p', 0, none⟩) ∧ sv = .pointer (some ⟨q', 0, none⟩) ∧ PW W w.heap.size n p' g' q' A' B' i ∧ ∀ k, ft5 p' g' q' A' B' k → ¬ ft5 p g q A B k
section
variable {w W V : World} {n p g q i : Nat} {A B : Option Addr} {ov sv : Value}
theorem Cur.new (h : Cur w W n p g q A B i) (hb : Below W.heap.size W V) : Cur w V n p g q A B i :=
  ⟨h.1.fr (S := noB) (Fr.of_new hb) (fun _ _ h => h) (Nat.le_refl _), h.2.1, h.2.2.trans (hb.mono h.2.2.size)⟩
theorem Old.new (h : Old w W n p g q A B i ov sv) (hb : Below W.heap.size W V) : Old w V n p g q A B i ov sv := by
  rcases h with h | ⟨p', g', q', A', B', e1, e2, h1, h2⟩
  · exact .inl h
  · exact .inr ⟨p', g', q', A', B', e1, e2, h1.fr (S := noB) (Fr.of_new hb) (fun _ _ h => h) (Nat.le_refl _), h2⟩
theorem Cur.step (h : Cur w W n p g q A B i) (ho : Old w W n p g q A B i ov sv) {e : Ending} (hd : DoPost W w.heap.size n p g q A B (i + 1) e V) : e = .returned (.bool true) ∧ ∃ A' B', Cur w V n p g q A' B' (i + 1) ∧ Old w V n p g q A' B' (i + 1) ov sv := by
  obtain ⟨he, A', B', hP, hA, hB, hf⟩ := hd
  have hsz := h.2.2.size
  have hback : ∀ k, ft5 p g q A' B' k → ft5 p g q A B k ∨ W.heap.size ≤ k := by
    rintro k ((rfl | rfl) | rfl | hh | hh)
    · exact .inl (.inl (.inl rfl))
    · exact .inl (.inl (.inr rfl))
    · exact .inl (.inr (.inl rfl))
    · exact (hA k hh).imp (fun h => .inr (.inr (.inl h))) id
    · exact (hB k hh).imp (fun h => .inr (.inr (.inr h))) id
  refine ⟨he, A', B', ⟨hP, fun k hk => ?_, h.2.2.trans (hf.below h.2.1 hsz)⟩, ?_⟩
  · rcases hback k hk with hh | hh
    · exact h.2.1 k hh
    · omega
  · rcases ho with ho | ⟨p', g', q', A2, B2, e1, e2, h1, h2⟩
    · exact .inl ho
    · refine .inr ⟨p', g', q', A2, B2, e1, e2, h1.fr hf h2 (by omega), fun k hk hk2 => ?_⟩
      rcases hback k hk2 with hh | hh
      · exact h2 k hk hh
      · have := h1.lt k hk; omega
theorem Cur.copied (h : Cur w W n p g q A B i) {p2 g2 q2 : Nat} {A2 B2 : Option Addr} (h2 : PW V w.heap.size n p2 g2 q2 A2 B2 i) (h1 : PW V w.heap.size n p g q A B i) (hn : ∀ k, ft5 p2 g2 q2 A2 B2 k → W.heap.size ≤ k) (hb : Below W.heap.size W V) :
    Cur w V n p2 g2 q2 A2 B2 i ∧ Old w V n p2 g2 q2 A2 B2 i (.pointer (some ⟨p, 0, none⟩)) (.pointer (some ⟨q, 0, none⟩)) := by
  have hsz := h.2.2.size
  refine ⟨⟨h2, fun k hk => Nat.le_trans hsz (hn k hk), h.2.2.trans (hb.mono hsz)⟩, .inr ⟨p, g, q, A, B, rfl, rfl, h1, fun k hk hk2 => ?_⟩⟩
  have := h.1.lt k hk
  have := hn k hk2
  omega
/-- The first pair. -/
theorem Cur.first {g c : Nat} (hR : RWS W p g n c (fun _ => false) (fun _ => ⟨#[]⟩) 0 0) (hp : w.heap.size ≤ p) (hg : w.heap.size ≤ g) (hb : Below w.heap.size w W) (hn : n ≤ 64) :
    Cur w (W.alloc (.cells #[.int .i64 n, .slice none 0 0, .slice none 0 0] 45)) n p g W.heap.size none none 0 := by
  have hn2 : Below W.heap.size W (W.alloc (.cells #[.int .i64 n, .slice none 0 0, .slice none 0 0] 45)) := (Below.refl _ W).alloc (Nat.le_refl _) _
  refine ⟨⟨c, _, _, 0, 0, 0, 0, [], [], hR.fr (S := noB) (Fr.of_new hn2) (fun h => h) (fun h => h), ⟨Blk.new W 45 _, ⟨by simp [strsV], .inl ⟨rfl, rfl⟩⟩, ⟨by simp [boolsV], .inl ⟨rfl, rfl⟩⟩, rfl, by simp, hn⟩, Rel.start n, Nat.le_refl _⟩, ?_, hb.trans (hn2.mono hb.size)⟩
  rintro k ((rfl | rfl) | rfl | hh | hh)
  · exact hp
  · exact hg
  · exact hb.size
  · cases hh
  · cases hh
end
end Go.Proofs.Ytmdohddiddlpiaa
