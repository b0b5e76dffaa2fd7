/- A range over a function that tells things which lie in memory, and that may write at its end. Conditions: those that each states. -/
import Derived.Test.YtbbjbbcakfmpgaaSeq
import Derived.RangeFuncIn
namespace Go.Proofs.Ytbbjbbcakfmpgaa
open Go.RowKit Go.Shelf

theorem room_none {F : Fence} (hd : F.depth = none) (k : Nat) : F.room k := fun d h => by rw [hd] at h; cases h
theorem roundIn_any {F : Fence} (hd : F.depth = none) {m : Nat} (m' : Nat) {P : Program} {l : Nat} {f : FuncId} {tmps : Array Value} {assign body : Code} {w : World} {R : Ending → World → Prop}
    (h : RoundIn F m P l f tmps assign body w R) : RoundIn F m' P l f tmps assign body w R := ⟨h.1, fun c cs _ => h.2 c cs (room_none hd _)⟩
theorem yieldAt_any {F : Fence} (hd : F.depth = none) {m : Nat} (m' : Nat) {P : Program} {l : Nat} {args : Array Value} {W : World} {R : Ending → World → Prop} (h : YieldAt F m P l args W R) : YieldAt F m' P l args W R := by
  obtain ⟨fn, tmps, assign, body, hy, hR⟩ := h
  exact ⟨fn, tmps, assign, body, hy, roundIn_any hd m' hR⟩

/-- What an iterator owes: of each thing that it tells the round learns how it lies (G, beyond the size that the heap had at the last word of J); at its end it may still write (Fin). -/
def SeqG {α : Type} (n : Nat) (P : Program) (g : Nat) (lb : Array Value) (encs : α → Array Value) (Kp : World → World → Prop) (G : List α → α → Nat → World → Prop) (S Sp : List α → Prop) (Fin : World → World → World → Prop) (w : World) : Prop :=
  ∀ (l : Nat) (J Jx : List α → World → Prop) (W : World), Below w.heap.size w W → OwnFrom W.heap.size J → OwnFrom W.heap.size Jx →
    (∀ pre x W0 W1, J pre W0 → Below W0.heap.size W0 W1 → G pre x W0.heap.size W1 → YieldAt Fence.wide (n - 1) P l (encs x) W1 fun e W' =>
      (e = .returned (.bool true) ∧ J (pre ++ [x]) W' ∧ Kp W1 W' ∧ KeepsFrom W.heap.size W1 W') ∨ (e = .returned (.bool false) ∧ Jx (pre ++ [x]) W' ∧ KeepsFrom W.heap.size W1 W')) →
    J [] W →
    CallsIn Fence.wide n P g (#[.func (.yield l) #[] #[]] ++ lb) W fun e W' => (∃ v, e = .returned v) ∧ ((∃ xs W1, S xs ∧ J xs W1 ∧ Fin W W1 W') ∨ (∃ pre, Sp pre ∧ Jx pre W'))

theorem ownFrom_below {β : Type} {B : Nat} {J : β → World → Prop} (h : OwnFrom B J) {s : β} {W W' : World} (hs : J s W) (hb : Below W.heap.size W W') : J s W' :=
  h s W W' none hs (grown_below hb) (fun r e => by cases e)
theorem OwnFrom.more {β : Type} {B C : Nat} {J : β → World → Prop} (h : OwnFrom B J) (hc : B ≤ C) : OwnFrom C J :=
  fun s W W' row hs hg hr => h s W W' row hs hg (fun r e => ⟨Nat.le_trans hc (hr r e).1, (hr r e).2⟩)

/-- The range's law over such an iterator. -/
theorem range_seqG {α : Type} {n : Nat} {P : Program} {g : Operand} {ps : Array Tmp} {assign body : Code} {Q : Exit → Act → World → Prop} {a : Act} {w : World}
    {gf : Nat} {lb : Array Value} (hg : a.eval g = .func (.func gf) #[] lb) (eg : ∀ args w, (callFunc gf args).run P w = .ok (.enter gf args) w)
    {encs : α → Array Value} {Kp : World → World → Prop} {G : List α → α → Nat → World → Prop} {S Sp : List α → Prop} {Fin : World → World → World → Prop} {w0 : World}
    (hseq : SeqG (n - 1) P gf lb encs Kp G S Sp Fin w0)
    (hKt : ∀ {A B C : World}, Kp A B → Kp B C → Kp A C) (hKb : ∀ (W : World) (l : Nat) (o o' : Obj), W.heap[l]? = some o → o.isCells = false → Kp W (W.putObj l o')) (hb0 : Below w0.heap.size w0 w) (hps : ∀ x, (encs x).size = ps.size)
    (I I2 : List α → World → Prop) (Ix : Code → List α → World → Prop) (hI : OwnFrom w.heap.size I) (hI2 : OwnFrom w.heap.size I2) (hIx : ∀ c, OwnFrom w.heap.size (Ix c)) (h0 : I [] w)
    (R : List α → α → Act → World → Prop) (hR : ∀ pre x a', OwnFrom w.heap.size (fun (_ : Unit) W => R pre x a' W))
    (hassign : ∀ (l : Nat) (pre : List α) (x : α) (W0 W : World) (K : Act → World → Prop), I pre W0 → Below W0.heap.size W0 W → G pre x W0.heap.size W → (∀ a' W', KeepsFrom w.heap.size W W' → Kp W W' → R pre x a' W' → K a' W') →
      assign.wpIn (Fence.wide.inRound l) (n - 1 - 1) P (Exit.then K (fun _ _ _ => False)) { tmps := (ps.zip (encs x)).foldl (fun t (p, v) => t.setIfInBounds p v) a.tmps, defers := [] } W)
    (hbody : ∀ (l : Nat) (pre : List α) (x : α) (a' : Act) (W : World), R pre x a' W → body.wpIn (Fence.wide.inRound l) (n - 1 - 1) P (ownPostG w.heap.size Kp I Ix (pre ++ [x]) W) a' W)
    (hfin : ∀ (xs : List α) (W W1 W2 : World), w.heap.size ≤ W.heap.size → S xs → I xs W1 → Fin W W1 W2 → I2 xs W2 ∧ KeepsFrom w.heap.size W1 W2)
    (hdone : ∀ (D : Nat) (xs : List α) (W : World), w.heap.size ≤ D → S xs → I2 xs W → W.heap[D]? = some (.deferred (some [])) → Q .normal { a with defers := { target := .collected D, args := #[] } :: a.defers } W)
    (hstop : ∀ (D : Nat) (c : Code) (pre : List α) (W : World), w.heap.size ≤ D → Sp pre → Ix c pre W → W.heap[D]? = some (.deferred (some [])) → c.wpIn Fence.wide n P Q { a with defers := { target := .collected D, args := #[] } :: a.defers } W) :
    (Code.rangeFunc g ps assign body).wpIn Fence.wide n P Q a w := by
  refine wpIn_rangeFunc ?_
  intro fn hfn
  obtain ⟨rec, hrec⟩ : ∃ rec : LoopState → Option Code → Loop, rec = fun st pe => { state := st, pending := pe, fn, tmps := a.tmps, params := ps, assign, body, defers := w.heap.size } := ⟨_, rfl⟩
  obtain ⟨b, hbs⟩ : ∃ b, w.heap.size = b := ⟨_, rfl⟩
  obtain ⟨V, hV⟩ : ∃ V, (w.alloc (.deferred (some []))).alloc (.loop (rec .ready none)) = V := ⟨_, rfl⟩
  have vl : V.heap[b + 1]? = some (.loop (rec .ready none)) := by
    have := World.alloc_heap_new (w.alloc (.deferred (some []))) (.loop (rec .ready none))
    rw [hV, World.size_alloc, hbs] at this
    exact this
  have vd : V.heap[b]? = some (.deferred (some [])) := by
    rw [← hV, ← hbs]
    exact (Below.heap_alloc _ _ _ (by simp)).trans (World.alloc_heap_new w _)
  have vs : V.heap.size = b + 2 := by rw [← hV]; simp [hbs]
  have vb : Below w.heap.size w V := by rw [← hV]; exact ((Below.refl _ w).alloc (Nat.le_refl _) _).alloc (by simp) _
  have vi : I [] V := by rw [← hV]; exact hI.alloc _ (hI.alloc _ h0)
  rw [hbs] at hI hI2 hIx hR hassign hbody hfin hdone hstop
  refine ⟨b + 1, [{ target := .collected b, args := #[] }], V, { target := .fn (.func gf) lb, args := #[.func (.yield (b + 1)) #[] #[]] }, V, gf, #[.func (.yield (b + 1)) #[] #[]] ++ lb, V, ?_, ?_, fun _ _ => trivial, ?_, fun h => (by cases h), ?_⟩
  · rw [← hV, hrec, ← hbs]; exact run_enterLoop_outer _ _ _ _ _
  · simp only [resolve, hg]
    simp [go_sem]
  · simp [invoke, go_sem, eg]
  -- what the book-keeping says
  let Bk : LoopState → Option Code → World → Prop := fun st pe W => W.heap[b + 1]? = some (.loop (rec st pe)) ∧ W.heap[b]? = some (.deferred (some []))
  have bko : ∀ st pe {A B : World} {row : Option Nat}, Bk st pe A → A.grownBy B row → (∀ r, row = some r → V.heap.size ≤ r ∧ ∃ o : Obj, A.heap[r]? = some o ∧ o.isCells = false) → Bk st pe B := by
    intro st pe A B row hs hgr hr
    have ne : ∀ k, k < b + 2 → row ≠ some k := fun k hk e => by have := (hr k e).1; omega
    exact ⟨(hgr.block _ (Array.getElem?_eq_some_iff.1 hs.1).1 (fun e => ne _ (by omega) e.symm)).trans hs.1, (hgr.block _ (Array.getElem?_eq_some_iff.1 hs.2).1 (fun e => ne _ (by omega) e.symm)).trans hs.2⟩
  have bkk : ∀ st pe {A B : World}, Bk st pe A → KeepsFrom b A B → Bk st pe B := fun st pe A B hs hk => ⟨hk.same _ _ (by omega) hs.1 rfl, hk.same _ _ (Nat.le_refl _) hs.2 rfl⟩
  have bkp : ∀ st pe st' pe' {A : World}, Bk st pe A → Bk st' pe' (A.putObj (b + 1) (.loop (rec st' pe'))) := fun st pe st' pe' A hs =>
    ⟨World.putObj_heap_same (Array.getElem?_eq_some_iff.1 hs.1).1, (World.putObj_heap_other (by omega)).trans hs.2⟩
  have own2 : ∀ {β : Type} {J : β → World → Prop}, OwnFrom b J → OwnFrom V.heap.size J := fun h => OwnFrom.more h (by omega)
  refine (hseq (b + 1) (fun pre W => I pre W ∧ Bk .ready none W) (fun pre W => ∃ c, Ix c pre W ∧ Bk .done (some c) W) V (hb0.trans (vb.mono hb0.size))
    (fun s A B row hs hgr hr => ⟨own2 hI s A B row hs.1 hgr hr, bko _ _ hs.2 hgr hr⟩)
    (fun s A B row hs hgr hr => by obtain ⟨c, h1, h2⟩ := hs; exact ⟨c, own2 (hIx c) s A B row h1 hgr hr, bko _ _ h2 hgr hr⟩) ?_ ⟨vi, vl, vd⟩).mono ?_
  · -- a round
    rintro pre x W0 W ⟨hi, hk0⟩ hbw hG
    have hk : Bk .ready none W := bkk _ _ hk0 ⟨hbw.size, fun k o _ ho _ => (hbw.block k (Array.getElem?_eq_some_iff.1 ho).1).trans ho⟩
    have hy := run_yield (P := P) (args := encs x) hk.1 (by rw [hrec]; exact hps x)
    rw [hrec] at hy
    refine ⟨fn, _, assign, body, hy, roundIn_of_wpIn hfn (hassign _ pre x W0 W _ hi hbw hG ?_)⟩
    clear hy hG hi hk0
    intro a' Wa kfa kpa hr
    have hka := bkk _ _ hk kfa
    refine ⟨_, run_beginRound hka.1 (by rw [hrec]), ?_⟩
    have hkb : Bk .busy none (Wa.putObj (b + 1) (.loop (rec .busy none))) := bkp _ _ .busy none hka
    have ep : (Obj.loop { rec .ready none with state := .busy }) = Obj.loop (rec .busy none) := by rw [hrec]
    rw [ep]
    refine wpIn_mono (hbody _ pre x a' _ ((hR pre x a').putObj (s := ()) _ hr (by omega) hka.1 rfl)) ?_
    have kpb : Kp W (Wa.putObj (b + 1) (.loop (rec .busy none))) := hKt kpa (hKb _ _ _ _ hka.1 rfl)
    have kff : ∀ (W3 : World) (o : Obj), KeepsFrom b (Wa.putObj (b + 1) (.loop (rec .busy none))) W3 → KeepsFrom V.heap.size W (W3.putObj (b + 1) o) := by
      intro W3 o k3
      refine ⟨by have := kfa.size; have := k3.size; simp only [World.putObj_size] at *; omega, fun k o' hk ho' hc => ?_⟩
      have hk1 : k ≠ b + 1 := by omega
      exact (World.putObj_heap_other hk1).trans (k3.same k o' (by omega) ((World.putObj_heap_other hk1).trans (kfa.same k o' (by omega) ho' hc)) hc)
    have fin : ∀ (jump : Option Code) (W3 : World), KeepsFrom b (Wa.putObj (b + 1) (.loop (rec .busy none))) W3 →
        (Instr.endRound (b + 1) jump).run P W3 = .ok (.bool jump.isNone) (W3.putObj (b + 1) (.loop (rec (if jump.isNone then .ready else .done) jump))) ∧ Bk .busy none W3 := by
      intro jump W3 k3
      have hk3 := bkk _ _ hkb k3
      have hl := hk3.1
      rw [hrec] at hl
      have h := run_endRound (P := P) jump hl
      rw [hrec]
      exact ⟨h, hk3⟩
    rintro e a3 W3 hp
    cases e with
    | normal =>
      obtain ⟨k3, kp3, i3⟩ := hp
      obtain ⟨hrun, hb3⟩ := fin none W3 k3
      exact ⟨_, _, hrun, .inl ⟨rfl, ⟨hI.putObj _ i3 (by omega) hb3.1 rfl, bkp _ _ _ _ hb3⟩, hKt (hKt kpb kp3) (hKb _ _ _ _ hb3.1 rfl), kff _ _ k3⟩⟩
    | ret =>
      obtain ⟨k3, i3⟩ := hp
      obtain ⟨hrun, hb3⟩ := fin (some .ret) W3 k3
      exact ⟨_, _, hrun, .inr ⟨rfl, ⟨.ret, (hIx _).putObj _ i3 (by omega) hb3.1 rfl, bkp _ _ _ _ hb3⟩, kff _ _ k3⟩⟩
    | exit id =>
      obtain ⟨k3, i3⟩ := hp
      obtain ⟨hrun, hb3⟩ := fin (some (.exit id)) W3 k3
      exact ⟨_, _, hrun, .inr ⟨rfl, ⟨.exit id, (hIx _).putObj _ i3 (by omega) hb3.1 rfl, bkp _ _ _ _ hb3⟩, kff _ _ k3⟩⟩
    | goto t =>
      obtain ⟨k3, i3⟩ := hp
      obtain ⟨hrun, hb3⟩ := fin (some (.goto t)) W3 k3
      exact ⟨_, _, hrun, .inr ⟨rfl, ⟨.goto t, (hIx _).putObj _ i3 (by omega) hb3.1 rfl, bkp _ _ _ _ hb3⟩, kff _ _ k3⟩⟩
    | panic ch => exact hp.elim
    | outgrown => exact hp.elim
  · -- behind it
    rintro e W2 ⟨⟨v, rfl⟩, (⟨xs, W1, hS, ⟨hi, hk1⟩, hF⟩ | ⟨pre, hSp, c, hi, hk⟩)⟩
    · obtain ⟨i2, kf⟩ := hfin xs V W1 W2 (by omega) hS hi hF
      have hk := bkk _ _ hk1 kf
      refine ⟨none, _, by have h := run_endLoop (P := P) hk.1 (by rw [hrec]; simp); rw [hrec] at h; exact h, hdone _ xs _ (Nat.le_refl _) hS (hI2.putObj _ i2 (by omega) hk.1 rfl) ((World.putObj_heap_other (by omega)).trans hk.2)⟩
    · refine ⟨some c, _, by have h := run_endLoop (P := P) hk.1 (by rw [hrec]; simp); rw [hrec] at h; exact h, hstop _ c pre _ (Nat.le_refl _) hSp ((hIx c).putObj _ hi (by omega) hk.1 rfl) ((World.putObj_heap_other (by omega)).trans hk.2)⟩
end Go.Proofs.Ytbbjbbcakfmpgaa
