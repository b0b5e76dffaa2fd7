/- Words for a range over a function: what a body keeps, what abides the iterator's own steps. Conditions: those that each states. -/
import Derived.Test.YtbbjbbcakfmpgaaWords
import Derived.RangeFuncNested
import Derived.RangeFuncBound
import Derived.RangeFuncCalls
import Derived.RangeFuncLeaves
import Derived.Shelf.Abstract
import Derived.OwnWalkIn
import Derived.TacticsInMore
import Derived.LoopNIn
import Derived.LoopIn
import Derived.RangeFuncBox
namespace Go.Proofs.Ytbbjbbcakfmpgaa
open Go.RowKit

/-- What a round keeps for the iterator: every block of cells of some types, at or beyond B. -/
def KpFrom (T : TypeId → Prop) (B : Nat) (W W' : World) : Prop := ∀ k cs t q, B ≤ k → T t → W.heap[k]? = some (.cells cs t q) → W'.heap[k]? = some (.cells cs t q)
theorem KpFrom.t {T : TypeId → Prop} {B : Nat} {X Y Z : World} (h : KpFrom T B X Y) (k : KpFrom T B Y Z) : KpFrom T B X Z := fun i cs t q hi ht hx => k i cs t q hi ht (h i cs t q hi ht hx)
theorem KpFrom.b {T : TypeId → Prop} {B : Nat} (W : World) (l : Nat) (o o' : Obj) (h : W.heap[l]? = some o) (hc : o.isCells = false) : KpFrom T B W (W.putObj l o') := by
  intro k cs t q _ _ hx
  by_cases e : k = l
  · subst e
    rw [h] at hx
    cases hx
    cases hc
  · exact (World.putObj_heap_other e).trans hx
theorem KpFrom.refl (T : TypeId → Prop) (B : Nat) (W : World) : KpFrom T B W W := fun _ _ _ _ _ _ h => h
/-- A frame of blocks below B, or of other types. -/
theorem KpFrom.fr {T : TypeId → Prop} {B : Nat} {S : Nat → Prop} {W W' : World} (h : Fr S W W') (hs : ∀ k, S k → k < B ∨ ∃ cs t, Blk W k t cs ∧ ¬ T t) : KpFrom T B W W' :=
  fun k cs t q hk ht ho => (h.block k (Array.getElem?_eq_some_iff.1 ho).1 (fun e => by
    rcases hs k e with h1 | ⟨cs', t', h1, h2⟩
    · omega
    · unfold Blk at h1
      rw [h1] at ho
      cases ho
      exact h2 ht)).trans ho
theorem Blk.kp {T : TypeId → Prop} {B : Nat} {W W' : World} {g : Nat} {t : TypeId} {cs : Array Value} (h : Blk W g t cs) (hk : KpFrom T B W W') (hg : B ≤ g) (ht : T t) : Blk W' g t cs := hk g _ _ _ hg ht h
/-- A frame that turns blocks of cells alone keeps what is no cells. -/
theorem keeps_fr {S : Nat → Prop} {W W' : World} (h : Fr S W W') (hs : ∀ k, S k → ∃ o, W.heap[k]? = some o ∧ o.isCells = true) : KeepsOthers W W' :=
  ⟨h.size, fun k o hk ho => (h.block k (Array.getElem?_eq_some_iff.1 hk).1 (fun e => by
    obtain ⟨o2, h2, hc⟩ := hs k e
    rw [hk] at h2
    cases h2
    rw [ho] at hc
    cases hc)).trans hk⟩
theorem keepsFrom_fr {B : Nat} {S : Nat → Prop} {W W' : World} (h : Fr S W W') (hs : ∀ k, S k → k < B ∨ ∃ cs t, Blk W k t cs) : KeepsFrom B W W' :=
  ⟨h.size, fun k o hB hk ho => (h.block k (Array.getElem?_eq_some_iff.1 hk).1 (fun e => by
    rcases hs k e with h1 | ⟨cs, t, h1⟩
    · omega
    · unfold Blk at h1
      rw [h1] at hk
      cases hk
      cases ho)).trans hk⟩
theorem own_is_blk {W : World} {base n size k : Nat} {e : TypeId} {v : Value} {xs : List Value} (h : W.ownsRow base e size v n xs) (hk : v.ownBlock = some k) : ∃ cs, Blk W k e cs := by
  rcases h.2 with ⟨rfl, _⟩ | ⟨g, cap, cur, rfl, _, hh, _⟩
  · cases hk
  · have : g = k := by simpa [Value.ownBlock] using hk
    subst this
    exact ⟨cur, hh⟩
theorem grown_below {W W' : World} (h : Below W.heap.size W W') : W.grownBy W' none := ⟨h.os, h.tape, h.output, h.size, fun k hk _ => h.block k hk⟩
theorem grown_drewN (W : World) (n : Nat) : W.grownBy (W.drewN n) none := grown_below (below_drewN (Below.refl _ W) n)
theorem abides_new {β : Type} {B : Nat} {J : β → World → Prop} (h : AbidesFrom B J) {s : β} {W W' : World} (hs : J s W) (hb : Below W.heap.size W W') : J s W' :=
  h s W W' none hs (grown_below hb) (fun r e => by cases e)
theorem abides_drewN {β : Type} {B : Nat} {J : β → World → Prop} (h : AbidesFrom B J) {s : β} {W : World} (hs : J s W) (n : Nat) : J s (W.drewN n) :=
  abides_new h hs (below_drewN (Below.refl _ W) n)
/-- A block abides the turn of what is no cells. -/
theorem Blk.turn {W W' : World} {g : Nat} {t : TypeId} {cs : Array Value} {row : Option Nat} (h : Blk W g t cs) (hg : W.grownBy W' row) (hr : ∀ r, row = some r → ∃ o : Obj, W.heap[r]? = some o ∧ o.isCells = false) : Blk W' g t cs :=
  (hg.block g h.lt (fun e => by
    obtain ⟨o, h2, hc⟩ := hr g e.symm
    unfold Blk at h
    rw [h] at h2
    cases h2
    cases hc)).trans h
theorem own_turn {W W' : World} {base n size : Nat} {e : TypeId} {v : Value} {xs : List Value} {row : Option Nat} (h : W.ownsRow base e size v n xs) (hg : W.grownBy W' row) (hr : ∀ r, row = some r → ∃ o : Obj, W.heap[r]? = some o ∧ o.isCells = false) : W'.ownsRow base e size v n xs := by
  refine ⟨h.1, ?_⟩
  rcases h.2 with h2 | ⟨g, cap, cur, hv, hb, hh, r⟩
  · exact .inl h2
  · exact .inr ⟨g, cap, cur, hv, hb, Blk.turn (t := e) (cs := cur) hh hg hr, r⟩
theorem Fr.putObj {S : Nat → Prop} {a W : World} (h : Fr S a W) {D : Nat} (hD : a.heap.size ≤ D) (o : Obj) : Fr S a (W.putObj D o) :=
  h.grown (grownBy_putObj' W D o) (fun k hk e => by cases e; omega)
/-- A range over a function whose variables nobody reads. -/
theorem wpIn_range_skip {α : Type} {F : Fence} {n : Nat} {P : Program} {g : Operand} {ps : Array Tmp} {body : Code} {Q : Exit → Act → World → Prop} {a : Act} {w : World}
    (hro : F.round = none) (h1 : 1 ≤ n) {gf : Nat} {lb : Array Value} (hg : a.eval g = .func (.func gf) #[] lb) (hFg : F.fn gf) (eg : ∀ args w, (callFunc gf args).run P w = .ok (.enter gf args) w)
    {encs : α → Array Value} {Kp : World → World → Prop} {S Sp : List α → Prop} {N : Nat} {w0 : World} (hseq : SeqStopsK F (n - 1) P gf lb encs Kp S Sp N w0)
    (hKt : ∀ {A B C : World}, Kp A B → Kp B C → Kp A C) (hKb : ∀ (W : World) (l : Nat) (o o' : Obj), w.heap.size ≤ l → W.heap[l]? = some o → o.isCells = false → o.isWalk = false → Kp W (W.putObj l o')) (hb0 : Below w0.heap.size w0 w) (hps : ∀ x, (encs x).size = ps.size)
    (I : List α → World → Prop) (Ix : Code → List α → World → Prop) (hI : OwnFrom w.heap.size I) (hIx : ∀ c, OwnFrom w.heap.size (Ix c)) (h0 : I [] w)
    (hbody : ∀ (l : Nat) (pre : List α) (x : α) (W : World), I pre W → pre.length < N → body.wpIn (F.inRound l) (n - 1 - 1) P (ownPostG w.heap.size Kp I Ix (pre ++ [x]) W) { tmps := (ps.zip (encs x)).foldl (fun t (p, v) => t.setIfInBounds p v) a.tmps, defers := [] } W)
    (hdone : ∀ (D : Nat) (xs : List α) (W : World), w.heap.size ≤ D → S xs → I xs W → W.heap[D]? = some (.deferred (some [])) → Q .normal { a with defers := { target := .collected D, args := #[] } :: a.defers } W)
    (hstop : ∀ (D : Nat) (c : Code) (pre : List α) (W : World), w.heap.size ≤ D → Sp pre → Ix c pre W → W.heap[D]? = some (.deferred (some [])) → c.wpIn F n P Q { a with defers := { target := .collected D, args := #[] } :: a.defers } W) :
    (Code.rangeFunc g ps Code.skip body).wpIn F n P Q a w :=
  wpIn_rangeFunc_ownG hro h1 hg hFg eg hseq (fun h k => hKt h k) hKb hb0 hps I Ix hI hIx h0 (fun x => { tmps := (ps.zip (encs x)).foldl (fun t (p, v) => t.setIfInBounds p v) a.tmps, defers := [] }) (fun _ _ _ _ hK => wpIn_skip hK) hbody hdone hstop
/-- append, in a round. -/
theorem wpListIn_append_any {F : Fence} {N : Nat} {P : Program} (w : World) {ops : Array Oper} {rest : List Oper} {o : Oper} {a : Act} {Q : Exit → Act → World → Prop} (hgd : o.guard = none) (s x : Operand) (t : TypeId)
    (ho : o.op = .call { callee := .builtin .append, args := #[s, x], argTypes := #[t, t] })
    (base : Nat) (e : TypeId) (i : TypeInfo) (z : Value) (size bytes : Nat) (ht : P.underlying t = some (.slice e)) (hi : P.info? e = some i) (hz : i.zero = some z)
    (hsize : i.size = size) (hby : i.bytes = bytes) (hzs : z.cells.size = size) (hsz : 0 < size)
    (v : Value) (n : Nat) (xs : List Value) (hs : a.eval s = v) (hown : w.ownsRow base e size v n xs)
    (B : Nat) (A : Option Addr) (m c : Nat) (news : List Value) (hx : a.eval x = .slice A m c) (hr : Reads w B size A m news) (h1 : ∀ u ∈ news, u.oneCell' = true)
    (h63 : n + m ≤ maxLen) (hbytes : (n + m) * bytes ≤ 140737488355328) (hbase : base ≤ w.heap.size)
    (h : ∀ v' w', w'.ownsRow base e size v' (n + m) (xs ++ news) → w.grownBy w' v.ownBlock → (v'.ownBlock = v.ownBlock ∨ v'.ownBlock = some w.heap.size) → wpListIn F N P ops Q rest (a.put o.dst v') w') : wpListIn F N P ops Q (o :: rest) a w := by
  refine wpListIn_plain hgd fun K hK => ?_
  obtain ⟨v', w', hrun, h2, h3, h4⟩ := run_append_any (P := P) w base t o.type e i z size bytes ht hi hz hsize hby hzs hsz v n xs hown B A m c news hr h1 h63 hbytes hbase
  unfold Oper.wpIn
  refine ⟨?_, ?_⟩
  · simp [Oper.about, ho, resolve, Target.leads, Sem.run_pure]
  · rw [Oper.semAt_plain F _ _ (by rw [ho]; intro c hc'; cases hc')]
    simp [execOp, ho, resolve, invoke, builtin, hs, hx, hrun, Result.andThen]
    exact hK _ _ (h v' w' h2 h3 h4)
end Go.Proofs.Ytbbjbbcakfmpgaa
