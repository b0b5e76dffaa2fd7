/- wicketlaw16.goes: a going over tells what is there, left behind some, and once more. Conditions: those that it states. -/
import Derived.Test.YtbbjbbcakfmpgaaSeqS
namespace Go.Proofs.Ytbbjbbcakfmpgaa
open Go.RowKit Go.Shelf
attribute [local go_sem] Oper.semAt_some

theorem fr_setS (W : World) (p : Addr) (u : Value) : Fr (fun k => k = p.block) W (W.setCell p u) := (Fr.refl (fun k => k = p.block) W).setCell (fun _ => rfl) u
theorem keepsFrom_setS {B : Nat} {W : World} {p : Addr} {t : TypeId} {cs : Array Value} (h : Blk W p.block t cs) (u : Value) : KeepsFrom B W (W.setCell p u) :=
  keepsFrom_fr (fr_setS W p u) fun k e => by subst e; exact .inr ⟨cs, t, h⟩
theorem kp_setS {n : Nat} {W : World} {p : Addr} {t : TypeId} {cs : Array Value} (h : Blk W p.block t cs) (ht : ¬ itT t) (u : Value) : KpFrom itT n W (W.setCell p u) :=
  KpFrom.fr (fr_setS W p u) fun k e => by subst e; exact .inr ⟨cs, t, h, ht⟩

/-- What goes holds. -/
structure GoI (w : World) (s a : Nat) (vA vL : Value) (n : Nat) (vs : List Value) (leave : Int) (Ds : List Nat) (T : Nat) (turn : Int) (K : Nat) (k : Nat) (W : World) : Prop where
  l : Blk W w.heap.size 38 #[vL]
  leave_ : Blk W (w.heap.size + 1) 3 #[.int .i64 leave]
  res : Blk W (w.heap.size + 2) 4 #[.bool false]
  turn_ : Blk W T 3 #[.int .i64 turn]
  k_ : Blk W K 3 #[.int .i64 k]
  box : Blk W a 38 #[vA]
  row : W.ownsRow s 9 1 vA n vs
  mark : ∀ D, D ∈ Ds → W.heap[D]? = some (.deferred (some []))
  below : Below w.heap.size w W
section
variable {w : World} {s a : Nat} {vA vL : Value} {n : Nat} {vs : List Value} {leave : Int} {Ds : List Nat} {T : Nat} {turn : Int} {K k : Nat} {W W' : World} {row : Option Nat}
theorem GoI.grow (h : GoI w s a vA vL n vs leave Ds T turn K k W) (hg : W.grownBy W' row) (hr : ∀ r, row = some r → w.heap.size ≤ r ∧ ∃ o : Obj, W.heap[r]? = some o ∧ o.isCells = false) (hD : ∀ r, row = some r → r ∉ Ds) : GoI w s a vA vL n vs leave Ds T turn K k W' := by
  have hr' := fun r e => (hr r e).2
  refine ⟨h.l.turn hg hr', h.leave_.turn hg hr', h.res.turn hg hr', h.turn_.turn hg hr', h.k_.turn hg hr', h.box.turn hg hr', own_turn h.row hg hr', fun D hd => ?_, h.below.grown hg h.below.size (fun r e => (hr r e).1)⟩
  have hm := h.mark D hd
  exact (hg.block D (Array.getElem?_eq_some_iff.1 hm).1 (fun e => hD D e.symm hd)).trans hm
theorem GoI.new (h : GoI w s a vA vL n vs leave Ds T turn K k W) (hb : Below W.heap.size W W') : GoI w s a vA vL n vs leave Ds T turn K k W' := h.grow (grown_below hb) (fun r e => by cases e) (fun r e => by cases e)
/-- A step of k. -/
theorem GoI.step (h : GoI w s a vA vL n vs leave Ds T turn K k W) (hK : w.heap.size + 3 ≤ K) (hT : T ≠ K) (z : Nat) : GoI w s a vA vL n vs leave Ds T turn K z (W.setCell ⟨K, 0, none⟩ (.int .i64 z)) :=
  ⟨h.l.far (by simp; omega) _, h.leave_.far (by simp; omega) _, h.res.far (by simp; omega) _, h.turn_.far (by simpa using hT) _, h.k_.set_ 0 _, h.box.far (fun e => Blk.ne_ h.box h.k_ (by decide) e) _, own_setCell h.row (own_blk_ne h.row h.k_ (by decide)) _,
    fun D hd => (keepsFrom_setS (B := 0) (p := ⟨K, 0, none⟩) h.k_ _).same D _ (Nat.zero_le _) (h.mark D hd) rfl, h.below.setCell (p := ⟨K, 0, none⟩) (by show w.heap.size ≤ K; omega) _⟩
/-- A new k, at the beginning of a round. -/
theorem GoI.fresh (h : GoI w s a vA vL n vs leave Ds T turn K k W) (hT : T < W.heap.size) : GoI w s a vA vL n vs leave Ds T turn W.heap.size 0 ((W.alloc (.cells #[.int .i64 0] 3)).setCell ⟨W.heap.size, 0, none⟩ (.int .i64 0)) := by
  have hb : Below W.heap.size W (W.alloc (.cells #[.int .i64 0] 3)) := (Below.refl _ W).alloc (Nat.le_refl _) _
  have h1 := h.new hb
  have h2 : GoI w s a vA vL n vs leave Ds T turn W.heap.size 0 (W.alloc (.cells #[.int .i64 0] 3)) := ⟨h1.l, h1.leave_, h1.res, h1.turn_, Blk.new W 3 _, h1.box, h1.row, h1.mark, h1.below⟩
  exact h2.step (by have := h.res.lt; omega) (by omega) 0
/-- The turn's new box. -/
theorem GoI.turned (h : GoI w s a vA vL n vs leave Ds T turn K k W) (t u : Int) (hk : K < W.heap.size) : GoI w s a vA vL n vs leave Ds W.heap.size u K k (((W.alloc (.cells #[.int .i64 0] 3)).setCell ⟨W.heap.size, 0, none⟩ (.int .i64 t)).setCell ⟨W.heap.size, 0, none⟩ (.int .i64 u)) := by
  have hb : Below W.heap.size W (W.alloc (.cells #[.int .i64 0] 3)) := (Below.refl _ W).alloc (Nat.le_refl _) _
  have h1 := h.new hb
  have hs := h.res.lt
  have hn : ∀ {g ty cs}, Blk W g ty cs → g ≠ W.heap.size := fun hb e => by have := hb.lt; omega
  have b2 : Blk (W.alloc (.cells #[.int .i64 0] 3)) W.heap.size 3 #[.int .i64 0] := Blk.new W 3 _
  have b3 := b2.set_ 0 (.int .i64 t)
  have kf : KeepsFrom 0 (W.alloc (.cells #[.int .i64 0] 3)) (((W.alloc (.cells #[.int .i64 0] 3)).setCell ⟨W.heap.size, 0, none⟩ (.int .i64 t)).setCell ⟨W.heap.size, 0, none⟩ (.int .i64 u)) :=
    (keepsFrom_setS (p := ⟨W.heap.size, 0, none⟩) b2 _).trans (keepsFrom_setS (p := ⟨W.heap.size, 0, none⟩) b3 _)
  have far : ∀ {g ty cs}, Blk W g ty cs → Blk (((W.alloc (.cells #[.int .i64 0] 3)).setCell ⟨W.heap.size, 0, none⟩ (.int .i64 t)).setCell ⟨W.heap.size, 0, none⟩ (.int .i64 u)) g ty cs := fun hb => (((hb.alloc _).far (hn hb) _).far (hn hb) _)
  exact ⟨far h.l, far h.leave_, far h.res, b3.set_ 0 _, far h.k_, far h.box, own_setCell (own_setCell h1.row (own_blk_ne h1.row b2 (by decide)) _) (own_blk_ne (own_setCell h1.row (own_blk_ne h1.row b2 (by decide)) _) b3 (by decide)) _,
    fun D hd => kf.same D _ (Nat.zero_le _) (h1.mark D hd) rfl, (h1.below.setCell (p := ⟨W.heap.size, 0, none⟩) h.below.size _).setCell (p := ⟨W.heap.size, 0, none⟩) h.below.size _⟩
end
/-- What a round of a range begins with. -/
structure GoR (w : World) (s a : Nat) (vA vL : Value) (n : Nat) (xs : List ByteArray) (leave : Int) (Ds : List Nat) (T : Nat) (turn : Int) (K : Nat) (act : Nat × ByteArray → Act → Prop) (pre : List (Nat × ByteArray)) (x : Nat × ByteArray) (a' : Act) (W : World) : Prop where
  inv : GoI w s a vA vL n (strs xs) leave Ds T turn K pre.length W
  told : pre ++ [x] <+: numS xs
  act : act x a'

set_option maxHeartbeats 16000000 in
set_option maxRecDepth 100000 in
theorem goesS (w : World) (B b c : Nat) (A : Option Addr) (xs : List ByteArray) (sent : Int) (h : NetS w B b A c xs sent) (hx : xs.length ≤ 65536) (Al : Option Addr) (n cl : Nat) (hl : Reads w w.heap.size 1 Al n (strs xs)) (leave : Int) :
    Calls Try.prog 22 #[.pointer (some ⟨b, 0, none⟩), .slice Al n cl, .int .i64 leave] w fun e w' => e = .returned (.bool true) ∧ Below w.heap.size w w' := by
  refine (callsIn_wide (n := 9)).1 ?_
  have hn : xs.length = n := by have := hl.1; rw [strs_length] at this; omega
  obtain ⟨Wa, hWa⟩ : ∃ W, ((w.alloc (.cells #[.slice Al n cl] 38)).alloc (.cells #[.int .i64 leave] 3)).alloc (.cells #[.bool false] 4) = W := ⟨_, rfl⟩
  have ea : Wa.heap.size = w.heap.size + 3 := by rw [← hWa]; simp
  have ba : Below w.heap.size w Wa := by rw [← hWa]; exact (((Below.refl _ w).alloc (Nat.le_refl _) _).alloc (by simp) _).alloc (by simp; omega) _
  have a0 : Blk Wa w.heap.size 38 #[.slice Al n cl] := by rw [← hWa]; exact ((Blk.new w 38 _).alloc _).alloc _
  have a1 : Blk Wa (w.heap.size + 1) 3 #[.int .i64 leave] := by
    have := (Blk.new (w.alloc (.cells #[.slice Al n cl] 38)) 3 #[.int .i64 leave]).alloc (.cells #[.bool false] 4)
    rw [World.size_alloc, hWa] at this
    exact this
  have a2 : Blk Wa (w.heap.size + 2) 4 #[.bool false] := by
    have := Blk.new ((w.alloc (.cells #[.slice Al n cl] 38)).alloc (.cells #[.int .i64 leave] 3)) 4 #[.bool false]
    rw [World.size_alloc, World.size_alloc, hWa] at this
    exact this
  have hcall := allS Wa B b c A xs sent (h.below ba (Nat.le_refl _)) hx
  have hnf : ∀ (W : World) (a : Option Addr), Sem.run Try.prog (binOp BinOp.eql 61 (Value.func (.func 42) #[] #[.pointer a]) Value.nilFunc) W = .ok (.bool false) W := fun W a => by kernel_rfl
  rw [hn] at hcall hx
  have HN := Lib.hid hn
  have HA := Lib.hid (And.intro a0 (And.intro a1 (And.intro a2 (And.intro ba hl))))
  clear hn a0 a1 a2 ba h hl
  refine callsIn_of_wp_marks Try.func22 rfl trivial ?_ rfl
  simp only [Try.ntmps22, List.size_toArray, List.length_cons, List.length_nil, Nat.reduceAdd, Nat.reduceSub, Array.replicate_succ, Array.replicate_zero, List.push_toArray, List.append_toArray, List.nil_append, List.cons_append]
  gi_wp2_with (refine ⟨trivial, ?_⟩; gi_at_call 36; refine (callsIn_wide.2 hcall).mono ?_; clear hcall; rintro e W1 ⟨a, rfl, ha, A1, c1, kb, own1, b1⟩; obtain ⟨T, hT⟩ : ∃ T, W1.heap.size = T := ⟨_, rfl⟩; obtain ⟨Wb, hWb⟩ : ∃ W, W1.alloc (.cells #[.int .i64 0] 3) = W := ⟨_, rfl⟩; have kT : Blk Wb T 3 #[.int .i64 0] := (by rw [← hWb, ← hT]; exact Blk.new W1 3 _); have kTc := (kT.cell 0).trans rfl; have kTf := kT.frozen 0)
  obtain ⟨V0, hV0⟩ : ∃ W, Wb.setCell ⟨T, 0, none⟩ (.int .i64 0) = W := ⟨_, rfl⟩
  obtain ⟨s, hs⟩ : ∃ s, Wa.heap.size = s := ⟨_, rfl⟩
  have hI0 : GoI w s a (.slice A1 n c1) (.slice Al n cl) n (strs xs) leave [] T 0 T 0 V0 ∧ Reads w w.heap.size 1 Al n (strs xs) := by
    obtain ⟨a0, a1, a2, ba, hl⟩ := HA.out
    have bb : Below W1.heap.size W1 Wb := by rw [← hWb]; exact (Below.refl _ W1).alloc (Nat.le_refl _) _
    have l0 := (a0.below b1 a0.lt)
    have l1 := (a1.below b1 a1.lt)
    have l2 := (a2.below b1 a2.lt)
    have hsz := b1.size
    rw [hs] at own1
    have o1 := own_fr own1 (Fr.of_new (S := noB) bb) (fun _ _ e => e)
    rw [← hV0]
    have e3 : w.heap.size + 3 ≤ T := by omega
    exact ⟨⟨(l0.below bb l0.lt).far (by simp; omega) _, (l1.below bb l1.lt).far (by simp; omega) _, (l2.below bb l2.lt).far (by simp; omega) _, kT.set_ 0 _, kT.set_ 0 _, (kb.below bb kb.lt).far (by have := kb.lt; simp; omega) _, own_setCell o1 (own_blk_ne o1 kT (by decide)) _,
      fun D hd => (by cases hd), ((ba.trans (b1.mono ba.size)).trans (bb.mono (by omega))).setCell (p := ⟨T, 0, none⟩) (by show w.heap.size ≤ T; omega) _⟩, hl⟩
  have hTl : w.heap.size + 3 ≤ T ∧ T < V0.heap.size := by
    have h1 := kT.lt
    have h2 := b1.size
    exact ⟨by omega, by rw [← hV0]; simpa [World.setCell] using h1⟩
  rw [hV0]
  have H0 := Lib.hid (And.intro hI0.1 (And.intro hI0.2 hTl))
  clear hI0 hTl kTc kTf kT hV0 hWb hT b1 own1 kb HA hWa
  refine wpIn_loop_rounds 3 ?_
  -- round 0
  obtain ⟨K0, hK0⟩ : ∃ K, V0.heap.size = K := ⟨_, rfl⟩
  obtain ⟨Y0, hY0⟩ : ∃ W, V0.alloc (.cells #[.int .i64 0] 3) = W := ⟨_, rfl⟩
  obtain ⟨X0, hX0⟩ : ∃ W, Y0.setCell ⟨K0, 0, none⟩ (.int .i64 0) = W := ⟨_, rfl⟩
  have hF0 : GoI w s a (.slice A1 n c1) (.slice Al n cl) n (strs xs) leave [] T 0 K0 0 X0 := by rw [← hX0, ← hY0, ← hK0]; exact H0.out.1.fresh H0.out.2.2.2
  have kY0 : Blk Y0 K0 3 #[.int .i64 0] := by rw [← hY0, ← hK0]; exact Blk.new V0 3 _
  have c0 := (H0.out.1.turn_.cell 0).trans rfl
  have c1' := (kY0.cell 0).trans rfl
  have c2' := kY0.frozen 0
  have hsX : X0.heap.size = K0 + 1 := by rw [← hX0, ← hY0]; simp [World.setCell, hK0]
  have hKT : w.heap.size + 3 ≤ K0 ∧ T < K0 ∧ s ≤ K0 := by have h1 := H0.out.2.2.2; have h2 := H0.out.2.2.1; have h3 := H0.out.1.box.lt; omega
  have hsq := seq42 X0 s a n c1 A1 xs hF0.box hF0.row hx (by omega) 8
  have HQ := Lib.hid hsq
  have HF := Lib.hid hF0
  have HL := Lib.hid H0.out.2.1
  clear hsq hF0 kY0 H0
  rw [roundsIn_succ]
  gi_wp2
  clear c0 c1' c2' hX0 hY0 hK0
  refine range_seqG (gf := 42) (lb := #[.pointer (some ⟨a, 0, none⟩)]) rfl (enters_of Try.func42 (by kernel_rfl) rfl) HQ.out (fun h k => KpFrom.t h k) (fun W l o o' h hc => KpFrom.b W l o o' h hc) (Below.refl _ _) (fun _ => rfl)
    (fun pre W => GoI w s a (.slice A1 n c1) (.slice Al n cl) n (strs xs) leave [] T 0 K0 pre.length W) (fun pre W => GoI w s a (.slice A1 n c1) (.slice Al n cl) n (strs xs) leave [] T 0 K0 pre.length W) (fun c pre W => c = .exit 2 ∧ ((pre.length : Nat) : Int) = leave ∧ GoI w s a (.slice A1 n c1) (.slice Al n cl) n (strs xs) leave [] T 0 K0 pre.length W)
    (fun pre W W' row hs hg hr => hs.grow hg (fun r e => ⟨by have := (hr r e).1; omega, (hr r e).2⟩) (fun r e => by simp))
    (fun pre W W' row hs hg hr => hs.grow hg (fun r e => ⟨by have := (hr r e).1; omega, (hr r e).2⟩) (fun r e => by simp))
    (fun c pre W W' row hs hg hr => ⟨hs.1, hs.2.1, hs.2.2.grow hg (fun r e => ⟨by have := (hr r e).1; omega, (hr r e).2⟩) (fun r e => by simp)⟩)
    HF.out
    (GoR w s a (.slice A1 n c1) (.slice Al n cl) n xs leave [] T 0 K0 (fun x a' => a' = { tmps := #[.pointer (some ⟨b, 0, none⟩), .slice Al n cl, .int .i64 leave, undef, .pointer (some ⟨w.heap.size, 0, none⟩), .pointer (some ⟨w.heap.size + 1, 0, none⟩), .pointer (some ⟨w.heap.size + 2, 0, none⟩), .func (.func 42) #[] #[.pointer (some ⟨a, 0, none⟩)], .pointer (some ⟨T, 0, none⟩), .pointer (some ⟨K0, 0, none⟩), .int .i64 (x.1 : Nat), .string x.2, .pointer (some ⟨b, 0, none⟩), .func (.func 42) #[] #[.pointer (some ⟨a, 0, none⟩)], .func (.func 42) #[] #[.pointer (some ⟨a, 0, none⟩)], .bool false, .int .i64 0, .bool true, undef, undef, .func (.func 42) #[] #[.pointer (some ⟨a, 0, none⟩)], .int .i64 (x.1 : Nat), .string x.2, undef, undef, undef, undef, undef, undef, undef, undef, undef, undef, undef, undef, undef, undef, undef, undef, undef, undef, undef, undef, undef, undef, undef, undef, undef, undef, undef, undef, undef, undef, undef, undef, undef, undef, undef, undef, undef, undef, undef, undef, undef, undef, undef, undef, undef, undef, undef, undef, undef, undef], defers := [] }))
    ?R0 ?assign0 ?body0 ?fin0 ?done0 ?stop0
  case R0 =>
    intro pre x a' _ W W' row hs hg hr
    exact ⟨hs.inv.grow hg (fun r e => ⟨by have := (hr r e).1; omega, (hr r e).2⟩) (fun r e => by simp), hs.told, hs.act⟩
  case assign0 =>
    intro L2 pre x W0 W K hI hb hG hK
    have HK := Lib.hid (fun a' hact => hK a' W (KeepsFrom.refl _ _) (KpFrom.refl _ _ _) ⟨hI.new hb, hG, hact⟩)
    clear hK hI hG hb HF HQ HL
    simp only [encS]
    gi_wp2
    exact HK.out _ rfl
  case body0 =>
    rintro L2 pre x a' W hR
    have hinv := hR.inv
    obtain ⟨hk, hxe⟩ := numS_pre xs pre x hR.told
    obtain ⟨k, hke⟩ : ∃ k, pre.length = k := ⟨_, rfl⟩
    rw [hke] at hinv hk hxe
    have hact := hR.act; subst hact
    clear hR
    subst hxe
    have hkn : k < n := by rw [← HN.out]; exact hk
    obtain ⟨ad, u, hAl, hab, hu, hcell⟩ := (HL.out.below hinv.below).at_ hkn
    simp only [strs, List.getElem?_map, List.getElem?_eq_getElem hk, Option.map_some, Option.some.injEq] at hu
    have hgx : gets xs k = xs[k] := by simp [gets, List.getElem?_eq_getElem hk]
    dsimp only
    rw [hgx]
    obtain ⟨y, hy⟩ : ∃ y, xs[k] = y := ⟨_, rfl⟩
    rw [hy] at hu ⊢
    subst hu
    have hpl : (pre ++ [(k, y)]).length = k + 1 := by rw [List.length_append, hke]; rfl
    have y0 : W.cell? ⟨w.heap.size, 0, none⟩ = some (.slice (some ad) n cl) := by rw [← hAl]; exact (hinv.l.cell 0).trans rfl
    clear hAl
    have y1 := (hinv.leave_.cell 0).trans rfl
    have y3 := (hinv.turn_.cell 0).trans rfl
    have y4 := (hinv.k_.cell 0).trans rfl
    have y4f := hinv.k_.frozen 0
    have q1 : ¬ (n : Int) ≤ (k : Int) := by omega
    have q2 : (k : Int) < (n : Int) := by omega
    have q3 : (0 : Int) ≤ (k : Int) := by omega
    have q4 : n ≤ 65536 := by omega
    obtain ⟨z, hz⟩ : ∃ z, k + 1 = z := ⟨_, rfl⟩
    have u1 : IntKind.i64.wrap ((k : Int) + 1) = (z : Int) := by rw [IntWalk.i64_in _ (by omega)]; omega
    obtain ⟨V5, hV5⟩ : ∃ V, W.setCell ⟨K0, 0, none⟩ (.int .i64 (z : Nat)) = V := ⟨_, rfl⟩
    have hinv5 : GoI w s a (.slice A1 n c1) (.slice Al n cl) n (strs xs) leave [] T 0 K0 z V5 := by rw [← hV5]; exact hinv.step (by omega) (by omega) z
    have z1 := (hinv5.leave_.cell 0).trans rfl
    have z3 := (hinv5.turn_.cell 0).trans rfl
    have z4 := (hinv5.k_.cell 0).trans rfl
    have kk : KeepsFrom (K0 + 1) W V5 ∧ KpFrom itT s W V5 := by rw [← hV5]; exact ⟨keepsFrom_setS (p := ⟨K0, 0, none⟩) hinv.k_ _, kp_setS (p := ⟨K0, 0, none⟩) hinv.k_ (by unfold itT; decide) _⟩
    rw [← hz] at hinv5
    rw [← hpl] at hinv5
    have HV := Lib.hid (And.intro hinv5 (And.intro kk (And.intro hpl hz)))
    clear hinv hinv5 kk HF HQ HL hab hk hgx hpl hz hy
    by_cases hlv : (z : Int) = leave
    · have hlv' : ((z : Int) == leave) = true := by rw [beq_iff_eq]; exact hlv
      have HLV := Lib.hid hlv
      clear hlv
      gi_wp2
      exact ⟨HV.out.2.1.1, rfl, by have h1 := HV.out.2.2.1; have h2 := HV.out.2.2.2; have h3 := HLV.out; omega, HV.out.1⟩
    · have hlv' : ((z : Int) == leave) = false := by rw [beq_eq_false_iff_ne]; exact hlv
      gi_wp2
      exact ⟨HV.out.2.1.1, HV.out.2.1.2, HV.out.1⟩
  case fin0 =>
    rintro ys W V1 V2 hsz hS hI rfl
    exact ⟨hI, KeepsFrom.refl _ _⟩
  case done0 =>
    intro D0 ys W hD0 hS hI1 hK
    have hyl : ys.length = n := by rw [hS, numS_len]; exact HN.out
    rw [hyl] at hI1
    have hI : GoI w s a (.slice A1 n c1) (.slice Al n cl) n (strs xs) leave [D0] T 0 K0 n W := ⟨hI1.l, hI1.leave_, hI1.res, hI1.turn_, hI1.k_, hI1.box, hI1.row, fun D hd => (by simp at hd; subst hd; exact hK), hI1.below⟩
    have hDs : w.heap.size ≤ D0 := by omega
    have HDz := Lib.hid hDs
    clear hI1 hyl hS hK
    have x0 := (hI.l.cell 0).trans rfl
    have x1 := (hI.leave_.cell 0).trans rfl
    have x3 := (hI.turn_.cell 0).trans rfl
    have x4 := (hI.k_.cell 0).trans rfl
    obtain ⟨T1, hTn⟩ : ∃ T, W.heap.size = T := ⟨_, rfl⟩
    obtain ⟨Wc, hWc⟩ : ∃ V, W.alloc (.cells #[.int .i64 0] 3) = V := ⟨_, rfl⟩
    obtain ⟨Wd, hWd⟩ : ∃ V, Wc.setCell ⟨T1, 0, none⟩ (.int .i64 0) = V := ⟨_, rfl⟩
    obtain ⟨V1, hVn⟩ : ∃ V, Wd.setCell ⟨T1, 0, none⟩ (.int .i64 1) = V := ⟨_, rfl⟩
    have kc : Blk Wc T1 3 #[.int .i64 0] := by rw [← hWc, ← hTn]; exact Blk.new W 3 _
    have kd : Blk Wd T1 3 #[.int .i64 0] := by rw [← hWd]; exact kc.set_ 0 _
    have hIt : GoI w s a (.slice A1 n c1) (.slice Al n cl) n (strs xs) leave [D0] T1 1 K0 n V1 := by rw [← hVn, ← hWd, ← hWc, ← hTn]; exact hI.turned 0 1 hI.k_.lt
    have w1 := (kc.cell 0).trans rfl
    have w2 := kc.frozen 0
    have w3 := (kd.cell 0).trans rfl
    have w4 := kd.frozen 0
    have x5 : Wc.cell? ⟨T, 0, none⟩ = some (.int .i64 0) := by rw [← hWc]; exact ((hI.turn_.alloc _).cell 0).trans rfl
    have hsz : w.heap.size + 3 ≤ T1 ∧ T1 < V1.heap.size := by
      have h1 := kc.lt
      have h2 := hI.res.lt
      exact ⟨by omega, by rw [← hVn, ← hWd]; simpa [World.setCell] using h1⟩
    have H1 := Lib.hid (And.intro hIt (And.intro HL.out hsz))
    clear hI hIt hsz HF HQ HL kc kd
    gi_wp2
    clear x0 x1 x3 x4 x5 w1 w2 w3 w4 hTn hWc hWd hVn
    -- round 1
    obtain ⟨K1, hK1⟩ : ∃ K, V1.heap.size = K := ⟨_, rfl⟩
    obtain ⟨Y1, hY1⟩ : ∃ W, V1.alloc (.cells #[.int .i64 0] 3) = W := ⟨_, rfl⟩
    obtain ⟨X1, hX1⟩ : ∃ W, Y1.setCell ⟨K1, 0, none⟩ (.int .i64 0) = W := ⟨_, rfl⟩
    have hF1 : GoI w s a (.slice A1 n c1) (.slice Al n cl) n (strs xs) leave [D0] T1 1 K1 0 X1 := by rw [← hX1, ← hY1, ← hK1]; exact H1.out.1.fresh H1.out.2.2.2
    have kY1 : Blk Y1 K1 3 #[.int .i64 0] := by rw [← hY1, ← hK1]; exact Blk.new V1 3 _
    have c0 := (H1.out.1.turn_.cell 0).trans rfl
    have c1' := (kY1.cell 0).trans rfl
    have c2' := kY1.frozen 0
    have hsX : X1.heap.size = K1 + 1 := by rw [← hX1, ← hY1]; simp [World.setCell, hK1]
    have hKT : w.heap.size + 3 ≤ K1 ∧ T1 < K1 ∧ s ≤ K1 := by have h1 := H1.out.2.2.2; have h2 := H1.out.2.2.1; have h3 := H1.out.1.box.lt; omega
    have hsq := seq42 X1 s a n c1 A1 xs hF1.box hF1.row hx (by omega) 8
    have HQ := Lib.hid hsq
    have HF := Lib.hid hF1
    have HL := Lib.hid H1.out.2.1
    have HE := Lib.hid (show D0 < X1.heap.size ∧ D0 < K1 from by have h1 := (Array.getElem?_eq_some_iff.1 (H1.out.1.mark D0 (by simp))).1; omega)
    clear hsq hF1 kY1 H1
    rw [roundsIn_succ]
    gi_wp2
    clear c0 c1' c2' hX1 hY1 hK1
    refine range_seqG (gf := 42) (lb := #[.pointer (some ⟨a, 0, none⟩)]) rfl (enters_of Try.func42 (by kernel_rfl) rfl) HQ.out (fun h k => KpFrom.t h k) (fun W l o o' h hc => KpFrom.b W l o o' h hc) (Below.refl _ _) (fun _ => rfl)
      (fun pre W => GoI w s a (.slice A1 n c1) (.slice Al n cl) n (strs xs) leave [D0] T1 1 K1 pre.length W) (fun pre W => GoI w s a (.slice A1 n c1) (.slice Al n cl) n (strs xs) leave [D0] T1 1 K1 pre.length W) (fun c pre W => False)
      (fun pre W W' row hs hg hr => hs.grow hg (fun r e => ⟨by have := (hr r e).1; omega, (hr r e).2⟩) (fun r e h => by simp at h; have := (hr r e).1; have := HE.out.1; omega))
      (fun pre W W' row hs hg hr => hs.grow hg (fun r e => ⟨by have := (hr r e).1; omega, (hr r e).2⟩) (fun r e h => by simp at h; have := (hr r e).1; have := HE.out.1; omega))
      (fun c pre W W' row hs hg hr => hs)
      HF.out
      (GoR w s a (.slice A1 n c1) (.slice Al n cl) n xs leave [D0] T1 1 K1 (fun x a' => ∃ v49 v50 v51 v52 v53 v54 v55 v56 v57 v58 v59 v60 v61 v62 v63 v64 v65 v66 v67 v68 v69 v70 v71 v72 : Value, a' = { tmps := #[.pointer (some ⟨b, 0, none⟩), .slice Al n cl, .int .i64 leave, undef, .pointer (some ⟨w.heap.size, 0, none⟩), .pointer (some ⟨w.heap.size + 1, 0, none⟩), .pointer (some ⟨w.heap.size + 2, 0, none⟩), .func (.func 42) #[] #[.pointer (some ⟨a, 0, none⟩)], .pointer (some ⟨T1, 0, none⟩), .pointer (some ⟨K1, 0, none⟩), .int .i64 (x.1 : Nat), .string x.2, .pointer (some ⟨b, 0, none⟩), .func (.func 42) #[] #[.pointer (some ⟨a, 0, none⟩)], .func (.func 42) #[] #[.pointer (some ⟨a, 0, none⟩)], .bool false, .int .i64 1, .bool true, .int .i64 0, .int .i64 1, .func (.func 42) #[] #[.pointer (some ⟨a, 0, none⟩)], .int .i64 (x.1 : Nat), .string x.2, undef, undef, undef, undef, undef, undef, undef, undef, undef, undef, undef, undef, undef, undef, undef, undef, undef, undef, undef, undef, undef, undef, undef, undef, undef, undef, v49, v50, v51, v52, v53, v54, v55, v56, v57, v58, v59, v60, v61, v62, v63, v64, v65, v66, v67, v68, v69, v70, v71, v72], defers := [] }))
      ?R1 ?assign1 ?body1 ?fin1 ?done1 ?stop1
    case R1 =>
      intro pre x a' _ W W' row hs hg hr
      exact ⟨hs.inv.grow hg (fun r e => ⟨by have := (hr r e).1; omega, (hr r e).2⟩) (fun r e h => by simp at h; have := (hr r e).1; have := HE.out.1; omega), hs.told, hs.act⟩
    case assign1 =>
      intro L2 pre x W0 W K hI hb hG hK
      have HK := Lib.hid (fun a' hact => hK a' W (KeepsFrom.refl _ _) (KpFrom.refl _ _ _) ⟨hI.new hb, hG, hact⟩)
      clear hK hI hG hb HF HQ HL
      simp only [encS]
      gi_wp2
      exact HK.out _ ⟨_, _, _, _, _, _, _, _, _, _, _, _, _, _, _, _, _, _, _, _, _, _, _, _, rfl⟩
    case body1 =>
      rintro L2 pre x a' W hR
      have hinv := hR.inv
      obtain ⟨hk, hxe⟩ := numS_pre xs pre x hR.told
      obtain ⟨k, hke⟩ : ∃ k, pre.length = k := ⟨_, rfl⟩
      rw [hke] at hinv hk hxe
      obtain ⟨v49, v50, v51, v52, v53, v54, v55, v56, v57, v58, v59, v60, v61, v62, v63, v64, v65, v66, v67, v68, v69, v70, v71, v72, rfl⟩ := hR.act
      clear hR
      subst hxe
      have hkn : k < n := by rw [← HN.out]; exact hk
      obtain ⟨ad, u, hAl, hab, hu, hcell⟩ := (HL.out.below hinv.below).at_ hkn
      simp only [strs, List.getElem?_map, List.getElem?_eq_getElem hk, Option.map_some, Option.some.injEq] at hu
      have hgx : gets xs k = xs[k] := by simp [gets, List.getElem?_eq_getElem hk]
      dsimp only
      rw [hgx]
      obtain ⟨y, hy⟩ : ∃ y, xs[k] = y := ⟨_, rfl⟩
      rw [hy] at hu ⊢
      subst hu
      have hpl : (pre ++ [(k, y)]).length = k + 1 := by rw [List.length_append, hke]; rfl
      have y0 : W.cell? ⟨w.heap.size, 0, none⟩ = some (.slice (some ad) n cl) := by rw [← hAl]; exact (hinv.l.cell 0).trans rfl
      clear hAl
      have y1 := (hinv.leave_.cell 0).trans rfl
      have y3 := (hinv.turn_.cell 0).trans rfl
      have y4 := (hinv.k_.cell 0).trans rfl
      have y4f := hinv.k_.frozen 0
      have q1 : ¬ (n : Int) ≤ (k : Int) := by omega
      have q2 : (k : Int) < (n : Int) := by omega
      have q3 : (0 : Int) ≤ (k : Int) := by omega
      have q4 : n ≤ 65536 := by omega
      obtain ⟨z, hz⟩ : ∃ z, k + 1 = z := ⟨_, rfl⟩
      have u1 : IntKind.i64.wrap ((k : Int) + 1) = (z : Int) := by rw [IntWalk.i64_in _ (by omega)]; omega
      obtain ⟨V5, hV5⟩ : ∃ V, W.setCell ⟨K1, 0, none⟩ (.int .i64 (z : Nat)) = V := ⟨_, rfl⟩
      have hinv5 : GoI w s a (.slice A1 n c1) (.slice Al n cl) n (strs xs) leave [D0] T1 1 K1 z V5 := by rw [← hV5]; exact hinv.step (by omega) (by omega) z
      have z1 := (hinv5.leave_.cell 0).trans rfl
      have z3 := (hinv5.turn_.cell 0).trans rfl
      have z4 := (hinv5.k_.cell 0).trans rfl
      have kk : KeepsFrom (K1 + 1) W V5 ∧ KpFrom itT s W V5 := by rw [← hV5]; exact ⟨keepsFrom_setS (p := ⟨K1, 0, none⟩) hinv.k_ _, kp_setS (p := ⟨K1, 0, none⟩) hinv.k_ (by unfold itT; decide) _⟩
      rw [← hz] at hinv5
      rw [← hpl] at hinv5
      have HV := Lib.hid (And.intro hinv5 (And.intro kk (And.intro hpl hz)))
      clear hinv hinv5 kk HF HQ HL hab hk hgx hpl hz hy
      gi_wp2
      exact ⟨HV.out.2.1.1, HV.out.2.1.2, HV.out.1⟩
    case fin1 =>
      rintro ys W V1 V2 hsz hS hI rfl
      exact ⟨hI, KeepsFrom.refl _ _⟩
    case done1 =>
      intro D1 ys W hD1 hS hI1 hK
      have hyl : ys.length = n := by rw [hS, numS_len]; exact HN.out
      rw [hyl] at hI1
      have hI : GoI w s a (.slice A1 n c1) (.slice Al n cl) n (strs xs) leave [D0, D1] T1 1 K1 n W := ⟨hI1.l, hI1.leave_, hI1.res, hI1.turn_, hI1.k_, hI1.box, hI1.row, fun D hd => (by simp at hd; rcases hd with rfl | rfl <;> first | exact hK | exact hI1.mark _ (by simp)), hI1.below⟩
      have hDs : w.heap.size ≤ D1 ∧ w.heap.size ≤ D0 ∧ D0 ≠ D1 := by have := HE.out; have := HDz.out; omega
      clear hI1 hyl hS hK
      have x0 := (hI.l.cell 0).trans rfl
      have x1 := (hI.leave_.cell 0).trans rfl
      have x3 := (hI.turn_.cell 0).trans rfl
      have x4 := (hI.k_.cell 0).trans rfl
      obtain ⟨T2, hTn⟩ : ∃ T, W.heap.size = T := ⟨_, rfl⟩
      obtain ⟨Wc, hWc⟩ : ∃ V, W.alloc (.cells #[.int .i64 0] 3) = V := ⟨_, rfl⟩
      obtain ⟨Wd, hWd⟩ : ∃ V, Wc.setCell ⟨T2, 0, none⟩ (.int .i64 1) = V := ⟨_, rfl⟩
      obtain ⟨V2, hVn⟩ : ∃ V, Wd.setCell ⟨T2, 0, none⟩ (.int .i64 2) = V := ⟨_, rfl⟩
      have kc : Blk Wc T2 3 #[.int .i64 0] := by rw [← hWc, ← hTn]; exact Blk.new W 3 _
      have kd : Blk Wd T2 3 #[.int .i64 1] := by rw [← hWd]; exact kc.set_ 0 _
      have hIt : GoI w s a (.slice A1 n c1) (.slice Al n cl) n (strs xs) leave [D0, D1] T2 2 K1 n V2 := by rw [← hVn, ← hWd, ← hWc, ← hTn]; exact hI.turned 1 2 hI.k_.lt
      have w1 := (kc.cell 0).trans rfl
      have w2 := kc.frozen 0
      have w3 := (kd.cell 0).trans rfl
      have w4 := kd.frozen 0
      have x5 : Wc.cell? ⟨T1, 0, none⟩ = some (.int .i64 1) := by rw [← hWc]; exact ((hI.turn_.alloc _).cell 0).trans rfl
      have hsz : w.heap.size + 3 ≤ T2 ∧ T2 < V2.heap.size := by
        have h1 := kc.lt
        have h2 := hI.res.lt
        exact ⟨by omega, by rw [← hVn, ← hWd]; simpa [World.setCell] using h1⟩
      have H2 := Lib.hid (And.intro hIt (And.intro HL.out hsz))
      clear hI hIt hsz HF HQ HL kc kd HE
      gi_wp2
      clear x0 x1 x3 x4 x5 w1 w2 w3 w4 hTn hWc hWd hVn
      have x3 := (H2.out.1.turn_.cell 0).trans rfl
      have x2 := (H2.out.1.res.cell 0).trans rfl
      have x2f := H2.out.1.res.frozen 0
      rw [roundsIn_succ]
      gi_wp2
      have hI := H2.out.1
      obtain ⟨V, hV⟩ : ∃ V, V2.setCell ⟨w.heap.size + 2, 0, none⟩ (.bool true) = V := ⟨_, rfl⟩
      have hV' : V2.setCell ⟨w.heap.size + 1 + 1, 0, none⟩ (.bool true) = V := hV
      have kf := keepsFrom_setS (B := 0) (p := ⟨w.heap.size + 2, 0, none⟩) hI.res (.bool true)
      have m1 : V.heap[D1]? = some (.deferred (some [])) := by rw [← hV]; exact kf.same D1 _ (Nat.zero_le _) (hI.mark D1 (by simp)) rfl
      have m0 : V.heap[D0]? = some (.deferred (some [])) := by rw [← hV]; exact kf.same D0 _ (Nat.zero_le _) (hI.mark D0 (by simp)) rfl
      have hres : Blk V (w.heap.size + 2) 4 #[.bool true] := by rw [← hV]; exact hI.res.set_ 0 _
      have hbel : Below w.heap.size w V := by rw [← hV]; exact hI.below.setCell (p := ⟨w.heap.size + 2, 0, none⟩) (by simp) _
      have g1 := grownBy_putObj' V D1 (.deferred none)
      have r1 : ∀ r, some D1 = some r → ∃ o : Obj, V.heap[r]? = some o ∧ o.isCells = false := fun r e => by cases e; exact ⟨_, m1, rfl⟩
      have m0' : (V.putObj D1 (.deferred none)).heap[D0]? = some (.deferred (some [])) := (World.putObj_heap_other (by omega)).trans m0
      have g0 := grownBy_putObj' (V.putObj D1 (.deferred none)) D0 (.deferred none)
      have r0 : ∀ r, some D0 = some r → ∃ o : Obj, (V.putObj D1 (.deferred none)).heap[r]? = some o ∧ o.isCells = false := fun r e => by cases e; exact ⟨_, m0', rfl⟩
      have hres2 := (hres.turn g1 r1).turn g0 r0
      have hbel1 := hbel.grown g1 hbel.size (fun r e => by cases e; omega)
      have hbel2 := hbel1.grown g0 hbel1.size (fun r e => by cases e; omega)
      have v0 := (hres2.cell 0).trans rfl
      rw [hV'] at *
      refine ⟨by simp, .inl ⟨_, _, rfl, run_takeDeferred m1, by simp, .inl ⟨_, _, rfl, run_takeDeferred m0', ?_⟩⟩⟩
      refine ⟨.bool true, ?_, rfl, hbel2⟩
      clear hI H2 x3 x2 x2f hV hV' kf m0 m1
      simp [results, Try.f22, go_sem, v0]
    case stop1 =>
      rintro D c pre W hD hSp h _
      exact h.elim
  case stop0 =>
    rintro D0 c pre W hD0 hSp ⟨rfl, hlv, hI1⟩ hK
    obtain ⟨k, hke⟩ : ∃ k, pre.length = k := ⟨_, rfl⟩
    rw [hke] at hI1 hlv
    have hI : GoI w s a (.slice A1 n c1) (.slice Al n cl) n (strs xs) leave [D0] T 0 K0 k W := ⟨hI1.l, hI1.leave_, hI1.res, hI1.turn_, hI1.k_, hI1.box, hI1.row, fun D hd => (by simp at hd; subst hd; exact hK), hI1.below⟩
    have hDs : w.heap.size ≤ D0 := by omega
    have HDz := Lib.hid hDs
    clear hI1 hK hke
    by_cases hkn : k = n
    · rw [hkn] at hI
      clear hkn hlv
      have x0 := (hI.l.cell 0).trans rfl
      have x1 := (hI.leave_.cell 0).trans rfl
      have x3 := (hI.turn_.cell 0).trans rfl
      have x4 := (hI.k_.cell 0).trans rfl
      obtain ⟨T1, hTn⟩ : ∃ T, W.heap.size = T := ⟨_, rfl⟩
      obtain ⟨Wc, hWc⟩ : ∃ V, W.alloc (.cells #[.int .i64 0] 3) = V := ⟨_, rfl⟩
      obtain ⟨Wd, hWd⟩ : ∃ V, Wc.setCell ⟨T1, 0, none⟩ (.int .i64 0) = V := ⟨_, rfl⟩
      obtain ⟨V1, hVn⟩ : ∃ V, Wd.setCell ⟨T1, 0, none⟩ (.int .i64 1) = V := ⟨_, rfl⟩
      have kc : Blk Wc T1 3 #[.int .i64 0] := by rw [← hWc, ← hTn]; exact Blk.new W 3 _
      have kd : Blk Wd T1 3 #[.int .i64 0] := by rw [← hWd]; exact kc.set_ 0 _
      have hIt : GoI w s a (.slice A1 n c1) (.slice Al n cl) n (strs xs) leave [D0] T1 1 K0 n V1 := by rw [← hVn, ← hWd, ← hWc, ← hTn]; exact hI.turned 0 1 hI.k_.lt
      have w1 := (kc.cell 0).trans rfl
      have w2 := kc.frozen 0
      have w3 := (kd.cell 0).trans rfl
      have w4 := kd.frozen 0
      have x5 : Wc.cell? ⟨T, 0, none⟩ = some (.int .i64 0) := by rw [← hWc]; exact ((hI.turn_.alloc _).cell 0).trans rfl
      have hsz : w.heap.size + 3 ≤ T1 ∧ T1 < V1.heap.size := by
        have h1 := kc.lt
        have h2 := hI.res.lt
        exact ⟨by omega, by rw [← hVn, ← hWd]; simpa [World.setCell] using h1⟩
      have H1 := Lib.hid (And.intro hIt (And.intro HL.out hsz))
      clear hI hIt hsz HF HQ HL kc kd
      gi_wp2
      clear x0 x1 x3 x4 x5 w1 w2 w3 w4 hTn hWc hWd hVn
      -- round 1
      obtain ⟨K1, hK1⟩ : ∃ K, V1.heap.size = K := ⟨_, rfl⟩
      obtain ⟨Y1, hY1⟩ : ∃ W, V1.alloc (.cells #[.int .i64 0] 3) = W := ⟨_, rfl⟩
      obtain ⟨X1, hX1⟩ : ∃ W, Y1.setCell ⟨K1, 0, none⟩ (.int .i64 0) = W := ⟨_, rfl⟩
      have hF1 : GoI w s a (.slice A1 n c1) (.slice Al n cl) n (strs xs) leave [D0] T1 1 K1 0 X1 := by rw [← hX1, ← hY1, ← hK1]; exact H1.out.1.fresh H1.out.2.2.2
      have kY1 : Blk Y1 K1 3 #[.int .i64 0] := by rw [← hY1, ← hK1]; exact Blk.new V1 3 _
      have c0 := (H1.out.1.turn_.cell 0).trans rfl
      have c1' := (kY1.cell 0).trans rfl
      have c2' := kY1.frozen 0
      have hsX : X1.heap.size = K1 + 1 := by rw [← hX1, ← hY1]; simp [World.setCell, hK1]
      have hKT : w.heap.size + 3 ≤ K1 ∧ T1 < K1 ∧ s ≤ K1 := by have h1 := H1.out.2.2.2; have h2 := H1.out.2.2.1; have h3 := H1.out.1.box.lt; omega
      have hsq := seq42 X1 s a n c1 A1 xs hF1.box hF1.row hx (by omega) 8
      have HQ := Lib.hid hsq
      have HF := Lib.hid hF1
      have HL := Lib.hid H1.out.2.1
      have HE := Lib.hid (show D0 < X1.heap.size ∧ D0 < K1 from by have h1 := (Array.getElem?_eq_some_iff.1 (H1.out.1.mark D0 (by simp))).1; omega)
      clear hsq hF1 kY1 H1
      rw [roundsIn_succ]
      gi_wp2
      clear c0 c1' c2' hX1 hY1 hK1
      refine range_seqG (gf := 42) (lb := #[.pointer (some ⟨a, 0, none⟩)]) rfl (enters_of Try.func42 (by kernel_rfl) rfl) HQ.out (fun h k => KpFrom.t h k) (fun W l o o' h hc => KpFrom.b W l o o' h hc) (Below.refl _ _) (fun _ => rfl)
        (fun pre W => GoI w s a (.slice A1 n c1) (.slice Al n cl) n (strs xs) leave [D0] T1 1 K1 pre.length W) (fun pre W => GoI w s a (.slice A1 n c1) (.slice Al n cl) n (strs xs) leave [D0] T1 1 K1 pre.length W) (fun c pre W => False)
        (fun pre W W' row hs hg hr => hs.grow hg (fun r e => ⟨by have := (hr r e).1; omega, (hr r e).2⟩) (fun r e h => by simp at h; have := (hr r e).1; have := HE.out.1; omega))
        (fun pre W W' row hs hg hr => hs.grow hg (fun r e => ⟨by have := (hr r e).1; omega, (hr r e).2⟩) (fun r e h => by simp at h; have := (hr r e).1; have := HE.out.1; omega))
        (fun c pre W W' row hs hg hr => hs)
        HF.out
        (GoR w s a (.slice A1 n c1) (.slice Al n cl) n xs leave [D0] T1 1 K1 (fun x a' => ∃ v49 v50 v51 v52 v53 v54 v55 v56 v57 v58 v59 v60 v61 v62 v63 v64 v65 v66 v67 v68 v69 v70 v71 v72 : Value, a' = { tmps := #[.pointer (some ⟨b, 0, none⟩), .slice Al n cl, .int .i64 leave, undef, .pointer (some ⟨w.heap.size, 0, none⟩), .pointer (some ⟨w.heap.size + 1, 0, none⟩), .pointer (some ⟨w.heap.size + 2, 0, none⟩), .func (.func 42) #[] #[.pointer (some ⟨a, 0, none⟩)], .pointer (some ⟨T1, 0, none⟩), .pointer (some ⟨K1, 0, none⟩), .int .i64 (x.1 : Nat), .string x.2, .pointer (some ⟨b, 0, none⟩), .func (.func 42) #[] #[.pointer (some ⟨a, 0, none⟩)], .func (.func 42) #[] #[.pointer (some ⟨a, 0, none⟩)], .bool false, .int .i64 1, .bool true, .int .i64 0, .int .i64 1, .func (.func 42) #[] #[.pointer (some ⟨a, 0, none⟩)], .int .i64 (x.1 : Nat), .string x.2, undef, undef, undef, undef, undef, undef, undef, undef, undef, undef, undef, undef, undef, undef, undef, undef, undef, undef, undef, undef, undef, undef, undef, undef, undef, undef, v49, v50, v51, v52, v53, v54, v55, v56, v57, v58, v59, v60, v61, v62, v63, v64, v65, v66, v67, v68, v69, v70, v71, v72], defers := [] }))
        ?R1 ?assign1 ?body1 ?fin1 ?done1 ?stop1
      case R1 =>
        intro pre x a' _ W W' row hs hg hr
        exact ⟨hs.inv.grow hg (fun r e => ⟨by have := (hr r e).1; omega, (hr r e).2⟩) (fun r e h => by simp at h; have := (hr r e).1; have := HE.out.1; omega), hs.told, hs.act⟩
      case assign1 =>
        intro L2 pre x W0 W K hI hb hG hK
        have HK := Lib.hid (fun a' hact => hK a' W (KeepsFrom.refl _ _) (KpFrom.refl _ _ _) ⟨hI.new hb, hG, hact⟩)
        clear hK hI hG hb HF HQ HL
        simp only [encS]
        gi_wp2
        exact HK.out _ ⟨_, _, _, _, _, _, _, _, _, _, _, _, _, _, _, _, _, _, _, _, _, _, _, _, rfl⟩
      case body1 =>
        rintro L2 pre x a' W hR
        have hinv := hR.inv
        obtain ⟨hk, hxe⟩ := numS_pre xs pre x hR.told
        obtain ⟨k, hke⟩ : ∃ k, pre.length = k := ⟨_, rfl⟩
        rw [hke] at hinv hk hxe
        obtain ⟨v49, v50, v51, v52, v53, v54, v55, v56, v57, v58, v59, v60, v61, v62, v63, v64, v65, v66, v67, v68, v69, v70, v71, v72, rfl⟩ := hR.act
        clear hR
        subst hxe
        have hkn : k < n := by rw [← HN.out]; exact hk
        obtain ⟨ad, u, hAl, hab, hu, hcell⟩ := (HL.out.below hinv.below).at_ hkn
        simp only [strs, List.getElem?_map, List.getElem?_eq_getElem hk, Option.map_some, Option.some.injEq] at hu
        have hgx : gets xs k = xs[k] := by simp [gets, List.getElem?_eq_getElem hk]
        dsimp only
        rw [hgx]
        obtain ⟨y, hy⟩ : ∃ y, xs[k] = y := ⟨_, rfl⟩
        rw [hy] at hu ⊢
        subst hu
        have hpl : (pre ++ [(k, y)]).length = k + 1 := by rw [List.length_append, hke]; rfl
        have y0 : W.cell? ⟨w.heap.size, 0, none⟩ = some (.slice (some ad) n cl) := by rw [← hAl]; exact (hinv.l.cell 0).trans rfl
        clear hAl
        have y1 := (hinv.leave_.cell 0).trans rfl
        have y3 := (hinv.turn_.cell 0).trans rfl
        have y4 := (hinv.k_.cell 0).trans rfl
        have y4f := hinv.k_.frozen 0
        have q1 : ¬ (n : Int) ≤ (k : Int) := by omega
        have q2 : (k : Int) < (n : Int) := by omega
        have q3 : (0 : Int) ≤ (k : Int) := by omega
        have q4 : n ≤ 65536 := by omega
        obtain ⟨z, hz⟩ : ∃ z, k + 1 = z := ⟨_, rfl⟩
        have u1 : IntKind.i64.wrap ((k : Int) + 1) = (z : Int) := by rw [IntWalk.i64_in _ (by omega)]; omega
        obtain ⟨V5, hV5⟩ : ∃ V, W.setCell ⟨K1, 0, none⟩ (.int .i64 (z : Nat)) = V := ⟨_, rfl⟩
        have hinv5 : GoI w s a (.slice A1 n c1) (.slice Al n cl) n (strs xs) leave [D0] T1 1 K1 z V5 := by rw [← hV5]; exact hinv.step (by omega) (by omega) z
        have z1 := (hinv5.leave_.cell 0).trans rfl
        have z3 := (hinv5.turn_.cell 0).trans rfl
        have z4 := (hinv5.k_.cell 0).trans rfl
        have kk : KeepsFrom (K1 + 1) W V5 ∧ KpFrom itT s W V5 := by rw [← hV5]; exact ⟨keepsFrom_setS (p := ⟨K1, 0, none⟩) hinv.k_ _, kp_setS (p := ⟨K1, 0, none⟩) hinv.k_ (by unfold itT; decide) _⟩
        rw [← hz] at hinv5
        rw [← hpl] at hinv5
        have HV := Lib.hid (And.intro hinv5 (And.intro kk (And.intro hpl hz)))
        clear hinv hinv5 kk HF HQ HL hab hk hgx hpl hz hy
        gi_wp2
        exact ⟨HV.out.2.1.1, HV.out.2.1.2, HV.out.1⟩
      case fin1 =>
        rintro ys W V1 V2 hsz hS hI rfl
        exact ⟨hI, KeepsFrom.refl _ _⟩
      case done1 =>
        intro D1 ys W hD1 hS hI1 hK
        have hyl : ys.length = n := by rw [hS, numS_len]; exact HN.out
        rw [hyl] at hI1
        have hI : GoI w s a (.slice A1 n c1) (.slice Al n cl) n (strs xs) leave [D0, D1] T1 1 K1 n W := ⟨hI1.l, hI1.leave_, hI1.res, hI1.turn_, hI1.k_, hI1.box, hI1.row, fun D hd => (by simp at hd; rcases hd with rfl | rfl <;> first | exact hK | exact hI1.mark _ (by simp)), hI1.below⟩
        have hDs : w.heap.size ≤ D1 ∧ w.heap.size ≤ D0 ∧ D0 ≠ D1 := by have := HE.out; have := HDz.out; omega
        clear hI1 hyl hS hK
        have x0 := (hI.l.cell 0).trans rfl
        have x1 := (hI.leave_.cell 0).trans rfl
        have x3 := (hI.turn_.cell 0).trans rfl
        have x4 := (hI.k_.cell 0).trans rfl
        obtain ⟨T2, hTn⟩ : ∃ T, W.heap.size = T := ⟨_, rfl⟩
        obtain ⟨Wc, hWc⟩ : ∃ V, W.alloc (.cells #[.int .i64 0] 3) = V := ⟨_, rfl⟩
        obtain ⟨Wd, hWd⟩ : ∃ V, Wc.setCell ⟨T2, 0, none⟩ (.int .i64 1) = V := ⟨_, rfl⟩
        obtain ⟨V2, hVn⟩ : ∃ V, Wd.setCell ⟨T2, 0, none⟩ (.int .i64 2) = V := ⟨_, rfl⟩
        have kc : Blk Wc T2 3 #[.int .i64 0] := by rw [← hWc, ← hTn]; exact Blk.new W 3 _
        have kd : Blk Wd T2 3 #[.int .i64 1] := by rw [← hWd]; exact kc.set_ 0 _
        have hIt : GoI w s a (.slice A1 n c1) (.slice Al n cl) n (strs xs) leave [D0, D1] T2 2 K1 n V2 := by rw [← hVn, ← hWd, ← hWc, ← hTn]; exact hI.turned 1 2 hI.k_.lt
        have w1 := (kc.cell 0).trans rfl
        have w2 := kc.frozen 0
        have w3 := (kd.cell 0).trans rfl
        have w4 := kd.frozen 0
        have x5 : Wc.cell? ⟨T1, 0, none⟩ = some (.int .i64 1) := by rw [← hWc]; exact ((hI.turn_.alloc _).cell 0).trans rfl
        have hsz : w.heap.size + 3 ≤ T2 ∧ T2 < V2.heap.size := by
          have h1 := kc.lt
          have h2 := hI.res.lt
          exact ⟨by omega, by rw [← hVn, ← hWd]; simpa [World.setCell] using h1⟩
        have H2 := Lib.hid (And.intro hIt (And.intro HL.out hsz))
        clear hI hIt hsz HF HQ HL kc kd HE
        gi_wp2
        clear x0 x1 x3 x4 x5 w1 w2 w3 w4 hTn hWc hWd hVn
        have x3 := (H2.out.1.turn_.cell 0).trans rfl
        have x2 := (H2.out.1.res.cell 0).trans rfl
        have x2f := H2.out.1.res.frozen 0
        rw [roundsIn_succ]
        gi_wp2
        have hI := H2.out.1
        obtain ⟨V, hV⟩ : ∃ V, V2.setCell ⟨w.heap.size + 2, 0, none⟩ (.bool true) = V := ⟨_, rfl⟩
        have hV' : V2.setCell ⟨w.heap.size + 1 + 1, 0, none⟩ (.bool true) = V := hV
        have kf := keepsFrom_setS (B := 0) (p := ⟨w.heap.size + 2, 0, none⟩) hI.res (.bool true)
        have m1 : V.heap[D1]? = some (.deferred (some [])) := by rw [← hV]; exact kf.same D1 _ (Nat.zero_le _) (hI.mark D1 (by simp)) rfl
        have m0 : V.heap[D0]? = some (.deferred (some [])) := by rw [← hV]; exact kf.same D0 _ (Nat.zero_le _) (hI.mark D0 (by simp)) rfl
        have hres : Blk V (w.heap.size + 2) 4 #[.bool true] := by rw [← hV]; exact hI.res.set_ 0 _
        have hbel : Below w.heap.size w V := by rw [← hV]; exact hI.below.setCell (p := ⟨w.heap.size + 2, 0, none⟩) (by simp) _
        have g1 := grownBy_putObj' V D1 (.deferred none)
        have r1 : ∀ r, some D1 = some r → ∃ o : Obj, V.heap[r]? = some o ∧ o.isCells = false := fun r e => by cases e; exact ⟨_, m1, rfl⟩
        have m0' : (V.putObj D1 (.deferred none)).heap[D0]? = some (.deferred (some [])) := (World.putObj_heap_other (by omega)).trans m0
        have g0 := grownBy_putObj' (V.putObj D1 (.deferred none)) D0 (.deferred none)
        have r0 : ∀ r, some D0 = some r → ∃ o : Obj, (V.putObj D1 (.deferred none)).heap[r]? = some o ∧ o.isCells = false := fun r e => by cases e; exact ⟨_, m0', rfl⟩
        have hres2 := (hres.turn g1 r1).turn g0 r0
        have hbel1 := hbel.grown g1 hbel.size (fun r e => by cases e; omega)
        have hbel2 := hbel1.grown g0 hbel1.size (fun r e => by cases e; omega)
        have v0 := (hres2.cell 0).trans rfl
        rw [hV'] at *
        refine ⟨by simp, .inl ⟨_, _, rfl, run_takeDeferred m1, by simp, .inl ⟨_, _, rfl, run_takeDeferred m0', ?_⟩⟩⟩
        refine ⟨.bool true, ?_, rfl, hbel2⟩
        clear hI H2 x3 x2 x2f hV hV' kf m0 m1
        simp [results, Try.f22, go_sem, v0]
      case stop1 =>
        rintro D c pre W hD hSp h _
        exact h.elim
    · have hkne : ((k : Int) != (n : Int)) = true := by rw [bne_iff_ne]; omega
      have hkle : ((k : Int) != leave) = false := by rw [bne_eq_false_iff_eq]; exact hlv
      have x0 := (hI.l.cell 0).trans rfl
      have x1 := (hI.leave_.cell 0).trans rfl
      have x3 := (hI.turn_.cell 0).trans rfl
      have x4 := (hI.k_.cell 0).trans rfl
      obtain ⟨T1, hTn⟩ : ∃ T, W.heap.size = T := ⟨_, rfl⟩
      obtain ⟨Wc, hWc⟩ : ∃ V, W.alloc (.cells #[.int .i64 0] 3) = V := ⟨_, rfl⟩
      obtain ⟨Wd, hWd⟩ : ∃ V, Wc.setCell ⟨T1, 0, none⟩ (.int .i64 0) = V := ⟨_, rfl⟩
      obtain ⟨V1, hVn⟩ : ∃ V, Wd.setCell ⟨T1, 0, none⟩ (.int .i64 1) = V := ⟨_, rfl⟩
      have kc : Blk Wc T1 3 #[.int .i64 0] := by rw [← hWc, ← hTn]; exact Blk.new W 3 _
      have kd : Blk Wd T1 3 #[.int .i64 0] := by rw [← hWd]; exact kc.set_ 0 _
      have hIt : GoI w s a (.slice A1 n c1) (.slice Al n cl) n (strs xs) leave [D0] T1 1 K0 k V1 := by rw [← hVn, ← hWd, ← hWc, ← hTn]; exact hI.turned 0 1 hI.k_.lt
      have w1 := (kc.cell 0).trans rfl
      have w2 := kc.frozen 0
      have w3 := (kd.cell 0).trans rfl
      have w4 := kd.frozen 0
      have x5 : Wc.cell? ⟨T, 0, none⟩ = some (.int .i64 0) := by rw [← hWc]; exact ((hI.turn_.alloc _).cell 0).trans rfl
      have hsz : w.heap.size + 3 ≤ T1 ∧ T1 < V1.heap.size := by
        have h1 := kc.lt
        have h2 := hI.res.lt
        exact ⟨by omega, by rw [← hVn, ← hWd]; simpa [World.setCell] using h1⟩
      have H1 := Lib.hid (And.intro hIt (And.intro HL.out hsz))
      clear hI hIt hsz HF HQ HL kc kd
      gi_wp2
      clear x0 x1 x3 x4 x5 w1 w2 w3 w4 hTn hWc hWd hVn
      -- round 1
      obtain ⟨K1, hK1⟩ : ∃ K, V1.heap.size = K := ⟨_, rfl⟩
      obtain ⟨Y1, hY1⟩ : ∃ W, V1.alloc (.cells #[.int .i64 0] 3) = W := ⟨_, rfl⟩
      obtain ⟨X1, hX1⟩ : ∃ W, Y1.setCell ⟨K1, 0, none⟩ (.int .i64 0) = W := ⟨_, rfl⟩
      have hF1 : GoI w s a (.slice A1 n c1) (.slice Al n cl) n (strs xs) leave [D0] T1 1 K1 0 X1 := by rw [← hX1, ← hY1, ← hK1]; exact H1.out.1.fresh H1.out.2.2.2
      have kY1 : Blk Y1 K1 3 #[.int .i64 0] := by rw [← hY1, ← hK1]; exact Blk.new V1 3 _
      have c0 := (H1.out.1.turn_.cell 0).trans rfl
      have c1' := (kY1.cell 0).trans rfl
      have c2' := kY1.frozen 0
      have hsX : X1.heap.size = K1 + 1 := by rw [← hX1, ← hY1]; simp [World.setCell, hK1]
      have hKT : w.heap.size + 3 ≤ K1 ∧ T1 < K1 ∧ s ≤ K1 := by have h1 := H1.out.2.2.2; have h2 := H1.out.2.2.1; have h3 := H1.out.1.box.lt; omega
      have hsq := seq42 X1 s a n c1 A1 xs hF1.box hF1.row hx (by omega) 8
      have HQ := Lib.hid hsq
      have HF := Lib.hid hF1
      have HL := Lib.hid H1.out.2.1
      have HE := Lib.hid (show D0 < X1.heap.size ∧ D0 < K1 from by have h1 := (Array.getElem?_eq_some_iff.1 (H1.out.1.mark D0 (by simp))).1; omega)
      clear hsq hF1 kY1 H1
      rw [roundsIn_succ]
      gi_wp2
      clear c0 c1' c2' hX1 hY1 hK1
      refine range_seqG (gf := 42) (lb := #[.pointer (some ⟨a, 0, none⟩)]) rfl (enters_of Try.func42 (by kernel_rfl) rfl) HQ.out (fun h k => KpFrom.t h k) (fun W l o o' h hc => KpFrom.b W l o o' h hc) (Below.refl _ _) (fun _ => rfl)
        (fun pre W => GoI w s a (.slice A1 n c1) (.slice Al n cl) n (strs xs) leave [D0] T1 1 K1 pre.length W) (fun pre W => GoI w s a (.slice A1 n c1) (.slice Al n cl) n (strs xs) leave [D0] T1 1 K1 pre.length W) (fun c pre W => False)
        (fun pre W W' row hs hg hr => hs.grow hg (fun r e => ⟨by have := (hr r e).1; omega, (hr r e).2⟩) (fun r e h => by simp at h; have := (hr r e).1; have := HE.out.1; omega))
        (fun pre W W' row hs hg hr => hs.grow hg (fun r e => ⟨by have := (hr r e).1; omega, (hr r e).2⟩) (fun r e h => by simp at h; have := (hr r e).1; have := HE.out.1; omega))
        (fun c pre W W' row hs hg hr => hs)
        HF.out
        (GoR w s a (.slice A1 n c1) (.slice Al n cl) n xs leave [D0] T1 1 K1 (fun x a' => ∃ v49 v50 v51 v52 v53 v54 v55 v56 v57 v58 v59 v60 v61 v62 v63 v64 v65 v66 v67 v68 v69 v70 v71 v72 : Value, a' = { tmps := #[.pointer (some ⟨b, 0, none⟩), .slice Al n cl, .int .i64 leave, undef, .pointer (some ⟨w.heap.size, 0, none⟩), .pointer (some ⟨w.heap.size + 1, 0, none⟩), .pointer (some ⟨w.heap.size + 2, 0, none⟩), .func (.func 42) #[] #[.pointer (some ⟨a, 0, none⟩)], .pointer (some ⟨T1, 0, none⟩), .pointer (some ⟨K1, 0, none⟩), .int .i64 (x.1 : Nat), .string x.2, .pointer (some ⟨b, 0, none⟩), .func (.func 42) #[] #[.pointer (some ⟨a, 0, none⟩)], .func (.func 42) #[] #[.pointer (some ⟨a, 0, none⟩)], .bool false, .int .i64 1, .bool true, .int .i64 0, .int .i64 1, .func (.func 42) #[] #[.pointer (some ⟨a, 0, none⟩)], .int .i64 (x.1 : Nat), .string x.2, undef, undef, undef, undef, undef, undef, undef, undef, undef, undef, undef, undef, undef, undef, undef, undef, undef, undef, undef, undef, undef, undef, undef, undef, undef, undef, v49, v50, v51, v52, v53, v54, v55, v56, v57, v58, v59, v60, v61, v62, v63, v64, v65, v66, v67, v68, v69, v70, v71, v72], defers := [] }))
        ?R1 ?assign1 ?body1 ?fin1 ?done1 ?stop1
      case R1 =>
        intro pre x a' _ W W' row hs hg hr
        exact ⟨hs.inv.grow hg (fun r e => ⟨by have := (hr r e).1; omega, (hr r e).2⟩) (fun r e h => by simp at h; have := (hr r e).1; have := HE.out.1; omega), hs.told, hs.act⟩
      case assign1 =>
        intro L2 pre x W0 W K hI hb hG hK
        have HK := Lib.hid (fun a' hact => hK a' W (KeepsFrom.refl _ _) (KpFrom.refl _ _ _) ⟨hI.new hb, hG, hact⟩)
        clear hK hI hG hb HF HQ HL
        simp only [encS]
        gi_wp2
        exact HK.out _ ⟨_, _, _, _, _, _, _, _, _, _, _, _, _, _, _, _, _, _, _, _, _, _, _, _, rfl⟩
      case body1 =>
        rintro L2 pre x a' W hR
        have hinv := hR.inv
        obtain ⟨hk, hxe⟩ := numS_pre xs pre x hR.told
        obtain ⟨k, hke⟩ : ∃ k, pre.length = k := ⟨_, rfl⟩
        rw [hke] at hinv hk hxe
        obtain ⟨v49, v50, v51, v52, v53, v54, v55, v56, v57, v58, v59, v60, v61, v62, v63, v64, v65, v66, v67, v68, v69, v70, v71, v72, rfl⟩ := hR.act
        clear hR
        subst hxe
        have hkn : k < n := by rw [← HN.out]; exact hk
        obtain ⟨ad, u, hAl, hab, hu, hcell⟩ := (HL.out.below hinv.below).at_ hkn
        simp only [strs, List.getElem?_map, List.getElem?_eq_getElem hk, Option.map_some, Option.some.injEq] at hu
        have hgx : gets xs k = xs[k] := by simp [gets, List.getElem?_eq_getElem hk]
        dsimp only
        rw [hgx]
        obtain ⟨y, hy⟩ : ∃ y, xs[k] = y := ⟨_, rfl⟩
        rw [hy] at hu ⊢
        subst hu
        have hpl : (pre ++ [(k, y)]).length = k + 1 := by rw [List.length_append, hke]; rfl
        have y0 : W.cell? ⟨w.heap.size, 0, none⟩ = some (.slice (some ad) n cl) := by rw [← hAl]; exact (hinv.l.cell 0).trans rfl
        clear hAl
        have y1 := (hinv.leave_.cell 0).trans rfl
        have y3 := (hinv.turn_.cell 0).trans rfl
        have y4 := (hinv.k_.cell 0).trans rfl
        have y4f := hinv.k_.frozen 0
        have q1 : ¬ (n : Int) ≤ (k : Int) := by omega
        have q2 : (k : Int) < (n : Int) := by omega
        have q3 : (0 : Int) ≤ (k : Int) := by omega
        have q4 : n ≤ 65536 := by omega
        obtain ⟨z, hz⟩ : ∃ z, k + 1 = z := ⟨_, rfl⟩
        have u1 : IntKind.i64.wrap ((k : Int) + 1) = (z : Int) := by rw [IntWalk.i64_in _ (by omega)]; omega
        obtain ⟨V5, hV5⟩ : ∃ V, W.setCell ⟨K1, 0, none⟩ (.int .i64 (z : Nat)) = V := ⟨_, rfl⟩
        have hinv5 : GoI w s a (.slice A1 n c1) (.slice Al n cl) n (strs xs) leave [D0] T1 1 K1 z V5 := by rw [← hV5]; exact hinv.step (by omega) (by omega) z
        have z1 := (hinv5.leave_.cell 0).trans rfl
        have z3 := (hinv5.turn_.cell 0).trans rfl
        have z4 := (hinv5.k_.cell 0).trans rfl
        have kk : KeepsFrom (K1 + 1) W V5 ∧ KpFrom itT s W V5 := by rw [← hV5]; exact ⟨keepsFrom_setS (p := ⟨K1, 0, none⟩) hinv.k_ _, kp_setS (p := ⟨K1, 0, none⟩) hinv.k_ (by unfold itT; decide) _⟩
        rw [← hz] at hinv5
        rw [← hpl] at hinv5
        have HV := Lib.hid (And.intro hinv5 (And.intro kk (And.intro hpl hz)))
        clear hinv hinv5 kk HF HQ HL hab hk hgx hpl hz hy
        gi_wp2
        exact ⟨HV.out.2.1.1, HV.out.2.1.2, HV.out.1⟩
      case fin1 =>
        rintro ys W V1 V2 hsz hS hI rfl
        exact ⟨hI, KeepsFrom.refl _ _⟩
      case done1 =>
        intro D1 ys W hD1 hS hI1 hK
        have hyl : ys.length = n := by rw [hS, numS_len]; exact HN.out
        rw [hyl] at hI1
        have hI : GoI w s a (.slice A1 n c1) (.slice Al n cl) n (strs xs) leave [D0, D1] T1 1 K1 n W := ⟨hI1.l, hI1.leave_, hI1.res, hI1.turn_, hI1.k_, hI1.box, hI1.row, fun D hd => (by simp at hd; rcases hd with rfl | rfl <;> first | exact hK | exact hI1.mark _ (by simp)), hI1.below⟩
        have hDs : w.heap.size ≤ D1 ∧ w.heap.size ≤ D0 ∧ D0 ≠ D1 := by have := HE.out; have := HDz.out; omega
        clear hI1 hyl hS hK
        have x0 := (hI.l.cell 0).trans rfl
        have x1 := (hI.leave_.cell 0).trans rfl
        have x3 := (hI.turn_.cell 0).trans rfl
        have x4 := (hI.k_.cell 0).trans rfl
        obtain ⟨T2, hTn⟩ : ∃ T, W.heap.size = T := ⟨_, rfl⟩
        obtain ⟨Wc, hWc⟩ : ∃ V, W.alloc (.cells #[.int .i64 0] 3) = V := ⟨_, rfl⟩
        obtain ⟨Wd, hWd⟩ : ∃ V, Wc.setCell ⟨T2, 0, none⟩ (.int .i64 1) = V := ⟨_, rfl⟩
        obtain ⟨V2, hVn⟩ : ∃ V, Wd.setCell ⟨T2, 0, none⟩ (.int .i64 2) = V := ⟨_, rfl⟩
        have kc : Blk Wc T2 3 #[.int .i64 0] := by rw [← hWc, ← hTn]; exact Blk.new W 3 _
        have kd : Blk Wd T2 3 #[.int .i64 1] := by rw [← hWd]; exact kc.set_ 0 _
        have hIt : GoI w s a (.slice A1 n c1) (.slice Al n cl) n (strs xs) leave [D0, D1] T2 2 K1 n V2 := by rw [← hVn, ← hWd, ← hWc, ← hTn]; exact hI.turned 1 2 hI.k_.lt
        have w1 := (kc.cell 0).trans rfl
        have w2 := kc.frozen 0
        have w3 := (kd.cell 0).trans rfl
        have w4 := kd.frozen 0
        have x5 : Wc.cell? ⟨T1, 0, none⟩ = some (.int .i64 1) := by rw [← hWc]; exact ((hI.turn_.alloc _).cell 0).trans rfl
        have hsz : w.heap.size + 3 ≤ T2 ∧ T2 < V2.heap.size := by
          have h1 := kc.lt
          have h2 := hI.res.lt
          exact ⟨by omega, by rw [← hVn, ← hWd]; simpa [World.setCell] using h1⟩
        have H2 := Lib.hid (And.intro hIt (And.intro HL.out hsz))
        clear hI hIt hsz HF HQ HL kc kd HE
        gi_wp2
        clear x0 x1 x3 x4 x5 w1 w2 w3 w4 hTn hWc hWd hVn
        have x3 := (H2.out.1.turn_.cell 0).trans rfl
        have x2 := (H2.out.1.res.cell 0).trans rfl
        have x2f := H2.out.1.res.frozen 0
        rw [roundsIn_succ]
        gi_wp2
        have hI := H2.out.1
        obtain ⟨V, hV⟩ : ∃ V, V2.setCell ⟨w.heap.size + 2, 0, none⟩ (.bool true) = V := ⟨_, rfl⟩
        have hV' : V2.setCell ⟨w.heap.size + 1 + 1, 0, none⟩ (.bool true) = V := hV
        have kf := keepsFrom_setS (B := 0) (p := ⟨w.heap.size + 2, 0, none⟩) hI.res (.bool true)
        have m1 : V.heap[D1]? = some (.deferred (some [])) := by rw [← hV]; exact kf.same D1 _ (Nat.zero_le _) (hI.mark D1 (by simp)) rfl
        have m0 : V.heap[D0]? = some (.deferred (some [])) := by rw [← hV]; exact kf.same D0 _ (Nat.zero_le _) (hI.mark D0 (by simp)) rfl
        have hres : Blk V (w.heap.size + 2) 4 #[.bool true] := by rw [← hV]; exact hI.res.set_ 0 _
        have hbel : Below w.heap.size w V := by rw [← hV]; exact hI.below.setCell (p := ⟨w.heap.size + 2, 0, none⟩) (by simp) _
        have g1 := grownBy_putObj' V D1 (.deferred none)
        have r1 : ∀ r, some D1 = some r → ∃ o : Obj, V.heap[r]? = some o ∧ o.isCells = false := fun r e => by cases e; exact ⟨_, m1, rfl⟩
        have m0' : (V.putObj D1 (.deferred none)).heap[D0]? = some (.deferred (some [])) := (World.putObj_heap_other (by omega)).trans m0
        have g0 := grownBy_putObj' (V.putObj D1 (.deferred none)) D0 (.deferred none)
        have r0 : ∀ r, some D0 = some r → ∃ o : Obj, (V.putObj D1 (.deferred none)).heap[r]? = some o ∧ o.isCells = false := fun r e => by cases e; exact ⟨_, m0', rfl⟩
        have hres2 := (hres.turn g1 r1).turn g0 r0
        have hbel1 := hbel.grown g1 hbel.size (fun r e => by cases e; omega)
        have hbel2 := hbel1.grown g0 hbel1.size (fun r e => by cases e; omega)
        have v0 := (hres2.cell 0).trans rfl
        rw [hV'] at *
        refine ⟨by simp, .inl ⟨_, _, rfl, run_takeDeferred m1, by simp, .inl ⟨_, _, rfl, run_takeDeferred m0', ?_⟩⟩⟩
        refine ⟨.bool true, ?_, rfl, hbel2⟩
        clear hI H2 x3 x2 x2f hV hV' kf m0 m1
        simp [results, Try.f22, go_sem, v0]
      case stop1 =>
        rintro D c pre W hD hSp h _
        exact h.elim
end Go.Proofs.Ytbbjbbcakfmpgaa
