/- wicketlaw17.goes: a going over tells what is out. Conditions: those that it states. -/
import Derived.Test.YtmdohddiddlpiaaWinRel2
import Derived.Test.YtmdohddiddlpiaaWinLenS
import Derived.Test.YtmdohddiddlpiaaWinKnown
import Derived.Test.YtmdohddiddlpiaaRoundDraw
import Derived.Sort.LoopGhostIn
namespace Go.Proofs.Ytmdohddiddlpiaa
open Go.RowKit Go.Shelf
attribute [local go_sem] Oper.semAt_some

theorem all_not_nilG (w : World) (a : Option Addr) : Sem.run Try.prog (binOp BinOp.eql 83 (Value.func (.func 48) #[] #[.pointer a]) Value.nilFunc) w = .ok (.bool false) w := by kernel_rfl

/-- What a going over holds between two rounds. -/
structure GI (w W : World) (b0 b1 b2 b4 b5 q : Nat) (leave : Int) (k t : Nat) (r : Bool) : Prop where
  x0 : Blk W b0 41 #[.pointer (some ⟨q, 0, none⟩)]
  x1 : Blk W b1 2 #[.int .i64 leave]
  x2 : Blk W b2 4 #[.bool r]
  x4 : Blk W b4 2 #[.int .i64 (k : Int)]
  x5 : Blk W b5 2 #[.int .i64 (t : Int)]
  lo : Below w.heap.size w W
namespace GI
variable {w W W' : World} {b0 b1 b2 b4 b5 q : Nat} {leave : Int} {k t : Nat} {r : Bool}
theorem drewN (h : GI w W b0 b1 b2 b4 b5 q leave k t r) (j : Nat) : GI w (W.drewN j) b0 b1 b2 b4 b5 q leave k t r :=
  ⟨h.x0.drewN j, h.x1.drewN j, h.x2.drewN j, h.x4.drewN j, h.x5.drewN j, below_drewN h.lo j⟩
theorem c0 (h : GI w W b0 b1 b2 b4 b5 q leave k t r) : W.cell? ⟨b0, 0, none⟩ = some (.pointer (some ⟨q, 0, none⟩)) := (h.x0.cell 0).trans rfl
theorem c1 (h : GI w W b0 b1 b2 b4 b5 q leave k t r) : W.cell? ⟨b1, 0, none⟩ = some (.int .i64 leave) := (h.x1.cell 0).trans rfl
theorem c2 (h : GI w W b0 b1 b2 b4 b5 q leave k t r) : W.cell? ⟨b2, 0, none⟩ = some (.bool r) := (h.x2.cell 0).trans rfl
theorem c4 (h : GI w W b0 b1 b2 b4 b5 q leave k t r) : W.cell? ⟨b4, 0, none⟩ = some (.int .i64 (k : Int)) := (h.x4.cell 0).trans rfl
theorem c5 (h : GI w W b0 b1 b2 b4 b5 q leave k t r) : W.cell? ⟨b5, 0, none⟩ = some (.int .i64 (t : Int)) := (h.x5.cell 0).trans rfl
theorem turn {row : Option Nat} (h : GI w W b0 b1 b2 b4 b5 q leave k t r) (hg : W.grownBy W' row) (hr : ∀ j, row = some j → w.heap.size ≤ j ∧ ∃ o : Obj, W.heap[j]? = some o ∧ o.isCells = false) : GI w W' b0 b1 b2 b4 b5 q leave k t r := by
  have hr2 := fun j e => (hr j e).2
  exact ⟨h.x0.turn hg hr2, h.x1.turn hg hr2, h.x2.turn hg hr2, h.x4.turn hg hr2, h.x5.turn hg hr2, h.lo.grown hg h.lo.size (fun j e => (hr j e).1)⟩
theorem set4 (h : GI w W b0 b1 b2 b4 b5 q leave k t r) (k' : Nat) (hlo : w.heap.size ≤ b4) (h0 : b0 ≠ b4) (h1 : b1 ≠ b4) (h2 : b2 ≠ b4) (h5 : b5 ≠ b4) : GI w (W.setCell ⟨b4, 0, none⟩ (.int .i64 (k' : Int))) b0 b1 b2 b4 b5 q leave k' t r :=
  ⟨h.x0.far h0 _, h.x1.far h1 _, h.x2.far h2 _, by simpa using h.x4.set_ 0 (.int .i64 (k' : Int)), h.x5.far h5 _, h.lo.setCell (p := ⟨b4, 0, none⟩) hlo _⟩
theorem set5 (h : GI w W b0 b1 b2 b4 b5 q leave k t r) (t' : Nat) (hlo : w.heap.size ≤ b5) (h0 : b0 ≠ b5) (h1 : b1 ≠ b5) (h2 : b2 ≠ b5) (h4 : b4 ≠ b5) : GI w (W.setCell ⟨b5, 0, none⟩ (.int .i64 (t' : Int))) b0 b1 b2 b4 b5 q leave k t' r :=
  ⟨h.x0.far h0 _, h.x1.far h1 _, h.x2.far h2 _, h.x4.far h4 _, by simpa using h.x5.set_ 0 (.int .i64 (t' : Int)), h.lo.setCell (p := ⟨b5, 0, none⟩) hlo _⟩
theorem set2 (h : GI w W b0 b1 b2 b4 b5 q leave k t r) (r' : Bool) (hlo : w.heap.size ≤ b2) (h0 : b0 ≠ b2) (h1 : b1 ≠ b2) (h4 : b4 ≠ b2) (h5 : b5 ≠ b2) : GI w (W.setCell ⟨b2, 0, none⟩ (.bool r')) b0 b1 b2 b4 b5 q leave k t r' :=
  ⟨h.x0.far h0 _, h.x1.far h1 _, by simpa using h.x2.set_ 0 (.bool r'), h.x4.far h4 _, h.x5.far h5 _, h.lo.setCell (p := ⟨b2, 0, none⟩) hlo _⟩
end GI

def GGo (w : World) (b0 b1 b2 b4 b5 q : Nat) (leave : Int) (X pre : List (Nat × ByteArray)) (W : World) : Prop := pre <+: X ∧ GI w W b0 b1 b2 b4 b5 q leave (lastN pre) pre.length false
def GStop (w : World) (b0 b1 b2 b4 b5 q : Nat) (leave : Int) (X : List (Nat × ByteArray)) (cc : Code) (pre : List (Nat × ByteArray)) (W : World) : Prop :=
  cc = .ret ∧ ∃ (r : Bool) (k t : Nat), GI w W b0 b1 b2 b4 b5 q leave k t r ∧ (r = false → ¬ pre <+: X)

set_option maxHeartbeats 4000000 in
set_option maxRecDepth 100000 in
theorem goes_any (w : World) (base p g n c : Nat) (o : Nat → Bool) (v : Nat → ByteArray) (m l : Nat) (h : RWS w p g n c o v m l) (q : Nat) (A : Option Addr) (a : Nat) (B : Option Addr) (b size : Nat) (th : List ByteArray) (bk : List Bool) (hr : RfW w base q A a B b size th bk)
    (hrel : Rel n o v m l th bk) (leave : Int) : Calls Try.prog 25 #[.pointer (some ⟨p, 0, none⟩), .pointer (some ⟨q, 0, none⟩), .int .i64 leave] w fun e w' => e = .returned (.bool true) ∧ Below w.heap.size w w' := by
  refine (callsIn_wide (n := 9)).1 ?_
  obtain ⟨W0, hW0⟩ : ∃ W0, (((((w.alloc (.cells #[.pointer (some ⟨q, 0, none⟩)] 41)).alloc (.cells #[.int .i64 leave] 2)).alloc (.cells #[.bool false] 4)).alloc (.cells #[.pointer (some ⟨p, 0, none⟩)] 38)).alloc (.cells #[.int .i64 0] 2)).alloc (.cells #[.int .i64 0] 2) = W0 := ⟨_, rfl⟩
  have hnn := all_not_nilG
  have hall := allS (((w.alloc (.cells #[.pointer (some ⟨q, 0, none⟩)] 41)).alloc (.cells #[.int .i64 leave] 2)).alloc (.cells #[.bool false] 4)) (some ⟨p, 0, none⟩)
  simp only [World.size_alloc] at hall
  have HW := Lib.hid hW0
  clear hW0
  refine callsIn_of_wp_marks Try.func25 rfl trivial ?_ rfl
  simp only [Try.ntmps25, List.size_toArray, List.length_cons, List.length_nil, Nat.reduceAdd, Nat.reduceSub, Array.replicate_succ, Array.replicate_zero, List.push_toArray, List.append_toArray, List.nil_append, List.cons_append]
  gi_wp2_with (refine ⟨trivial, ?_⟩; gi_at_call 42; refine (callsIn_wide.2 hall).mono ?_; clear hall; rintro e w' ⟨rfl, rfl⟩)
  rw [HW.out]
  have hW0 := HW.out
  obtain ⟨b0, e0⟩ : ∃ b0, w.heap.size = b0 := ⟨_, rfl⟩
  obtain ⟨b1, e1⟩ : ∃ b1, b0 + 1 = b1 := ⟨_, rfl⟩
  obtain ⟨b2, e2⟩ : ∃ b2, b1 + 1 = b2 := ⟨_, rfl⟩
  obtain ⟨b3, e3⟩ : ∃ b3, b2 + 1 = b3 := ⟨_, rfl⟩
  obtain ⟨b4, e4⟩ : ∃ b4, b3 + 1 = b4 := ⟨_, rfl⟩
  obtain ⟨b5, e5⟩ : ∃ b5, b4 + 1 = b5 := ⟨_, rfl⟩
  have t1 : Below b0 w (w.alloc (.cells #[.pointer (some ⟨q, 0, none⟩)] 41)) := (Below.refl _ w).alloc (by omega) _
  have s1 : (w.alloc (.cells #[.pointer (some ⟨q, 0, none⟩)] 41)).heap.size = b1 := by rw [World.size_alloc, e0, e1]
  have k0 := Blk.new w 41 #[.pointer (some ⟨q, 0, none⟩)]
  rw [e0] at k0
  generalize w.alloc (.cells #[.pointer (some ⟨q, 0, none⟩)] 41) = W1 at hW0 t1 s1 k0
  have t2 := t1.alloc (by omega) (.cells #[.int .i64 leave] 2)
  have s2 : (W1.alloc (.cells #[.int .i64 leave] 2)).heap.size = b2 := by rw [World.size_alloc, s1, e2]
  have k1 := Blk.new W1 2 #[.int .i64 leave]
  rw [s1] at k1
  replace k0 := k0.alloc (.cells #[.int .i64 leave] 2)
  generalize W1.alloc (.cells #[.int .i64 leave] 2) = W2 at hW0 t2 s2 k0 k1
  have t3 := t2.alloc (by omega) (.cells #[.bool false] 4)
  have s3 : (W2.alloc (.cells #[.bool false] 4)).heap.size = b3 := by rw [World.size_alloc, s2, e3]
  have k2 := Blk.new W2 4 #[.bool false]
  rw [s2] at k2
  replace k0 := k0.alloc (.cells #[.bool false] 4)
  replace k1 := k1.alloc (.cells #[.bool false] 4)
  generalize W2.alloc (.cells #[.bool false] 4) = W3 at hW0 t3 s3 k0 k1 k2
  have t4 := t3.alloc (by omega) (.cells #[.pointer (some ⟨p, 0, none⟩)] 38)
  have s4 : (W3.alloc (.cells #[.pointer (some ⟨p, 0, none⟩)] 38)).heap.size = b4 := by rw [World.size_alloc, s3, e4]
  have k3 := Blk.new W3 38 #[.pointer (some ⟨p, 0, none⟩)]
  rw [s3] at k3
  replace k0 := k0.alloc (.cells #[.pointer (some ⟨p, 0, none⟩)] 38)
  replace k1 := k1.alloc (.cells #[.pointer (some ⟨p, 0, none⟩)] 38)
  replace k2 := k2.alloc (.cells #[.pointer (some ⟨p, 0, none⟩)] 38)
  generalize W3.alloc (.cells #[.pointer (some ⟨p, 0, none⟩)] 38) = W4 at hW0 t4 s4 k0 k1 k2 k3
  have t5 := t4.alloc (by omega) (.cells #[.int .i64 0] 2)
  have s5 : (W4.alloc (.cells #[.int .i64 0] 2)).heap.size = b5 := by rw [World.size_alloc, s4, e5]
  have k4 := Blk.new W4 2 #[.int .i64 0]
  rw [s4] at k4
  replace k0 := k0.alloc (.cells #[.int .i64 0] 2)
  replace k1 := k1.alloc (.cells #[.int .i64 0] 2)
  replace k2 := k2.alloc (.cells #[.int .i64 0] 2)
  replace k3 := k3.alloc (.cells #[.int .i64 0] 2)
  generalize W4.alloc (.cells #[.int .i64 0] 2) = W5 at hW0 t5 s5 k0 k1 k2 k3 k4
  have t6 := t5.alloc (by omega) (.cells #[.int .i64 0] 2)
  have s6 : (W5.alloc (.cells #[.int .i64 0] 2)).heap.size = b5 + 1 := by rw [World.size_alloc, s5]
  have k5 := Blk.new W5 2 #[.int .i64 0]
  rw [s5] at k5
  replace k0 := k0.alloc (.cells #[.int .i64 0] 2)
  replace k1 := k1.alloc (.cells #[.int .i64 0] 2)
  replace k2 := k2.alloc (.cells #[.int .i64 0] 2)
  replace k3 := k3.alloc (.cells #[.int .i64 0] 2)
  replace k4 := k4.alloc (.cells #[.int .i64 0] 2)
  rw [hW0] at t6 s6 k0 k1 k2 k3 k4 k5
  clear t1 t2 t3 t4 t5 s1 s2 s3 s4 s5 hW0 HW W1 W2 W3 W4 W5
  simp only [e0, e1, e2, e3, e4, e5]
  have i0 : w.heap.size ≤ b0 := by omega
  have i01 : b0 < b1 := by omega
  have i12 : b1 < b2 := by omega
  have i23 : b2 < b3 := by omega
  have i34 : b3 < b4 := by omega
  have i45 : b4 < b5 := by omega
  have hB0 : Below w.heap.size w W0 := by rw [e0]; exact t6
  have hsz0 : b5 < W0.heap.size := by rw [s6]; omega
  have hsz1 : b5 + 1 ≤ W0.heap.size := by rw [s6]; exact Nat.le_refl _
  have hRW := h.fr (S := noB) (Fr.of_new hB0) (fun h => h) (fun h => h)
  have hsq := seqS W0 (b5 + 1) b3 p g n c o v m l hRW ((k3.cell 0).trans rfl) (by omega) hsz1 8 (by omega)
  have hG0 : GI w W0 b0 b1 b2 b4 b5 q leave (lastN []) ([] : List (Nat × ByteArray)).length false := ⟨k0, k1, k2, k4, k5, hB0⟩
  have hlen := outs_lenS o v n m (l - m)
  have hfar := h.far
  have hcount := hrel.count_all
  have hml := h.le
  obtain ⟨X, hX⟩ : ∃ X, outsNS o v n m (l - m) = X := ⟨_, rfl⟩
  rw [hX] at hsq hlen hcount
  have hl1 : X.length ≤ 1000000 := by omega
  have HX := Lib.hid hX
  have HREL := Lib.hid hrel
  have HC := Lib.hid hcount
  clear e0 e1 e2 e3 e4 e5 t6 s6 k0 k1 k2 k3 k4 k5 hX hrel hcount hlen hRW h
  refine wpIn_rangeFunc_ownG (F := Fence.wide) rfl (by omega) (gf := 48) (lb := #[.pointer (some ⟨b3, 0, none⟩)]) rfl trivial (enters_of Try.func48 (by kernel_rfl) rfl) hsq (fun h k => KpFrom.t h k) (fun W l o o' _ h hc _ => KpFrom.b W l o o' h hc) (Below.refl _ _) (fun _ => rfl)
    (GGo w b0 b1 b2 b4 b5 q leave X)
    (GStop w b0 b1 b2 b4 b5 q leave X)
    (fun s A B row hs hg hr => ⟨hs.1, hs.2.turn hg (fun j e => ⟨by have := (hr j e).1; omega, (hr j e).2⟩)⟩)
    (fun cc s A B row hs hg hr => by
      obtain ⟨e, r, k, t, hG, hp⟩ := hs
      exact ⟨e, r, k, t, hG.turn hg (fun j e => ⟨by have := (hr j e).1; omega, (hr j e).2⟩), hp⟩)
    ⟨⟨X, rfl⟩, hG0⟩
    (fun x => { tmps := #[.pointer (some ⟨p, 0, none⟩), .pointer (some ⟨q, 0, none⟩), .int .i64 leave, undef, .pointer (some ⟨b0, 0, none⟩), .pointer (some ⟨b1, 0, none⟩), .pointer (some ⟨b2, 0, none⟩), .func (.func 48) #[] #[.pointer (some ⟨b3, 0, none⟩)], .pointer (some ⟨b4, 0, none⟩), .pointer (some ⟨b5, 0, none⟩), .int .i64 (x.1 : Int), .string x.2, .pointer (some ⟨p, 0, none⟩), .func (.func 48) #[] #[.pointer (some ⟨b3, 0, none⟩)], .func (.func 48) #[] #[.pointer (some ⟨b3, 0, none⟩)], .bool false, .func (.func 48) #[] #[.pointer (some ⟨b3, 0, none⟩)], .int .i64 (x.1 : Int), .string x.2, undef, undef, undef, undef, undef, undef, undef, undef, undef, undef, undef, undef, undef, undef, undef, undef, undef, undef, undef, undef, undef, undef, undef, undef, undef, undef, undef, undef, undef, undef, undef, undef, undef, undef, undef, undef, undef, undef, undef, undef, undef, undef, undef, undef, undef, undef, undef, undef, undef, undef], defers := [] }) ?assign ?body ?done ?stop
  case assign =>
    intro L x W K hK
    simp only [encS]
    gi_wp2
    exact hK
  case body =>
    rintro L pre x W ⟨hpre, hG⟩ hlt
    obtain ⟨k, hk⟩ : ∃ k, lastN pre = k := ⟨_, rfl⟩
    have hkl : k ≤ l := by
      have hmem := outs_memS o v n m (l - m)
      rw [HX.out, show m + (l - m) = l by omega] at hmem
      rcases List.eq_nil_or_concat pre with e | ⟨l', y, e⟩
      · subst e; rw [← hk, lastN_nil]; omega
      · rw [List.concat_eq_append] at e
        subst e
        rw [← hk, lastN_snoc]
        have : y ∈ X := hpre.subset (by simp)
        have := (hmem y.1).1 (List.mem_map_of_mem this)
        exact this.2.1
    rw [hk] at hG
    have c4 := hG.c4
    have g4 := hG.x4.frozen 0
    have u1 : IntKind.i64.wrap ((k : Int) + 1) = ((k + 1 : Nat) : Int) := by rw [IntWalk.i64_in _ (by omega)]; omega
    have hG1 := hG.set4 (k + 1) (by omega) (by omega) (by omega) (by omega) (by omega)
    have f1 : Fr (fun j => j = b2 ∨ j = b4 ∨ j = b5) W (W.setCell ⟨b4, 0, none⟩ (.int .i64 ((k + 1 : Nat) : Int))) := (Fr.refl (fun j => j = b2 ∨ j = b4 ∨ j = b5) W).setCell (p := ⟨b4, 0, none⟩) (fun _ => .inr (.inl rfl)) _
    rw [show ((k + 1 : Nat) : Int) = (k : Int) + 1 by omega] at hG1 f1 u1
    obtain ⟨W1, hW1⟩ : ∃ W1, W.setCell ⟨b4, 0, none⟩ (.int .i64 ((k : Int) + 1)) = W1 := ⟨_, rfl⟩
    rw [hW1] at hG1 f1
    have HG1 := Lib.hid (And.intro hG1 f1)
    have hbl := HREL.out.bl
    have htl := HREL.out.tl
    have HK := Lib.hid hk
    have hkw : ∀ V, Below w.heap.size w V → RfW V base q A a B b size th bk := fun V e => hr.new e
    have HKW := Lib.hid hkw
    have HBL := Lib.hid (And.intro hbl htl)
    have HKP : Hid (∀ (T : TypeId → Prop) W', Fr (fun j => j = b2 ∨ j = b4 ∨ j = b5) W W' → KeepsFrom W0.heap.size W W' ∧ KpFrom T (b5 + 1) W W') := Lib.hid fun T W' f =>
      ⟨keepsFrom_fr f (fun k hk => .inl (by omega)),
       KpFrom.fr f (fun k hk => .inl (by omega))⟩
    have hpre2 : pre <+: outsNS o v n m (l - m) := by rw [HX.out]; exact hpre
    have HNX : Hid (∀ j, k < j → (∀ i, k < i → i < j → bk[i - 1]? ≠ some false) → (∀ y, bk[j - 1]? = some false → th[j - 1]? = some y → (pre ++ [(j, y)]) <+: X ∧ ∀ z, (pre ++ [z]) <+: X → z = (j, y)) ∧ (l < j → ∀ z, ¬ (pre ++ [z]) <+: X)) := Lib.hid fun j h1 h2 => by
      have := next_out HREL.out hpre2 j (by rw [hk]; exact h1) (by rw [hk]; exact h2)
      rw [HX.out] at this
      exact this
    clear hpre2
    clear hG1 f1 hk hbl htl hkw
    gi_wp2
    clear hW1 c4 g4
    gi_loopg [] (l + 1 - (k + 1)) (fun gk wr => ∃ j, gk = l + 1 - j ∧ k < j ∧ j ≤ l + 1 ∧ Hid (∀ i, k < i → i < j → bk[i - 1]? ≠ some false) ∧ Hid (GI w wr b0 b1 b2 b4 b5 q leave j pre.length false ∧ Fr (fun j => j = b2 ∨ j = b4 ∨ j = b5) W wr))
    case atStart => exact ⟨k + 1, rfl, by omega, by omega, Lib.hid (fun i a b => by omega), HG1⟩
    case round =>
      clear HG1
      obtain ⟨j, rfl, hj1, hj2, hgap, hGF⟩ := hrel
      have hG2 := hGF.out.1
      have d0 := hG2.c0
      have d4 := hG2.c4
      have hrf := HKW.out wr hG2.lo
      have r1 := hrf.c1
      rw [HBL.out.2] at r1
      by_cases hjl : j ≤ l
      · have x1 : (j : Int) ≤ (l : Int) := by omega
        have x2 : (1 : Int) ≤ (j : Int) := by omega
        obtain ⟨bb, hbb⟩ : ∃ bb, bk[j - 1]? = some bb := ⟨bk[j - 1]'(by have := HBL.out.1; omega), List.getElem?_eq_getElem _⟩
        have hrN := fun i => HKW.out (wr.drewN i) (hG2.drewN i).lo
        cases bb with
        | true =>
          have ho := fun i => rOutNo (wr.drewN i) base q A a B b size th bk (hrN i) (j : Int) (fun hh => by have := hh.2; rw [show ((j : Nat) : Int).toNat - 1 = j - 1 by omega, hbb] at this; cases this)
          gi_wp2
          refine wpIn_region_quiet_round (by kernel_rfl) (by kernel_rfl) (by kernel_rfl) ?_
          repeat
            refine wpQuietIn_step (fun _ _ _ _ => trivial) (fun K hK => ?_)
            go_simp
            first
              | (refine hK _ ?_; clear hK K)
              | (apply Exists.intro
                 refine ⟨fun _ => ?_, hK _ ?_⟩
                 (gi_at_call 43; refine CallsIn.inRound L (callsIn_wide.2 (quiet_left (ho _))))
                 clear hK K)
          refine wpQuietIn_nil ?_
          intro _ hw'
          obtain ⟨nq, hw''⟩ := hw'
          subst hw''
          have hG3 := hG2.drewN nq
          have f3 := hGF.out.2.drewN nq
          clear ho hrN d0 d4 r1 hrf hG2 hGF
          obtain ⟨wd, hwd⟩ : ∃ wd, wr.drewN nq = wd := ⟨_, rfl⟩
          rw [hwd] at hG3 f3 ⊢
          clear hwd
          have e4 := hG3.c4
          have g4 := hG3.x4.frozen 0
          have u2 : IntKind.i64.wrap ((j : Int) + 1) = (j : Int) + 1 := IntWalk.i64_in _ (by omega)
          have hG4 := hG3.set4 (j + 1) (by omega) (by omega) (by omega) (by omega) (by omega)
          have f4 := f3.setCell (p := ⟨b4, 0, none⟩) (fun _ => .inr (.inl rfl)) (.int .i64 ((j + 1 : Nat) : Int))
          rw [show ((j + 1 : Nat) : Int) = (j : Int) + 1 by omega] at hG4 f4
          have HG4 := Lib.hid (And.intro hG4 f4)
          clear hG4 f4 hG3 f3
          gi_wp2
          gi_roundg (l + 1 - (j + 1))
          case measure => omega
          case rel => exact ⟨j + 1, rfl, by omega, by omega, Lib.hid (fun i h1 h2 => by
            rcases Nat.lt_or_ge i j with h3 | h3
            · exact hgap.out i h1 h3
            · rw [show i = j by omega, hbb]; exact fun e => by cases e), HG4⟩
        | false =>
          have ho := fun i => rOutYes (wr.drewN i) base q A a B b size th bk (hrN i) (j - 1) hbb
          rw [show ((j - 1 : Nat) : Int) + 1 = (j : Int) by omega] at ho
          gi_wp2
          refine wpIn_region_quiet_round (by kernel_rfl) (by kernel_rfl) (by kernel_rfl) ?_
          repeat
            refine wpQuietIn_step (fun _ _ _ _ => trivial) (fun K hK => ?_)
            go_simp
            first
              | (refine hK _ ?_; clear hK K)
              | (apply Exists.intro
                 refine ⟨fun _ => ?_, hK _ ?_⟩
                 (gi_at_call 43; refine CallsIn.inRound L (callsIn_wide.2 (quiet_left (ho _))))
                 clear hK K)
          refine wpQuietIn_nil ?_
          intro _ hw'
          obtain ⟨nq, hw''⟩ := hw'
          subst hw''
          gi_wp2
          have hG3 := hG2.drewN nq
          have f3 := hGF.out.2.drewN nq
          clear ho hrN d0 d4 r1 hrf hG2 hGF
          obtain ⟨wd, hwd⟩ : ∃ wd, wr.drewN nq = wd := ⟨_, rfl⟩
          rw [hwd] at hG3 f3 ⊢
          clear hwd
          have hrf := HKW.out wd hG3.lo
          have r1 := hrf.c1
          rw [HBL.out.2] at r1
          have hfew := hrf.few
          have d0 := hG3.c0
          have d4 := hG3.c4
          obtain ⟨y, hy⟩ : ∃ y, th[j - 1]? = some y := ⟨_, List.getElem?_eq_getElem (by have := HBL.out.2; omega)⟩
          obtain ⟨gA, hA, hcy, _⟩ := hrf.at1 hy
          rw [hA] at r1
          have HNXJ := Lib.hid ((HNX.out j (by omega) hgap.out).1 y hbb hy)
          obtain ⟨i, hi⟩ : ∃ i, j = i + 1 := ⟨j - 1, by omega⟩
          subst hi
          rw [show i + 1 - 1 = i by omega] at hcy
          have q3 : (0 : Int) ≤ (i : Int) := by omega
          have q4 : (i : Int) < (l : Int) := by omega
          have q5 : (i : Int) ≤ 100000 := by have := HBL.out; omega
          have x3 : ¬ (l : Int) < (i : Int) + 1 := by omega
          have u4 : IntKind.i64.wrap ((i : Int) + 1 - 1) = (i : Int) := by rw [IntWalk.i64_in _ (by omega)]; omega
          have u5 : IntKind.i64.wrap (i : Int) = (i : Int) := IntWalk.i64_in _ (by omega)
          rw [show ((i + 1 : Nat) : Int) = (i : Int) + 1 by omega] at d4
          clear hA hy hbb hfew
          by_cases hxn : x.1 = i + 1
          · have x4 : (x.1 : Int) = (i : Int) + 1 := by omega
            by_cases hxs : x.2 = y
            · refine wpIn_region_quiet_round (by kernel_rfl) (by kernel_rfl) (by kernel_rfl) ?_
              repeat
                refine wpQuietIn_step (fun _ _ _ _ => trivial) (fun K hK => ?_)
                go_simp
                first
                  | (refine hK _ ?_; clear hK K)
                  | (apply Exists.intro
                     refine ⟨fun _ => ?_, hK _ ?_⟩
                     (fail)
                     clear hK K)
              refine wpQuietIn_nil ?_
              intro _ hw'
              obtain ⟨nq, hw''⟩ := hw'
              subst hw''
              have hxe : x = (i + 1, y) := by rw [← hxn, ← hxs]
              have hp2 : (pre ++ [x]) <+: X := by rw [hxe]; exact HNXJ.out.1
              have hpl : pre.length + 1 ≤ X.length := by have := hp2.length_le; rw [List.length_append] at this; exact this
              have hG5 := hG3.drewN nq
              have f5 := f3.drewN nq
              clear d0 d4 r1 hrf hG3 f3 hcy hxe
              obtain ⟨we, hwe⟩ : ∃ we, wd.drewN nq = we := ⟨_, rfl⟩
              rw [hwe] at hG5 f5 ⊢
              clear hwe
              have u6 : IntKind.i64.wrap ((pre.length : Int) + 1) = (pre.length : Int) + 1 := IntWalk.i64_in _ (by omega)
              have e5 := hG5.c5
              have g5 := hG5.x5.frozen 0
              have hG6 := hG5.set5 (pre.length + 1) (by omega) (by omega) (by omega) (by omega) (by omega)
              have f6 := f5.setCell (p := ⟨b5, 0, none⟩) (fun _ => .inr (.inr rfl)) (.int .i64 ((pre.length + 1 : Nat) : Int))
              rw [show ((pre.length + 1 : Nat) : Int) = (pre.length : Int) + 1 by omega] at hG6 f6
              obtain ⟨wf, hwf⟩ : ∃ wf, we.setCell ⟨b5, 0, none⟩ (.int .i64 ((pre.length : Int) + 1)) = wf := ⟨_, rfl⟩
              rw [hwf] at hG6 f6
              have d1 := hG6.c1
              have d2 := hG6.c2
              have g2 := hG6.x2.frozen 0
              have d5 := hG6.c5
              rw [show ((pre.length + 1 : Nat) : Int) = (pre.length : Int) + 1 by omega] at d5
              have hG7 := hG6.set2 true (by omega) (by omega) (by omega) (by omega) (by omega)
              have f7 := f6.setCell (p := ⟨b2, 0, none⟩) (fun _ => .inl rfl) (.bool true)
              have HF6 := Lib.hid (And.intro hG6 f6)
              have HF7 := Lib.hid (And.intro hG7 f7)
              have HP2 := Lib.hid hp2
              have HXN := Lib.hid hxn
              have HLN := Lib.hid (show (pre ++ [x]).length = pre.length + 1 by rw [List.length_append]; rfl)
              clear hG5 f5 hG6 f6 hG7 f7 hp2 hpl
              by_cases hlv : (pre.length : Int) + 1 = leave
              · replace hlv := hlv.symm
                gi_wp2
                refine ⟨(HKP.out (fun _ => True) _ HF7.out.2).1, ?_⟩
                have h7 := HF7.out.1
                rw [hlv] at h7
                exact ⟨rfl, true, _, _, h7, fun e => by cases e⟩
              · gi_wp2
                refine ⟨(HKP.out (fun _ => True) _ HF6.out.2).1, (HKP.out _ _ HF6.out.2).2, HP2.out, ?_⟩
                have := HF6.out.1
                rw [← HXN.out, ← HLN.out] at this
                rw [lastN_snoc]
                exact this
            · have x6 : (x.2.toList == y.toList) = false := by
                apply beq_eq_false_iff_ne.2
                intro e
                rw [ByteArray.toList_eq, ByteArray.toList_eq] at e
                exact hxs (congrArg ByteArray.mk (Array.toList_inj.1 e))
              refine wpIn_region_quiet_round (by kernel_rfl) (by kernel_rfl) (by kernel_rfl) ?_
              repeat
                refine wpQuietIn_step (fun _ _ _ _ => trivial) (fun K hK => ?_)
                go_simp
                first
                  | (refine hK _ ?_; clear hK K)
                  | (apply Exists.intro
                     refine ⟨fun _ => ?_, hK _ ?_⟩
                     (fail)
                     clear hK K)
              refine wpQuietIn_nil ?_
              intro _ hw'
              obtain ⟨nq, hw''⟩ := hw'
              subst hw''
              have HNO : Hid (¬ (pre ++ [x]) <+: X) := Lib.hid fun e => hxs (by rw [HNXJ.out.2 x e])
              have HF := Lib.hid (And.intro (hG3.drewN nq) (f3.drewN nq))
              have hG5 := hG3.drewN nq
              clear d0 d4 r1 hrf hG3 f3 hcy
              obtain ⟨we, hwe⟩ : ∃ we, wd.drewN nq = we := ⟨_, rfl⟩
              rw [hwe] at HF hG5 ⊢
              clear hwe
              have e2 := hG5.c2
              have g2 := hG5.x2.frozen 0
              have hG6 := hG5.set2 false (by omega) (by omega) (by omega) (by omega) (by omega)
              have f6 := HF.out.2.setCell (p := ⟨b2, 0, none⟩) (fun _ => .inl rfl) (.bool false)
              have HF6 := Lib.hid (And.intro hG6 f6)
              clear hG5 hG6 f6 HF
              gi_wp2
              exact ⟨(HKP.out (fun _ => True) _ HF6.out.2).1, rfl, false, _, _, HF6.out.1, fun _ => HNO.out⟩
          · have x4 : ¬ (x.1 : Int) = (i : Int) + 1 := by omega
            refine wpIn_region_quiet_round (by kernel_rfl) (by kernel_rfl) (by kernel_rfl) ?_
            repeat
              refine wpQuietIn_step (fun _ _ _ _ => trivial) (fun K hK => ?_)
              go_simp
              first
                | (refine hK _ ?_; clear hK K)
                | (apply Exists.intro
                   refine ⟨fun _ => ?_, hK _ ?_⟩
                   (fail)
                   clear hK K)
            refine wpQuietIn_nil ?_
            intro _ hw'
            obtain ⟨nq, hw''⟩ := hw'
            subst hw''
            have HNO : Hid (¬ (pre ++ [x]) <+: X) := Lib.hid fun e => hxn (by rw [HNXJ.out.2 x e])
            have HF := Lib.hid (And.intro (hG3.drewN nq) (f3.drewN nq))
            have hG5 := hG3.drewN nq
            clear d0 d4 r1 hrf hG3 f3 hcy
            obtain ⟨we, hwe⟩ : ∃ we, wd.drewN nq = we := ⟨_, rfl⟩
            rw [hwe] at HF hG5 ⊢
            clear hwe
            have e2 := hG5.c2
            have g2 := hG5.x2.frozen 0
            have hG6 := hG5.set2 false (by omega) (by omega) (by omega) (by omega) (by omega)
            have f6 := HF.out.2.setCell (p := ⟨b2, 0, none⟩) (fun _ => .inl rfl) (.bool false)
            have HF6 := Lib.hid (And.intro hG6 f6)
            clear hG5 hG6 f6 HF
            gi_wp2
            exact ⟨(HKP.out (fun _ => True) _ HF6.out.2).1, rfl, false, _, _, HF6.out.1, fun _ => HNO.out⟩
      · have x1 : ¬ (j : Int) ≤ (l : Int) := by omega
        have x2 : (l : Int) < (j : Int) := by omega
        gi_wp2
        refine wpIn_region_quiet_round (by kernel_rfl) (by kernel_rfl) (by kernel_rfl) ?_
        repeat
          refine wpQuietIn_step (fun _ _ _ _ => trivial) (fun K hK => ?_)
          go_simp
          first
            | (refine hK _ ?_; clear hK K)
            | (apply Exists.intro
               refine ⟨fun _ => ?_, hK _ ?_⟩
               (fail)
               clear hK K)
        refine wpQuietIn_nil ?_
        intro _ hw'
        obtain ⟨nq, hw''⟩ := hw'
        subst hw''
        have hG3 := hG2.drewN nq
        have f3 := hGF.out.2.drewN nq
        clear d0 d4 r1 hrf hG2 hGF
        obtain ⟨wd, hwd⟩ : ∃ wd, wr.drewN nq = wd := ⟨_, rfl⟩
        rw [hwd] at hG3 f3 ⊢
        clear hwd
        have hrf := HKW.out wd hG3.lo
        have r1 := hrf.c1
        rw [HBL.out.2] at r1
        have d0 := hG3.c0
        have d4 := hG3.c4
        have HNO : Hid (¬ (pre ++ [x]) <+: X) := Lib.hid ((HNX.out j (by omega) hgap.out).2 (by omega) x)
        gi_wp2
        refine wpIn_region_quiet_round (by kernel_rfl) (by kernel_rfl) (by kernel_rfl) ?_
        repeat
          refine wpQuietIn_step (fun _ _ _ _ => trivial) (fun K hK => ?_)
          go_simp
          first
            | (refine hK _ ?_; clear hK K)
            | (apply Exists.intro
               refine ⟨fun _ => ?_, hK _ ?_⟩
               (fail)
               clear hK K)
        refine wpQuietIn_nil ?_
        intro _ hw'
        obtain ⟨nq, hw''⟩ := hw'
        subst hw''
        have HF := Lib.hid (And.intro (hG3.drewN nq) (f3.drewN nq))
        have hG5 := hG3.drewN nq
        clear d0 d4 r1 hrf hG3 f3 
        obtain ⟨we, hwe⟩ : ∃ we, wd.drewN nq = we := ⟨_, rfl⟩
        rw [hwe] at HF hG5 ⊢
        clear hwe
        have e2 := hG5.c2
        have g2 := hG5.x2.frozen 0
        have hG6 := hG5.set2 false (by omega) (by omega) (by omega) (by omega) (by omega)
        have f6 := HF.out.2.setCell (p := ⟨b2, 0, none⟩) (fun _ => .inl rfl) (.bool false)
        have HF6 := Lib.hid (And.intro hG6 f6)
        clear hG5 hG6 f6 HF
        gi_wp2
        exact ⟨(HKP.out (fun _ => True) _ HF6.out.2).1, rfl, false, _, _, HF6.out.1, fun _ => HNO.out⟩
  case done =>
    rintro D ys W hD rfl ⟨_, hG⟩ hK
    rw [HC.out] at hG
    have d0 := hG.c0
    have d5 := hG.c5
    have d2 := hG.c2
    have g2 := hG.x2.frozen 0
    have hrl := rLen W.drew base q A a B b size th bk (hr.new (below_drewN hG.lo 1))
    have n25 : b2 ≠ b5 := by omega
    have n20 : b2 ≠ b0 := by omega
    gi_wp2
    refine wpIn_wide.2 ?_
    go_region_held3 (fun V => V.cell? ⟨b5, 0, none⟩ = some (.int .i64 (nOut bk : Int)) ∧ V.cell? ⟨b0, 0, none⟩ = some (.pointer (some ⟨q, 0, none⟩))) (go_keep) (first | (go_at_call 23; refine hrl.mono ?_; rintro e w' ⟨rfl, rfl⟩))
    have hB2 : Below w.heap.size w (W.setCell ⟨b2, 0, none⟩ (.bool true)).drew := (hG.lo.setCell (p := ⟨b2, 0, none⟩) (show w.heap.size ≤ b2 by omega) _).drew
    have hK2 : (W.setCell ⟨b2, 0, none⟩ (.bool true)).drew.heap[D]? = some (.deferred (some [])) := (KeepsOthers.setCell W ⟨b2, 0, none⟩ (.bool true)).same D _ hK rfl
    have c2 : (W.setCell ⟨b2, 0, none⟩ (.bool true)).drew.cell? ⟨b2, 0, none⟩ = some (.bool true) := World.cell?_setCell_same' W ⟨b2, 0, none⟩ (.bool true) (by rw [d2]; rfl)
    obtain ⟨V, hV⟩ : ∃ V, (W.setCell ⟨b2, 0, none⟩ (.bool true)).drew = V := ⟨_, rfl⟩
    rw [hV] at hB2 hK2 c2 ⊢
    clear hV hG hK d0 d5 d2 g2 hrl
    gi_wp2
    refine ⟨by simp, .inl ⟨_, _, rfl, run_takeDeferred hK2, ?_⟩⟩
    have hc5 := cell_kept c2 (grownBy_putObj' _ D (.deferred none)) (fun r e => by cases e; exact ⟨_, hK2, rfl⟩)
    refine ⟨.bool true, ?_, rfl, hB2.trans (belowK_b (w := w) (Nat.le_refl _) V D _ _ (by omega) hK2 rfl rfl)⟩
    simp [results, Try.f25, go_sem, hc5]
  case stop =>
    rintro D cc pre W hD hpre ⟨rfl, r, k, t, hG, hp⟩ hK
    have hr : r = true := by
      cases r with
      | true => rfl
      | false => exact absurd hpre (hp rfl)
    subst hr
    gi_wp2
    refine ⟨by simp, .inl ⟨_, _, rfl, run_takeDeferred hK, ?_⟩⟩
    have hc5 := cell_kept hG.c2 (grownBy_putObj' _ D (.deferred none)) (fun r e => by cases e; exact ⟨_, hK, rfl⟩)
    refine ⟨.bool true, ?_, rfl, hG.lo.trans (belowK_b (w := w) (Nat.le_refl _) W D _ _ (by omega) hK rfl rfl)⟩
    simp [results, Try.f25, go_sem, hc5]
end Go.Proofs.Ytmdohddiddlpiaa
