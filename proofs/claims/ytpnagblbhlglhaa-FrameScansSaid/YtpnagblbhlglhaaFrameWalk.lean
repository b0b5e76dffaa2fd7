/- frame.walk: what a going over tells. Conditions: those that each states. -/
import Derived.Test.YtpnagblbhlglhaaFrameScanMath
import Derived.Test.YtpnagblbhlglhaaRangeG
import Derived.Scope
import Derived.WalkMore
namespace Go.Proofs.Ytpnagblbhlglhaa
open Go.RowKit Go.Shelf
attribute [local go_sem] Oper.semAt_some

theorem wpIn_scope_wide {n : Nat} {P : Program} {Q : Exit → Act → World → Prop} {a : Act} {w : World} {c : Code} (h : c.wpIn Fence.wide n P (Exit.noGoto Q) a w) : (Code.scope c).wpIn Fence.wide n P Q a w :=
  wpIn_wide.2 (wp_scope_straight (wpIn_wide.1 h))

/-- What a round must keep: what lies below n₀, and boxes. -/
def KpW (n₀ : Nat) (W W' : World) : Prop := W.heap.size ≤ W'.heap.size ∧ ∀ k cs t q, (k < n₀ ∨ t = 24 ∨ t = 132 ∨ t = 47 ∨ t = 135) → W.heap[k]? = some (.cells cs t q) → W'.heap[k]? = some (.cells cs t q)
theorem KpW.refl (n : Nat) (W : World) : KpW n W W := ⟨Nat.le_refl _, fun _ _ _ _ _ h => h⟩
theorem KpW.t {n : Nat} {X Y Z : World} (h : KpW n X Y) (k : KpW n Y Z) : KpW n X Z := ⟨Nat.le_trans h.1 k.1, fun i cs t q hi hx => k.2 i cs t q hi (h.2 i cs t q hi hx)⟩
theorem KpW.b {n : Nat} (W : World) (l : Nat) (o o' : Obj) (h : W.heap[l]? = some o) (hc : o.isCells = false) : KpW n W (W.putObj l o') := by
  refine ⟨by simp, ?_⟩
  intro k cs t q _ hx
  by_cases e : k = l
  · subst e
    rw [h] at hx
    cases hx
    cases hc
  · exact (World.putObj_heap_other e).trans hx
theorem KpW.below {n : Nat} {W W' : World} (h : Below W.heap.size W W') : KpW n W W' := ⟨h.size, fun k cs t q _ hx => (h.block k (Array.getElem?_eq_some_iff.1 hx).1).trans hx⟩
theorem KpW.less {n m : Nat} {W W' : World} (h : KpW n W W') (hm : m ≤ n) : KpW m W W' := ⟨h.1, fun k cs t q hk hx => h.2 k cs t q (hk.imp (fun e => by omega) id) hx⟩
theorem Blk.kpw {n g : Nat} {W W' : World} {t : TypeId} {cs : Array Value} (h : Blk W g t cs) (k : KpW n W W') (ht : g < n ∨ t = 24 ∨ t = 132 ∨ t = 47 ∨ t = 135) : Blk W' g t cs := k.2 _ _ _ _ ht h
theorem Reads.kpw {n₀ size n : Nat} {W W' : World} {A : Option Addr} {xs : List Value} (h : Reads W n₀ size A n xs) (k : KpW n₀ W W') : Reads W' n₀ size A n xs := by
  refine ⟨h.1, fun hn => ?_⟩
  obtain ⟨ad, e, hb, hc⟩ := h.2 hn
  refine ⟨ad, e, hb, fun i v hv => ?_⟩
  have h1 := hc i v hv
  have hbl : (ad.add i).block = ad.block := block_of_add ad i
  unfold World.cell? at h1 ⊢
  rw [hbl] at h1 ⊢
  cases ho : W.heap[ad.block]? with
  | none => rw [ho] at h1; cases h1
  | some o =>
    cases o with
    | cells cs t q => rw [k.2 _ cs t q (.inl hb) ho]; rw [ho] at h1; exact h1
    | _ => rw [ho] at h1; cases h1

/-- A frame as it is told. -/
structure FrT where
  at_ : Nat
  kind : Nat
  A : Option Addr
  c : Nat
  body : List Nat
def FrT.abs (x : FrT) : Nat × List Nat := (x.kind, x.body)
def FrT.val (x : FrT) : Value := .agg #[.int .i64 (x.kind : Nat), .slice x.A x.body.length x.c]
def encF (x : FrT) : Array Value := #[.int .i64 (x.at_ : Nat), x.val]
/-- What a round learns. -/
def GF (b : List Nat) (pre : List FrT) (x : FrT) (m : Nat) (W : World) : Prop :=
  x.at_ = sizeL (pre.map FrT.abs) ∧ (pre ++ [x]).map FrT.abs <+: scanL b ∧ W.ownsRow m 5 1 (.slice x.A x.body.length x.c) x.body.length (byts x.body)
def finF (b : List Nat) (Y : Nat) (_ W1 W' : World) : Prop := W' = if scanE b = 0 then W1 else W1.setCell ⟨Y, 0, none⟩ (.int .i64 (scanE b : Nat))

/-- What a going over keeps. -/
structure InvW (J : List FrT → World → Prop) (B n₀ Bn Wn Y : Nat) (A : Option Addr) (n c : Nat) (b : List Nat) (k : Nat) (pre : List FrT) (W : World) : Prop where
  at_ : AtF b (pre.map FrT.abs) k
  j : J pre W
  box : Blk W Bn 24 #[.slice A n c]
  wbox : Blk W Wn 132 #[.pointer (some ⟨Y, 0, none⟩)]
  why : Blk W Y 47 #[.int .i64 0]
  rd : Reads W n₀ 1 A n (byts b)
  size : n₀ ≤ W.heap.size
  more : B ≤ W.heap.size

set_option maxHeartbeats 4000000 in
set_option maxRecDepth 100000 in
theorem walkSeq (w : World) (n₀ Bn Wn Y : Nat) (A : Option Addr) (n c : Nat) (b : List Nat) (hB : Blk w Bn 24 #[.slice A n c]) (hW : Blk w Wn 132 #[.pointer (some ⟨Y, 0, none⟩)]) (hY : Blk w Y 47 #[.int .i64 0])
    (h : Reads w n₀ 1 A n (byts b)) (hs : Small b) (hn0 : n₀ ≤ w.heap.size) (hn : n ≤ 140737488355300) (hc : n ≤ c) (d : Nat) :
    SeqG d Try.prog 90 #[.pointer (some ⟨Bn, 0, none⟩), .pointer (some ⟨Wn, 0, none⟩)] encF (KpW n₀) (GF b) (fun xs => xs.map FrT.abs = scanL b) (fun pre => pre.map FrT.abs <+: scanL b) (finF b Y) w := by
  have hlen : b.length = n := by have := h.1; rw [byts_length] at this; omega
  intro L J Jx V hV hJ hJx hYi h0
  have hB' := hB.below hV hB.lt
  have hW' := hW.below hV hW.lt
  have hY' := hY.below hV hY.lt
  have hr := (h.below (hV.mono hn0))
  have hsz : n₀ ≤ V.heap.size := Nat.le_trans hn0 hV.size
  refine callsIn_of_wp Try.func90 rfl trivial ?_ rfl
  simp only [Try.ntmps90, List.size_toArray, List.length_cons, List.length_nil, Nat.reduceAdd, Nat.reduceSub, Array.replicate_succ, Array.replicate_zero, List.push_toArray, List.append_toArray, List.nil_append, List.cons_append]
  have h1 : InvW J V.heap.size n₀ Bn Wn Y A n c b 0 [] V := ⟨AtF.start b, h0, hB', hW', hY', hr, hsz, Nat.le_refl _⟩
  have H := Lib.hid h1
  clear h0 hB' hW' hY' hr hB hW hY h h1
  gi_wp2
  refine wpIn_scope_wide ?_
  gi_wp2
  refine wpIn_label ?_
  gi_wp2
  gi_loopw [4] (fun nv wr => ∃ k pre, nv = .int .i64 (k : Nat) ∧ Hid (InvW J V.heap.size n₀ Bn Wn Y A n c b k pre wr)) (fun nv _ => n - (intOf nv).toNat)
  case atStart => exact ⟨0, [], rfl, H⟩
  case round =>
    clear H
    obtain ⟨k, pre, rfl, HI⟩ := hrel
    have y1 : wr.cell? ⟨Bn, 0, none⟩ = some (.slice A n c) := (HI.out.box.cell 0).trans rfl
    have y2 : wr.cell? ⟨Wn, 0, none⟩ = some (.pointer (some ⟨Y, 0, none⟩)) := (HI.out.wbox.cell 0).trans rfl
    have yf := HI.out.why.frozen
    have hkl := HI.out.at_.le
    by_cases hk : k < n
    · have x1 : (k : Int) < (n : Int) := by omega
      have hrk : Reads wr n₀ 1 (Option.map (fun x => x.add k) A) (n - k) (byts (b.drop k)) := by
        have := HI.out.rd.cut (k := k) (cap := c) (by omega) hc
        rw [if_neg (by omega), Nat.mul_one] at this
        rw [byts_drop]
        exact this
      have hc82 := begin_any wr n₀ (Option.map (fun x => x.add k) A) (n - k) (c - k) (b.drop k) hrk (small_drop hs k) HI.out.size (by omega) (by omega)
      have hkb : k < b.length := by omega
      by_cases hE : beginE (b.drop k) = 0
      · have hst := HI.out.at_.step hkb hE
        have hbl := bodyN_len hE
        have hfit := begin_fits hE
        rw [List.length_drop] at hfit
        obtain ⟨N, hN⟩ : ∃ N, bgN (b.drop k) = N := ⟨_, rfl⟩
        obtain ⟨M, hM⟩ : ∃ M, 9 + N = M := ⟨_, rfl⟩
        obtain ⟨k2, hk2⟩ : ∃ k2, k + M = k2 := ⟨_, rfl⟩
        obtain ⟨b0, hb0⟩ : ∃ b0, (b.drop k).getD 0 0 = b0 := ⟨_, rfl⟩
        obtain ⟨bd, hbd⟩ : ∃ bd, bodyN (b.drop k) = bd := ⟨_, rfl⟩
        rw [hN, hM, hk2, hb0, hbd] at hst
        rw [hbd, hN] at hbl
        rw [hN, hM] at hfit
        have u0 : IntKind.i64.wrap ((k : Int) + (M : Int)) = (k2 : Int) := by rw [IntWalk.i64_in _ (by omega)]; omega
        have c82 : Calls Try.prog 82 #[.slice (Option.map (fun x => x.add k) A) (n - k) (c - k)] wr fun e W2 => ∃ A2 c2, e = .returned (.tuple #[.agg #[.int .i64 (b0 : Nat), .slice A2 N c2], .int .i64 (M : Nat), .int .i64 0]) ∧ W2.ownsRow wr.heap.size 5 1 (.slice A2 N c2) N (byts bd) ∧ Below wr.heap.size wr W2 := by
          refine hc82.mono ?_
          rintro e W2 ⟨hb, ⟨h0, _⟩ | ⟨h0, A2, c2, rfl, ho⟩⟩
          · exact absurd hE h0
          · rw [hN] at *
            rw [hbd] at ho
            rw [hM, hb0]
            exact ⟨A2, c2, rfl, ho, hb⟩
        have hsub : (pre.map FrT.abs ++ [(b0, bd)]) <+: scanL b := hst.pre
        have hy0 : ∀ A2 c2 (W2 : World), W2.ownsRow wr.heap.size 5 1 (.slice A2 N c2) N (byts bd) → Below wr.heap.size wr W2 → YieldAt Fence.wide (d - 1) Try.prog L #[.int .i64 (k : Nat), .agg #[.int .i64 (b0 : Nat), .slice A2 N c2]] (W2.alloc (.cells #[.int .i64 (b0 : Nat), .slice A2 N c2] 94)) fun e W' =>
            (e = Ending.returned (Value.bool true) ∧ InvW J V.heap.size n₀ Bn Wn Y A n c b k2 (pre ++ [⟨k, b0, A2, c2, bd⟩]) W') ∨ (e = Ending.returned (Value.bool false) ∧ (pre ++ [(⟨k, b0, A2, c2, bd⟩ : FrT)]).map FrT.abs <+: scanL b ∧ Jx (pre ++ [⟨k, b0, A2, c2, bd⟩]) W') := by
          intro A2 c2 W2 ho hb
          have hsub' : (pre ++ [(⟨k, b0, A2, c2, bd⟩ : FrT)]).map FrT.abs <+: scanL b := by rw [List.map_append]; exact hsub
          have hb' := hb.alloc hb.size (.cells #[.int .i64 (b0 : Nat), .slice A2 N c2] 94)
          have hyy := hYi pre ⟨k, b0, A2, c2, bd⟩ wr (W2.alloc (.cells #[.int .i64 (b0 : Nat), .slice A2 N c2] 94)) HI.out.j hb' ⟨HI.out.at_.at_, hsub', by dsimp only; rw [hbl]; exact ho.alloc _⟩
          unfold encF FrT.val at hyy
          dsimp only at hyy
          rw [hbl] at hyy
          obtain ⟨fn, tmps, assign, body, hy, hR⟩ := hyy
          refine ⟨fn, tmps, assign, body, hy, hR.mono ?_⟩
          rintro e W' (⟨rfl, hj, hkp, _⟩ | ⟨rfl, hj, _⟩)
          · have hk0 := (KpW.below (n := n₀) hb').t hkp
            exact .inl ⟨rfl, ⟨by rw [List.map_append]; exact hst, hj, HI.out.box.kpw hk0 (.inr (.inl rfl)), HI.out.wbox.kpw hk0 (.inr (.inr (.inl rfl))), HI.out.why.kpw hk0 (.inr (.inr (.inr (.inl rfl)))), HI.out.rd.kpw hk0, Nat.le_trans HI.out.size hk0.1, Nat.le_trans HI.out.more hk0.1⟩⟩
          · exact .inr ⟨rfl, hsub', hj⟩
        have HS := Lib.hid (And.intro hk2 hM)
        have HY := Lib.hid hy0
        clear hc82 hst hE hrk hYi hy0 hfit hbl hsub hk2 hM hN hb0 hbd
        gi_wp2_with (first
          | (refine ⟨trivial, fun h => (by cases h), ?_⟩; gi_at_call 82; refine (callsIn_wide.2 c82).mono ?_; clear c82; rintro e W2 ⟨A2, c2, rfl, ho2, hb2⟩; have kf := Blk.new W2 94 #[.int .i64 (b0 : Nat), .slice A2 N c2]; have z0 := (kf.cell 0).trans rfl; have z1 := (kf.cell 1).trans rfl; have zf := kf.frozen; obtain ⟨fn, tmps, assign, body, hy, hR⟩ := HY.out A2 c2 W2 ho2 hb2))
        refine ⟨fun h => (by cases h), ?_⟩
        refine hR.mono ?_
        clear hy hR z0 z1 zf kf ho2 hb2
        rintro e W' (⟨rfl, hI2⟩ | ⟨rfl, hpre, hjx⟩)
        · gi_wp2
          go_roundw
          case rel => exact ⟨k2, pre ++ [⟨k, b0, A2, c2, bd⟩], rfl, Lib.hid hI2⟩
          case measure =>
            have := HS.out
            have := hI2.at_.le
            simp [intOf]
            omega
        · gi_wp2
          simp only [Exit.noGoto]
          refine bodyPost_ret (results_none rfl _ _ _) rfl ?_
          exact ⟨⟨_, rfl⟩, .inr ⟨_, hpre, hjx⟩⟩
      · have hst := HI.out.at_.stop hkb hE
        obtain ⟨E, hEE⟩ : ∃ E, beginE (b.drop k) = E := ⟨_, rfl⟩
        rw [hEE] at hst
        have qn : ((E : Int) != 0) = true := by rw [bne_iff_ne]; omega
        have c82 : Calls Try.prog 82 #[.slice (Option.map (fun x => x.add k) A) (n - k) (c - k)] wr fun e W2 => e = .returned (.tuple #[.agg #[.int .i64 0, .slice none 0 0], .int .i64 0, .int .i64 (E : Nat)]) ∧ Below wr.heap.size wr W2 := by
          refine hc82.mono ?_
          rintro e W2 ⟨hb, ⟨_, rfl⟩ | ⟨h0, _⟩⟩
          · exact ⟨by rw [hEE], hb⟩
          · exact absurd h0 hE
        have HS := Lib.hid hst
        have HY := Lib.hid hYi
        clear hc82 hst hE hEE hrk hYi
        gi_wp2_with (refine ⟨trivial, fun h => (by cases h), ?_⟩; gi_at_call 82; refine (callsIn_wide.2 c82).mono ?_; clear c82; rintro e W2 ⟨rfl, hb2⟩; have z2 : (W2.alloc (.cells #[.int .i64 0, .slice none 0 0] 94)).cell? ⟨Wn, 0, none⟩ = some (.pointer (some ⟨Y, 0, none⟩)) := (((HI.out.wbox.below hb2 HI.out.wbox.lt).alloc _).cell 0).trans rfl; have zy : (W2.alloc (.cells #[.int .i64 0, .slice none 0 0] 94)).cell? ⟨Y, 0, none⟩ = some (.int .i64 0) := (((HI.out.why.below hb2 HI.out.why.lt).alloc _).cell 0).trans rfl; have zf : ∀ i, (W2.alloc (.cells #[.int .i64 0, .slice none 0 0] 94)).frozen? ⟨Y, i, none⟩ = false := fun i => (((HI.out.why.below hb2 HI.out.why.lt).alloc _).frozen) i)
        simp only [Exit.noGoto]
        go_end0
        refine ⟨⟨_, rfl⟩, .inl ⟨pre, W2.alloc (.cells #[.int .i64 0, .slice none 0 0] 94), HS.out.1, ownFrom_below hJ HI.out.j (hb2.alloc hb2.size _), ?_⟩⟩
        unfold finF
        rw [HS.out.2, if_neg (by intro h; subst h; simp at qn)]
    · have x1 : ¬ (k : Int) < (n : Int) := by omega
      gi_wp2
      go_end0
      have hov := HI.out.at_.over (b := b) (by omega)
      exact ⟨⟨_, rfl⟩, .inl ⟨pre, wr, hov.1, HI.out.j, by unfold finF; rw [if_pos hov.2]⟩⟩
end Go.Proofs.Ytpnagblbhlglhaa
