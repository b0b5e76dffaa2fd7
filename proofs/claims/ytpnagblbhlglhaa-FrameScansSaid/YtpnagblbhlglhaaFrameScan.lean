/- frame.Scan: the frames of bytes, laid. Conditions: those that each states. -/
import Derived.Test.YtpnagblbhlglhaaFrameWalk2
namespace Go.Proofs.Ytpnagblbhlglhaa
open Go.RowKit Go.Shelf
attribute [local go_sem] Oper.semAt_some

theorem KpW.fr {n : Nat} {S : Nat → Prop} {W W' : World} (h : Fr S W W') (hs : ∀ k, S k → n ≤ k ∧ ∃ cs t, Blk W k t cs ∧ ¬ (t = 24 ∨ t = 132 ∨ t = 47 ∨ t = 135)) : KpW n W W' :=
  ⟨h.size, fun k cs t q hk ho => (h.block k (Array.getElem?_eq_some_iff.1 ho).1 (fun e => by
    obtain ⟨h0, cs', t', h1, h2⟩ := hs k e
    unfold Blk at h1
    rw [h1] at ho
    cases ho
    rcases hk with hk | hk
    · omega
    · exact h2 hk)).trans ho⟩
theorem fr_set (W : World) (p : Addr) (u : Value) : Fr (fun k => k = p.block) W (W.setCell p u) := (Fr.refl (fun k => k = p.block) W).setCell (fun _ => rfl) u
theorem KpW.set_ {n : Nat} {W : World} {p : Addr} {t : TypeId} {cs : Array Value} (h : Blk W p.block t cs) (hn : n ≤ p.block) (ht : ¬ (t = 24 ∨ t = 132 ∨ t = 47 ∨ t = 135)) (u : Value) : KpW n W (W.setCell p u) :=
  KpW.fr (fr_set W p u) fun k e => by subst e; exact ⟨hn, cs, t, h, ht⟩
theorem keepsFrom_set {B : Nat} {W : World} {p : Addr} {t : TypeId} {cs : Array Value} (h : Blk W p.block t cs) (u : Value) : KeepsFrom B W (W.setCell p u) :=
  keepsFrom_fr (fr_set W p u) fun k e => by subst e; exact .inr ⟨cs, t, h⟩
theorem keepsFrom_new {B : Nat} {W W' : World} (h : Below W.heap.size W W') : KeepsFrom B W W' := KeepsFrom.of_grownBy (grown_below h) (fun j e => by cases e)

/-- The cells of frames. -/
def flatF (xs : List FrT) : List Value := xs.flatMap fun x => [.int .i64 (x.kind : Nat), .slice x.A x.body.length x.c]
theorem flatF_append (xs ys : List FrT) : flatF (xs ++ ys) = flatF xs ++ flatF ys := by simp [flatF]
theorem flatF_one (x : FrT) : flatF [x] = [.int .i64 (x.kind : Nat), .slice x.A x.body.length x.c] := rfl
/-- Bodies that lie apart. -/
structure BodsF (s : Nat) (xs : List FrT) (W : World) : Prop where
  own : ∀ x ∈ xs, W.ownsRow s 5 1 (.slice x.A x.body.length x.c) x.body.length (byts x.body)
  apart : xs.Pairwise fun x y => ∀ k, blkOf x.A = some k → blkOf y.A ≠ some k
theorem BodsF.turn {s : Nat} {xs : List FrT} {W W' : World} {row : Option Nat} (h : BodsF s xs W) (hg : W.grownBy W' row) (hr : ∀ r, row = some r → ∃ o : Obj, W.heap[r]? = some o ∧ o.isCells = false) : BodsF s xs W' :=
  ⟨fun x hx => own_turn (h.own x hx) hg hr, h.apart⟩
theorem BodsF.grown {s : Nat} {xs : List FrT} {W W' : World} {row : Option Nat} (h : BodsF s xs W) (hg : W.grownBy W' row) (hr : ∀ g, row = some g → ∃ cs t q, W.heap[g]? = some (.cells cs t q) ∧ t ≠ 5) : BodsF s xs W' := by
  refine ⟨fun x hx => ?_, h.apart⟩
  have h1 := h.own x hx
  refine ⟨h1.1, ?_⟩
  rcases h1.2 with h2 | ⟨g, cap, cur, hv, hb, hh, r⟩
  · exact .inl h2
  · refine .inr ⟨g, cap, cur, hv, hb, ?_, r⟩
    refine (hg.block g (Array.getElem?_eq_some_iff.1 hh).1 fun e => ?_).trans hh
    obtain ⟨cs, t, q, h3, h4⟩ := hr g e.symm
    rw [h3] at hh
    cases hh
    exact h4 rfl
theorem BodsF.add {s : Nat} {xs : List FrT} {W : World} {x : FrT} {m : Nat} (h : BodsF s xs W) (hx : W.ownsRow m 5 1 (.slice x.A x.body.length x.c) x.body.length (byts x.body)) (hs : s ≤ m)
    (hlt : ∀ y ∈ xs, ∀ k, blkOf y.A = some k → k < m) : BodsF s (xs ++ [x]) W := by
  refine ⟨fun y hy => ?_, List.pairwise_append.2 ⟨h.apart, List.pairwise_singleton _ _, fun a ha c hc k hk e => ?_⟩⟩
  · rcases List.mem_append.1 hy with hy | hy
    · exact h.own y hy
    · obtain rfl := List.mem_singleton.1 hy
      exact own_mono hx hs
  · obtain rfl := List.mem_singleton.1 hc
    have h1 := hlt a ha k hk
    have h2 := own_base hx k (by rw [ownBlock_slice]; exact e)
    omega
theorem BodsF.lt {s : Nat} {xs : List FrT} {W : World} (h : BodsF s xs W) : ∀ y ∈ xs, ∀ k, blkOf y.A = some k → k < W.heap.size :=
  fun y hy k hk => ((h.own y hy).lt k (by rw [ownBlock_slice]; exact hk)).2

/-- What Scan has laid so far. -/
structure ScanI (w : World) (e : Nat) (pre : List FrT) (W : World) : Prop where
  row : ∃ v, Blk W w.heap.size 84 #[v] ∧ W.ownsRow w.heap.size 94 2 v pre.length (flatF pre)
  good : Blk W (w.heap.size + 1) 3 #[.int .i64 (sizeL (pre.map FrT.abs) : Nat)]
  why : Blk W (w.heap.size + 2) 47 #[.int .i64 (e : Nat)]
  bods : BodsF w.heap.size pre W
  below : Below w.heap.size w W
theorem ScanI.turn {w : World} {e : Nat} {pre : List FrT} {W W' : World} {row : Option Nat} (h : ScanI w e pre W) (hg : W.grownBy W' row) (hr : ∀ r, row = some r → w.heap.size ≤ r ∧ ∃ o : Obj, W.heap[r]? = some o ∧ o.isCells = false) : ScanI w e pre W' := by
  have hr' := fun r e => (hr r e).2
  obtain ⟨v, h1, h2⟩ := h.row
  exact ⟨⟨v, h1.turn hg hr', own_turn h2 hg hr'⟩, h.good.turn hg hr', h.why.turn hg hr', h.bods.turn hg hr', h.below.grown hg h.below.size (fun r e => (hr r e).1)⟩
/-- What a round of Scan's begins with. -/
structure ScanR (w : World) (b : List Nat) (A : Option Addr) (n c : Nat) (pre : List FrT) (x : FrT) (a' : Act) (W : World) : Prop where
  i : ScanI w 0 pre W
  bods : BodsF w.heap.size (pre ++ [x]) W
  at_ : x.at_ = sizeL (pre.map FrT.abs)
  told : (pre ++ [x]).map FrT.abs <+: scanL b
  act : ∃ g, Blk W g 94 #[.int .i64 (x.kind : Nat), .slice x.A x.body.length x.c] ∧ (∃ v, Blk W w.heap.size 84 #[v] ∧ W.ownsRow w.heap.size 94 2 v pre.length (flatF pre) ∧ v.ownBlock ≠ some g) ∧ a' = { tmps := #[.slice A n c, undef, .slice none 0 0, .int .i64 0, .int .i64 0, .pointer (some ⟨w.heap.size, 0, none⟩), .pointer (some ⟨w.heap.size + 1, 0, none⟩), .pointer (some ⟨w.heap.size + 2, 0, none⟩), .int .i64 (x.at_ : Nat), .pointer (some ⟨g, 0, none⟩), .slice A n c,
      .func (.func 90) #[] #[.pointer (some ⟨w.heap.size + 3, 0, none⟩), .pointer (some ⟨w.heap.size + 4, 0, none⟩)], .int .i64 (x.at_ : Nat), x.val, undef, undef, undef, undef, undef, undef, undef, undef, undef, undef, undef, undef], defers := [] }

theorem prefix_size {l m : List (Nat × List Nat)} (h : l <+: m) : sizeL l ≤ sizeL m := by
  obtain ⟨t, rfl⟩ := h
  rw [sizeL_append]; omega
theorem sizeL_many (l : List (Nat × List Nat)) : 9 * l.length ≤ sizeL l := by
  induction l with
  | nil => exact Nat.le_refl _
  | cons x l ih => obtain ⟨k, b⟩ := x; rw [sizeL_cons, List.length_cons]; omega
theorem scan_size (b : List Nat) : sizeL (scanL b) ≤ b.length := by
  have key : ∀ (n : Nat) (b : List Nat), b.length = n → sizeL (scanL b) ≤ b.length := by
    intro n
    induction n using Nat.strongRecOn with
    | _ n ih =>
      intro b hb
      by_cases h : b = []
      · subst h; rw [scanL_nil]; exact Nat.le_refl _
      · by_cases hE : beginE b = 0
        · have hf := begin_fits hE
          have := ih (b.drop (9 + bgN b)).length (by rw [List.length_drop]; omega) _ rfl
          rw [scanL_step h hE, sizeL_cons, bodyN_len hE]
          rw [List.length_drop] at this
          omega
        · rw [scanL_end h hE]; exact Nat.zero_le _
  exact key _ b rfl

/-- What Scan answers. -/
def ScanPost (w : World) (b : List Nat) (e : Ending) (w' : World) : Prop :=
  ∃ (xs : List FrT) (v : Value), xs.map FrT.abs = scanL b ∧ e = .returned (.tuple #[v, .int .i64 (sizeL (scanL b) : Nat), .int .i64 (scanE b : Nat)]) ∧ w'.ownsRow w.heap.size 94 2 v xs.length (flatF xs) ∧ BodsF w.heap.size xs w' ∧ Below w.heap.size w w'
theorem scanE_le (b : List Nat) : scanE b ≤ 141 := by
  have key : ∀ (n : Nat) (b : List Nat), b.length = n → scanE b ≤ 141 := by
    intro n
    induction n using Nat.strongRecOn with
    | _ n ih =>
      intro b hb
      by_cases h : b = []
      · subst h; rw [scanE_nil]; omega
      · by_cases hE : beginE b = 0
        · rw [scanE_step h hE]
          have := List.length_pos_iff.2 h
          exact ih _ (by rw [List.length_drop]; omega) _ rfl
        · rw [scanE_end h hE]; exact beginE_le b
  exact key _ b rfl

theorem Try.info94w : (Try.prog.info? 94).map (fun i => (i.zero, i.size, i.bytes)) = some (some (.agg #[.int .i64 0, .slice none 0 0]), 2, 32) := by kernel_rfl
set_option maxHeartbeats 4000000 in
set_option maxRecDepth 100000 in
theorem scan_any (w : World) (B : Nat) (A : Option Addr) (n c : Nat) (b : List Nat) (h : Reads w B 1 A n (byts b)) (hs : Small b) (hB : B ≤ w.heap.size) (hn : n ≤ 1000000000000) (hc : n ≤ c) :
    Calls Try.prog 53 #[.slice A n c] w (ScanPost w b) := by
  refine (callsIn_wide (n := 9)).1 ?_
  obtain ⟨Wa, hWa⟩ : ∃ W, ((w.alloc (.cells #[.slice none 0 0] 84)).alloc (.cells #[.int .i64 0] 3)).alloc (.cells #[.int .i64 0] 47) = W := ⟨_, rfl⟩
  have ea : Wa.heap.size = w.heap.size + 3 := by rw [← hWa]; simp
  have ba : Below w.heap.size w Wa := by rw [← hWa]; exact (((Below.refl _ w).alloc (Nat.le_refl _) _).alloc (by simp) _).alloc (by simp; omega) _
  have a0 : Blk Wa w.heap.size 84 #[.slice none 0 0] := by rw [← hWa]; exact ((Blk.new w 84 _).alloc _).alloc _
  have a1 : Blk Wa (w.heap.size + 1) 3 #[.int .i64 0] := by
    have := (Blk.new (w.alloc (.cells #[.slice none 0 0] 84)) 3 #[.int .i64 0]).alloc (.cells #[.int .i64 0] 47)
    rw [World.size_alloc, hWa] at this
    exact this
  have a2 : Blk Wa (w.heap.size + 2) 47 #[.int .i64 0] := by
    have := Blk.new ((w.alloc (.cells #[.slice none 0 0] 84)).alloc (.cells #[.int .i64 0] 3)) 47 #[.int .i64 0]
    rw [World.size_alloc, World.size_alloc, hWa] at this
    exact this
  obtain ⟨Wb, hWb⟩ : ∃ W, Wa.setCell ⟨w.heap.size + 1, 0, none⟩ (.int .i64 0) = W := ⟨_, rfl⟩
  have eb : Wb.heap.size = w.heap.size + 3 := by rw [← hWb]; simp [World.setCell, ea]
  have bb : Below w.heap.size w Wb := by rw [← hWb]; exact ba.setCell (p := ⟨w.heap.size + 1, 0, none⟩) (by simp) _
  have g0 : Blk Wb w.heap.size 84 #[.slice none 0 0] := by rw [← hWb]; exact a0.far (by simp) _
  have g1 : Blk Wb (w.heap.size + 1) 3 #[.int .i64 0] := by rw [← hWb]; exact a1.set_ 0 _
  have g2 : Blk Wb (w.heap.size + 2) 47 #[.int .i64 0] := by rw [← hWb]; exact a2.far (by simp) _
  obtain ⟨W1, hW1⟩ : ∃ W, Wb.setCell ⟨w.heap.size + 2, 0, none⟩ (.int .i64 0) = W := ⟨_, rfl⟩
  have e1 : W1.heap.size = w.heap.size + 3 := by rw [← hW1]; simp [World.setCell, eb]
  have b1 : Below w.heap.size w W1 := by rw [← hW1]; exact bb.setCell (p := ⟨w.heap.size + 2, 0, none⟩) (by simp) _
  have k0 : Blk W1 w.heap.size 84 #[.slice none 0 0] := by rw [← hW1]; exact g0.far (by simp) _
  have k1 : Blk W1 (w.heap.size + 1) 3 #[.int .i64 0] := by rw [← hW1]; exact g1.far (by simp) _
  have k2 : Blk W1 (w.heap.size + 2) 47 #[.int .i64 0] := by rw [← hW1]; exact g2.set_ 0 _
  have x1 := (a1.cell 0).trans rfl
  have x2 := (g2.cell 0).trans rfl
  have xf1 := a1.frozen 0
  have xf2 := g2.frozen 0
  have c79 := walk_any W1 A n c (some ⟨w.heap.size + 2, 0, none⟩)
  rw [e1] at c79
  obtain ⟨W2, hW2⟩ : ∃ W2, (W1.alloc (.cells #[.slice A n c] 24)).alloc (.cells #[.pointer (some ⟨w.heap.size + 2, 0, none⟩)] 132) = W2 := ⟨_, rfl⟩
  rw [hW2] at c79
  have e2 : W2.heap.size = w.heap.size + 5 := by rw [← hW2]; simp [e1]
  have b2 : Below w.heap.size w W2 := by rw [← hW2]; exact (b1.alloc (by omega) _).alloc (by simp; omega) _
  have k3 : Blk W2 (w.heap.size + 3) 24 #[.slice A n c] := by
    have := (Blk.new W1 24 #[.slice A n c]).alloc (.cells #[.pointer (some ⟨w.heap.size + 2, 0, none⟩)] 132)
    rw [e1, hW2] at this
    exact this
  have k4 : Blk W2 (w.heap.size + 4) 132 #[.pointer (some ⟨w.heap.size + 2, 0, none⟩)] := by
    have := Blk.new (W1.alloc (.cells #[.slice A n c] 24)) 132 #[.pointer (some ⟨w.heap.size + 2, 0, none⟩)]
    rw [World.size_alloc, e1, hW2] at this
    exact this
  have up : ∀ {g t cs}, Blk W1 g t cs → Blk W2 g t cs := fun h => by rw [← hW2]; exact (h.alloc _).alloc _
  have hI0 : ScanI w 0 [] W2 := ⟨⟨_, up k0, ⟨rfl, .inl ⟨rfl, rfl⟩⟩⟩, up k1, up k2, ⟨fun x hx => (by cases hx), List.Pairwise.nil⟩, b2⟩
  have hsq := walkSeq W2 w.heap.size (w.heap.size + 3) (w.heap.size + 4) (w.heap.size + 2) A n c b k3 k4 hI0.why ((h.more hB).below b2) hs (by omega) (by omega) hc 8
  have hlen : b.length = n := by have := h.1; rw [byts_length] at this; omega
  have HH := Lib.hid hI0
  have HQ := Lib.hid hsq
  have HL := Lib.hid hlen
  clear hI0 hsq up k0 k1 k2 k3 k4 b1 b2 h hlen hW2 a0 a1 a2 g0 g1 g2 ba bb
  refine callsIn_of_wp_marks Try.func53 rfl trivial ?_ rfl
  simp only [Try.ntmps53, List.size_toArray, List.length_cons, List.length_nil, Nat.reduceAdd, Nat.reduceSub, Array.replicate_succ, Array.replicate_zero, List.push_toArray, List.append_toArray, List.nil_append, List.cons_append]
  gi_wp2_with (refine ⟨trivial, ?_⟩; gi_at_call 79; refine (callsIn_wide.2 c79).mono ?_; clear c79; rintro e w' ⟨rfl, rfl⟩)
  clear xf1 xf2 x1 x2 hW1 hWa hWb ea eb e1
  refine range_seqG (gf := 90) (lb := #[.pointer (some ⟨w.heap.size + 3, 0, none⟩), .pointer (some ⟨w.heap.size + 4, 0, none⟩)]) rfl (enters_of Try.func90 (by kernel_rfl) rfl) HQ.out (fun h k => KpW.t h k) (fun W l o o' h hc => KpW.b W l o o' h hc) (Below.refl _ _) (fun _ => rfl)
    (ScanI w 0) (ScanI w (scanE b)) (fun _ _ _ => False)
    (fun pre W W' row hs hg hr => hs.turn hg (fun r e => ⟨by have := (hr r e).1; omega, (hr r e).2⟩))
    (fun pre W W' row hs hg hr => hs.turn hg (fun r e => ⟨by have := (hr r e).1; omega, (hr r e).2⟩))
    (fun _ _ _ _ _ hs _ _ => hs)
    HH.out
    (ScanR w b A n c)
    ?R ?assign ?body ?fin ?done ?stop
  case R =>
    intro pre x a' _ W W' row hs hg hr
    have hr' := fun r e => (hr r e).2
    obtain ⟨g, hg1, ⟨v, hv1, hv2, hv3⟩, hg2⟩ := hs.act
    exact ⟨hs.i.turn hg (fun r e => ⟨by have := (hr r e).1; omega, (hr r e).2⟩), hs.bods.turn hg hr', hs.at_, hs.told, g, hg1.turn hg hr', ⟨v, hv1.turn hg hr', own_turn hv2 hg hr', hv3⟩, hg2⟩
  case assign =>
    intro L pre x W0 W K hI hb hG hK
    have hI2 := hI.turn (grown_below hb) (fun r e => by cases e)
    have hbd := (hI.bods.turn (grown_below hb) (fun r e => by cases e)).add hG.2.2 hI.below.size hI.bods.lt
    have hal : Below W.heap.size W (W.alloc (.cells #[.int .i64 (x.kind : Nat), .slice x.A x.body.length x.c] 94)) := (Below.refl _ W).alloc (Nat.le_refl _) _
    have hrow : ∃ v, Blk (W.alloc (.cells #[.int .i64 (x.kind : Nat), .slice x.A x.body.length x.c] 94)) w.heap.size 84 #[v] ∧ (W.alloc (.cells #[.int .i64 (x.kind : Nat), .slice x.A x.body.length x.c] 94)).ownsRow w.heap.size 94 2 v pre.length (flatF pre) ∧ v.ownBlock ≠ some W.heap.size := by
      obtain ⟨v, h1, h2⟩ := hI2.row
      exact ⟨v, h1.alloc _, h2.alloc _, fun e => by have := (h2.lt _ e).2; omega⟩
    have HK := Lib.hid (fun a' hact => hK a' (W.alloc (.cells #[.int .i64 (x.kind : Nat), .slice x.A x.body.length x.c] 94)) (KeepsFrom.of_grownBy (grown_below hal) (fun j e => by cases e)) (KpW.below hal) ⟨hI2.turn (grown_below hal) (fun r e => by cases e), hbd.turn (grown_below hal) (fun r e => by cases e), hG.1, hG.2.1, W.heap.size, Blk.new W 94 _, hrow, hact⟩)
    clear hK hI hI2 hrow hbd hG hb hal HH HQ HL
    simp only [encF, FrT.val]
    gi_wp2
    exact HK.out _ rfl
  case body =>
    rintro L pre x a' W hR
    obtain ⟨g, hg, ⟨v, h84, hrow, hgv⟩, rfl⟩ := hR.act
    obtain ⟨A1, c1, rfl⟩ := own_shape hrow
    have hpl : 9 * pre.length + 9 ≤ n := by
      have h1 := prefix_size hR.told
      have h2 := sizeL_many ((pre ++ [x]).map FrT.abs)
      have h3 := scan_size b
      have h4 := HL.out
      rw [List.length_map, List.length_append, List.length_singleton] at h2
      omega
    have v0 := (h84.cell 0).trans rfl
    have vf := h84.frozen
    have z0 := (hg.cell 0).trans rfl
    have z1 := (hg.cell 1).trans rfl
    have ho1 := hrow.alloc (.cells #[.int .i64 (x.kind : Nat), .slice x.A x.body.length x.c] 94)
    have hr1 : Reads (W.alloc (.cells #[.int .i64 (x.kind : Nat), .slice x.A x.body.length x.c] 94)) (W.heap.size + 1) 2 (some ⟨W.heap.size, 0, none⟩) 1 [.int .i64 (x.kind : Nat), .slice x.A x.body.length x.c] := by
      refine ⟨rfl, fun _ => ⟨_, rfl, Nat.lt_succ_self _, fun j u hu => ?_⟩⟩
      rw [addr_add]
      refine ((Blk.new W 94 _).cell j).trans ?_
      rw [← hu]
      simp
    obtain ⟨i0, hi, hz0, hz1, hz2⟩ := info_parts Try.info94w
    clear HH HQ
    gi_wp2_with (gi_at_builtin; go_loud (refine wpListIn_append_any _ rfl _ _ 84 rfl w.heap.size 94 i0 (.agg #[.int .i64 0, .slice none 0 0]) 2 32 Try.underlying84 hi hz0 hz1 hz2 rfl (by decide) _ _ _ rfl ho1 _ _ 1 _ _ rfl hr1 ?c1 ?c2 ?c3 ?c4 ?_))
    case c1 => intro u hu; simp at hu; rcases hu with rfl | rfl <;> rfl
    case c2 => unfold maxLen; omega
    case c3 => omega
    case c4 => simp; exact Nat.le_succ_of_le hR.i.below.size
    intro v2 w2 ho2 hg2 _
    obtain ⟨A2, c2, rfl⟩ := own_shape ho2
    have hsz := hR.i.below.size
    have hal : Below W.heap.size W (W.alloc (.cells #[.int .i64 (x.kind : Nat), .slice x.A x.body.length x.c] 94)) := (Below.refl _ W).alloc (Nat.le_refl _) _
    have b2 : Blk w2 w.heap.size 84 #[.slice A1 pre.length c1] := (h84.alloc _).grown hg2 (fun e => own_blk_ne ho1 (h84.alloc _) (by decide) e.symm)
    have g2 : Blk w2 g 94 #[.int .i64 (x.kind : Nat), .slice x.A x.body.length x.c] := (hg.alloc _).grown hg2 (fun e => hgv e.symm)
    have d2 : Blk w2 (w.heap.size + 1) 3 #[.int .i64 (sizeL (pre.map FrT.abs) : Nat)] := (hR.i.good.alloc _).grown hg2 (fun e => own_blk_ne ho1 (hR.i.good.alloc _) (by decide) e.symm)
    have y2 : Blk w2 (w.heap.size + 2) 47 #[.int .i64 (0 : Nat)] := (hR.i.why.alloc _).grown hg2 (fun e => own_blk_ne ho1 (hR.i.why.alloc _) (by decide) e.symm)
    have s2 : BodsF w.heap.size (pre ++ [x]) w2 := by
      refine (hR.bods.turn (grown_below hal) (fun r e => by cases e)).grown hg2 (fun k hk => ?_)
      obtain ⟨cs, hcs⟩ := own_is_blk ho1 hk
      exact ⟨cs, 94, (0, 0), hcs, by decide⟩
    have l2 : Below w.heap.size w w2 := (hR.i.below.alloc hsz _).grown hg2 (by simp; exact Nat.le_succ_of_le hsz) (fun k hk => own_base ho1 k hk)
    have k2 : KeepsFrom w'.heap.size W w2 ∧ KpW w.heap.size W w2 :=
      ⟨(keepsFrom_new hal).trans (keepsFrom_fr (S := fun k => (Value.slice A1 pre.length c1).ownBlock = some k) (Fr.of_grown hg2 (fun k e => e)) (fun k e => .inr (by obtain ⟨cs, hcs⟩ := own_is_blk ho1 e; exact ⟨cs, 94, hcs⟩))),
        (KpW.below hal).t (KpW.fr (S := fun k => (Value.slice A1 pre.length c1).ownBlock = some k) (Fr.of_grown hg2 (fun k e => e)) (fun k e => by obtain ⟨cs, hcs⟩ := own_is_blk ho1 e; exact ⟨own_base ho1 k e, cs, 94, hcs, by decide⟩))⟩
    have nb2 := own_blk_ne ho2 b2 (by decide)
    obtain ⟨w3, hw3⟩ : ∃ w3, w2.setCell ⟨w.heap.size, 0, none⟩ (.slice A2 (pre.length + 1) c2) = w3 := ⟨_, rfl⟩
    have v2 := (b2.cell 0).trans rfl
    have vf2 := b2.frozen 0
    have g3 : Blk w3 g 94 #[.int .i64 (x.kind : Nat), .slice x.A x.body.length x.c] := by rw [← hw3]; exact g2.far (fun e => by have := Blk.ne_ g2 b2 (by decide); exact this e) _
    have d3 : Blk w3 (w.heap.size + 1) 3 #[.int .i64 (sizeL (pre.map FrT.abs) : Nat)] := by rw [← hw3]; exact d2.far (by simp) _
    have y3 : Blk w3 (w.heap.size + 2) 47 #[.int .i64 (0 : Nat)] := by rw [← hw3]; exact y2.far (by simp) _
    have b3 : Blk w3 w.heap.size 84 #[.slice A2 (pre.length + 1) c2] := by rw [← hw3]; exact b2.set_ 0 _
    have o3 : w3.ownsRow w.heap.size 94 2 (.slice A2 (pre.length + 1) c2) (pre.length + 1) (flatF (pre ++ [x])) := by rw [← hw3, flatF_append, flatF_one]; exact own_setCell ho2 nb2 _
    have s3 : BodsF w.heap.size (pre ++ [x]) w3 := by
      rw [← hw3]
      exact ⟨fun y hy => own_setCell (s2.own y hy) (own_blk_ne (s2.own y hy) b2 (by decide)) _, s2.apart⟩
    have l3 : Below w.heap.size w w3 := by rw [← hw3]; exact l2.setCell (p := ⟨w.heap.size, 0, none⟩) (Nat.le_refl _) _
    have k3 : KeepsFrom w'.heap.size W w3 ∧ KpW w.heap.size W w3 := by
      rw [← hw3]
      exact ⟨k2.1.trans (keepsFrom_set (p := ⟨w.heap.size, 0, none⟩) b2 _), k2.2.t (KpW.set_ (p := ⟨w.heap.size, 0, none⟩) b2 (Nat.le_refl _) (by decide) _)⟩
    have gg := (g3.cell 1).trans rfl
    have dd := (d3.cell 0).trans rfl
    have ddf := d3.frozen 0
    obtain ⟨q2, hq2⟩ : ∃ q2, x.at_ + (9 + x.body.length) = q2 := ⟨_, rfl⟩
    have hq3 : sizeL ((pre ++ [x]).map FrT.abs) = q2 := by rw [List.map_append, sizeL_append, ← hR.at_, ← hq2]; show _ + sizeL [(x.kind, x.body)] = _; rw [sizeL_one]
    have hqn : q2 ≤ n := by
      have h1 := prefix_size hR.told
      have h3 := scan_size b
      have h4 := HL.out
      omega
    have u0 : IntKind.i64.wrap ((x.at_ : Int) + (9 + (x.body.length : Int))) = (q2 : Int) := by rw [IntWalk.i64_in _ (by omega)]; omega
    have hsz61 := size_any w3 x.A x.body.length x.c (by omega)
    obtain ⟨w4, hw4⟩ : ∃ w4, w3.setCell ⟨w.heap.size + 1, 0, none⟩ (.int .i64 (q2 : Nat)) = w4 := ⟨_, rfl⟩
    have hfin : ScanI w 0 (pre ++ [x]) w4 := by
      rw [← hw4]
      refine ⟨⟨_, b3.far (by simp) _, ?_⟩, by rw [hq3]; exact d3.set_ 0 _, y3.far (by simp) _, ⟨fun y hy => own_setCell (s3.own y hy) (own_blk_ne (s3.own y hy) d3 (by decide)) _, s3.apart⟩, l3.setCell (p := ⟨w.heap.size + 1, 0, none⟩) (by simp) _⟩
      rw [List.length_append]
      exact own_setCell o3 (own_blk_ne o3 d3 (by decide)) _
    have k4 : KeepsFrom w'.heap.size W w4 ∧ KpW w.heap.size W w4 := by
      rw [← hw4]
      exact ⟨k3.1.trans (keepsFrom_set (p := ⟨w.heap.size + 1, 0, none⟩) d3 _), k3.2.t (KpW.set_ (p := ⟨w.heap.size + 1, 0, none⟩) d3 (by simp) (by decide) _)⟩
    have HF := Lib.hid (And.intro hfin k4)
    clear hfin k4 k3 l3 s3 o3 b3 y3 d3 g3 b2 g2 d2 y2 s2 l2 k2 nb2 hq3 hqn hq2 hal hsz ho2 hg2 ho1 hr1 hi hz0 hz1 hz2 hR HL h84 hrow hgv hg v0 vf z0 z1 hpl
    gi_wp2_with (refine ⟨trivial, ?_⟩; gi_at_call 61; refine (callsIn_wide.2 hsz61).mono ?_; clear hsz61; rintro e W5 ⟨rfl, rfl⟩)
    exact ⟨HF.out.2.1, HF.out.2.2, HF.out.1⟩
  case fin =>
    intro xs W V1 V2 hsz hS hI hF
    unfold finF at hF
    by_cases hE : scanE b = 0
    · rw [if_pos hE] at hF
      subst hF
      rw [hE]
      exact ⟨hI, KeepsFrom.refl _ _⟩
    · rw [if_neg hE] at hF
      subst hF
      obtain ⟨v, h1, h2⟩ := hI.row
      exact ⟨⟨⟨v, h1.far (by simp) _, own_setCell h2 (own_blk_ne h2 hI.why (by decide)) _⟩, hI.good.far (by simp) _, hI.why.set_ 0 _, ⟨fun y hy => own_setCell (hI.bods.own y hy) (own_blk_ne (hI.bods.own y hy) hI.why (by decide)) _, hI.bods.apart⟩, hI.below.setCell (p := ⟨w.heap.size + 2, 0, none⟩) (by simp) _⟩,
        keepsFrom_set (p := ⟨w.heap.size + 2, 0, none⟩) hI.why _⟩
  case done =>
    intro D xs W hD hS hI hK
    obtain ⟨v, h1, h2⟩ := hI.row
    have x1 := (h1.cell 0).trans rfl
    have x2 := (hI.good.cell 0).trans rfl
    have x3 := (hI.why.cell 0).trans rfl
    have hP : ∀ q, ScanPost w b (.returned (.tuple #[v, .int .i64 (sizeL (xs.map FrT.abs) : Nat), .int .i64 (scanE b : Nat)])) ((W.drewN q).putObj D (.deferred none)) := by
      intro q
      have hI' := hI.turn (grown_drewN W q) (fun r e => by cases e)
      have hK' : (W.drewN q).heap[D]? = some (.deferred (some [])) := hK
      have ht := hI'.turn (W' := (W.drewN q).putObj D (.deferred none)) (grownBy_putObj' (W.drewN q) D _) (fun r e => by cases e; exact ⟨by omega, _, hK', rfl⟩)
      have h3 := own_turn (own_turn h2 (grown_drewN W q) (fun r e => by cases e)) (grownBy_putObj' (W.drewN q) D (.deferred none)) (fun r e => by cases e; exact ⟨_, hK', rfl⟩)
      exact ⟨xs, v, hS, by rw [hS], h3, ht.bods, ht.below⟩
    have HP := Lib.hid hP
    clear hP hI h1 h2 HH HQ HL
    gi_wp2
    refine wpIn_wide.2 ?_
    go_quiet (fail)
    gi_wp2
    have hK' : (W.drewN nq).heap[D]? = some (.deferred (some [])) := hK
    have hp := HP.out nq
    rw [hS] at hp
    refine ⟨by simp, .inl ⟨_, _, rfl, run_takeDeferred hK', ?_⟩⟩
    refine ⟨.tuple #[v, .int .i64 (sizeL (scanL b) : Nat), .int .i64 (scanE b : Nat)], ?_, hp⟩
    clear hp HP x1 x2 x3
    simp [results, Try.f53, go_sem]
  case stop =>
    rintro D cc pre W _ _ h _
    exact h.elim
end Go.Proofs.Ytpnagblbhlglhaa
