/- wicketlaw04.over: a going over tells these frames, left behind some or not. Conditions: those that it states. -/
import Derived.Test.YtpnagblbhlglhaaFrameAll2
import Derived.Test.YtpnagblbhlglhaaFrameKnown
import Derived.Test.YtpnagblbhlglhaaRoundBelow
import Derived.Sort.LoopGhostIn
namespace Go.Proofs.Ytpnagblbhlglhaa
open Go.RowKit Go.Shelf
attribute [local go_sem] Oper.semAt_some

theorem flatS_at (xs : List FrT) (i : Nat) (h : i < xs.length) : (flatF xs)[i * 2]? = some (.int .i64 (xs[i].kind : Nat)) ∧ (flatF xs)[i * 2 + 1]? = some (.slice xs[i].A xs[i].body.length xs[i].c) := by
  induction xs generalizing i with
  | nil => cases h
  | cons x xs ih =>
    have hc : flatF (x :: xs) = .int .i64 (x.kind : Nat) :: .slice x.A x.body.length x.c :: flatF xs := rfl
    cases i with
    | zero => rw [hc]; exact ⟨rfl, rfl⟩
    | succ i =>
      have := ih i (by simpa using h)
      rw [hc, Nat.succ_mul]
      exact this
/-- Frames that a Scan told. -/
structure GotS (s : Nat) (v : Value) (n : Nat) (xs : List FrT) (W : World) : Prop where
  len : xs.length = n
  row : W.ownsRow s 94 2 v n (flatF xs)
  bods : BodsF s xs W
theorem GotS.new {s n : Nat} {v : Value} {xs : List FrT} {W W' : World} (h : GotS s v n xs W) (hb : Below W.heap.size W W') : GotS s v n xs W' :=
  ⟨h.len, own_fr h.row (Fr.of_new (S := noB) hb) (fun _ _ e => e), h.bods.turn (grown_below hb) (fun r e => by cases e)⟩
/-- What over holds. -/
structure OvI (w : World) (vW : Value) (leave : Int) (k a : Nat) (W : World) : Prop where
  want : Blk W w.heap.size 84 #[vW]
  leave_ : Blk W (w.heap.size + 1) 3 #[.int .i64 leave]
  res : Blk W (w.heap.size + 2) 4 #[.bool false]
  i : Blk W (w.heap.size + 3) 3 #[.int .i64 (k : Nat)]
  at_ : Blk W (w.heap.size + 4) 3 #[.int .i64 (a : Nat)]
  below : Below w.heap.size w W
theorem OvI.turn {w : World} {vW : Value} {leave : Int} {k a : Nat} {W W' : World} {row : Option Nat} (h : OvI w vW leave k a W) (hg : W.grownBy W' row) (hr : ∀ r, row = some r → w.heap.size ≤ r ∧ ∃ o : Obj, W.heap[r]? = some o ∧ o.isCells = false) : OvI w vW leave k a W' := by
  have hr' := fun r e => (hr r e).2
  exact ⟨h.want.turn hg hr', h.leave_.turn hg hr', h.res.turn hg hr', h.i.turn hg hr', h.at_.turn hg hr', h.below.grown hg h.below.size (fun r e => (hr r e).1)⟩
theorem OvI.new {w : World} {vW : Value} {leave : Int} {k a : Nat} {W W' : World} (h : OvI w vW leave k a W) (hb : Below W.heap.size W W') : OvI w vW leave k a W' := h.turn (grown_below hb) (fun r e => by cases e)
/-- What a round begins with. -/
structure OvR (w : World) (vW all : Value) (leave : Int) (b : List Nat) (pre : List FrT) (x : FrT) (a' : Act) (W : World) : Prop where
  inv : OvI w vW leave pre.length (sizeL (pre.map FrT.abs)) W
  at_ : x.at_ = sizeL (pre.map FrT.abs)
  told : (pre ++ [x]).map FrT.abs <+: scanL b
  own : W.ownsRow w.heap.size 5 1 (.slice x.A x.body.length x.c) x.body.length (byts x.body)
  act : ∃ g, Blk W g 94 #[.int .i64 (x.kind : Nat), .slice x.A x.body.length x.c] ∧ w.heap.size ≤ g ∧ a' = { tmps := #[all, vW, .int .i64 leave, undef, .pointer (some ⟨w.heap.size, 0, none⟩), .pointer (some ⟨w.heap.size + 1, 0, none⟩), .pointer (some ⟨w.heap.size + 2, 0, none⟩), .pointer (some ⟨w.heap.size + 3, 0, none⟩), .pointer (some ⟨w.heap.size + 4, 0, none⟩),
      .int .i64 (x.at_ : Nat), .pointer (some ⟨g, 0, none⟩), undef, all, .int .i64 (x.at_ : Nat), x.val, undef, undef, undef, undef, undef, undef, undef, undef, undef, undef, undef, undef, undef, undef, undef, undef, undef, undef, undef, undef, undef, undef, undef, undef, undef, undef, undef, undef, undef, undef, undef, undef, undef, undef, undef, undef, undef, undef, undef, undef, undef, undef, undef, undef], defers := [] }

/-- The frame that is told is that which is wanted. -/
theorem over_round (w W : World) (Aw : Option Addr) (m cw s : Nat) (ws : List FrT) (b : List Nat) (hs : Small b) (hw : GotS s (.slice Aw m cw) m ws w) (hws : ws.map FrT.abs = scanL b) (hW : Below w.heap.size w W) (pre : List FrT) (x : FrT)
    (htold : (pre ++ [x]).map FrT.abs <+: scanL b) (hown : W.ownsRow w.heap.size 5 1 (.slice x.A x.body.length x.c) x.body.length (byts x.body)) :
    ∃ (g : Nat) (Ax : Option Addr) (cx : Nat), pre.length < m ∧ Aw = some ⟨g, 0, none⟩ ∧ Small x.body ∧ (∀ V, Below W.heap.size W V → V.cell? ⟨g, pre.length * 2, none⟩ = some (.int .i64 (x.kind : Nat)) ∧ V.cell? ⟨g, pre.length * 2 + 1, none⟩ = some (.slice Ax x.body.length cx) ∧
      Calls Try.prog 57 #[.agg #[.int .i64 (x.kind : Nat), .slice x.A x.body.length x.c], .agg #[.int .i64 (x.kind : Nat), .slice Ax x.body.length cx]] V fun e w4 => e = .returned (.bool true) ∧ Below V.heap.size V w4) := by
  have hlt : pre.length < ws.length := by
    have := htold.length_le
    rw [← hws, List.length_map, List.length_map, List.length_append, List.length_singleton] at this
    omega
  have hj : pre.length < m := by rw [← hw.len]; exact hlt
  obtain ⟨g, rfl, _, hg, hcell⟩ := row2_open hw.row (by omega)
  have hf := flatS_at ws pre.length hlt
  have hx : ws[pre.length].abs = x.abs := by
    obtain ⟨t, ht⟩ := htold
    have h1 : (ws.map FrT.abs)[pre.length]? = some x.abs := by
      rw [hws, ← ht, List.map_append, List.append_assoc, List.getElem?_append_right (by simp)]
      simp
    rw [List.getElem?_map, List.getElem?_eq_getElem hlt] at h1
    simpa using h1
  have hk : ws[pre.length].kind = x.kind := congrArg Prod.fst hx
  have hbd : ws[pre.length].body = x.body := congrArg Prod.snd hx
  have hsm : Small x.body := scan_small b hs x.abs (by
    obtain ⟨t, ht⟩ := htold
    rw [← ht]
    simp)
  refine ⟨g, ws[pre.length].A, ws[pre.length].c, hj, rfl, hsm, fun V hV => ?_⟩
  have hwV : Below w.heap.size w V := hW.trans (hV.mono hW.size)
  have e0 := hcell _ _ hf.1
  have e1 := hcell _ _ hf.2
  rw [hk] at e0
  rw [hbd] at e1
  have hob := hw.bods.own _ (List.getElem_mem hlt)
  rw [hbd] at hob
  exact ⟨(hwV.cell (p := ⟨g, pre.length * 2, none⟩) hg).trans e0, (hwV.cell (p := ⟨g, pre.length * 2 + 1, none⟩) hg).trans e1,
    same_any V (x.kind : Nat) x.A ws[pre.length].A x.body.length x.c ws[pre.length].c x.body (((Reads.of_own hown).below hV).more hV.size) (((Reads.of_own hob).below hwV).more hwV.size) hsm⟩
set_option maxHeartbeats 8000000 in
set_option maxRecDepth 100000 in
theorem over_any (w : World) (Bn : Nat) (A : Option Addr) (n c : Nat) (b : List Nat) (Aw : Option Addr) (m cw s : Nat) (ws : List FrT) (leave : Int) (hB : Blk w Bn 24 #[.slice A n c]) (h : Reads w w.heap.size 1 A n (byts b)) (hs : Small b) (hn : n ≤ 100000) (hc : n ≤ c)
    (hw : GotS s (.slice Aw m cw) m ws w) (hws : ws.map FrT.abs = scanL b) :
    Calls Try.prog 59 #[.func (.func 81) #[] #[.pointer (some ⟨Bn, 0, none⟩)], .slice Aw m cw, .int .i64 leave] w fun e w' => e = .returned (.bool true) ∧ Below w.heap.size w w' := by
  refine (callsIn_wide (n := 9)).1 ?_
  have hlen : b.length = n := by have := h.1; rw [byts_length] at this; omega
  obtain ⟨all, hall⟩ : ∃ v, Value.func (.func 81) #[] #[.pointer (some ⟨Bn, 0, none⟩)] = v := ⟨_, rfl⟩
  have sa := fun (W : World) (o : Obj) => World.size_alloc W o
  obtain ⟨Wa, hWa⟩ : ∃ W, ((((w.alloc (.cells #[.slice Aw m cw] 84)).alloc (.cells #[.int .i64 leave] 3)).alloc (.cells #[.bool false] 4)).alloc (.cells #[.int .i64 0] 3)).alloc (.cells #[.int .i64 0] 3) = W := ⟨_, rfl⟩
  have ea : Wa.heap.size = w.heap.size + 5 := by rw [← hWa]; simp
  have ba : Below w.heap.size w Wa := by
    rw [← hWa]
    exact ((((((Below.refl _ w).alloc (Nat.le_refl _) _).alloc (by simp) _).alloc (by simp; omega) _).alloc (by simp; omega) _).alloc (by simp; omega) _)
  have a0 : Blk Wa w.heap.size 84 #[.slice Aw m cw] := by rw [← hWa]; exact ((((Blk.new w 84 _).alloc _).alloc _).alloc _).alloc _
  have a1 : Blk Wa (w.heap.size + 1) 3 #[.int .i64 leave] := by
    have := (((Blk.new (w.alloc (.cells #[.slice Aw m cw] 84)) 3 #[.int .i64 leave]).alloc (.cells #[.bool false] 4)).alloc (.cells #[.int .i64 0] 3)).alloc (.cells #[.int .i64 0] 3)
    rw [World.size_alloc, hWa] at this
    exact this
  have a2 : Blk Wa (w.heap.size + 2) 4 #[.bool false] := by
    have := ((Blk.new ((w.alloc (.cells #[.slice Aw m cw] 84)).alloc (.cells #[.int .i64 leave] 3)) 4 #[.bool false]).alloc (.cells #[.int .i64 0] 3)).alloc (.cells #[.int .i64 0] 3)
    rw [World.size_alloc, World.size_alloc, hWa] at this
    exact this
  have a3 : Blk Wa (w.heap.size + 3) 3 #[.int .i64 0] := by
    have := (Blk.new (((w.alloc (.cells #[.slice Aw m cw] 84)).alloc (.cells #[.int .i64 leave] 3)).alloc (.cells #[.bool false] 4)) 3 #[.int .i64 0]).alloc (.cells #[.int .i64 0] 3)
    rw [World.size_alloc, World.size_alloc, World.size_alloc, hWa] at this
    exact this
  have a4 : Blk Wa (w.heap.size + 4) 3 #[.int .i64 0] := by
    have := Blk.new ((((w.alloc (.cells #[.slice Aw m cw] 84)).alloc (.cells #[.int .i64 leave] 3)).alloc (.cells #[.bool false] 4)).alloc (.cells #[.int .i64 0] 3)) 3 #[.int .i64 0]
    rw [World.size_alloc, World.size_alloc, World.size_alloc, World.size_alloc, hWa] at this
    exact this
  obtain ⟨Wb, hWb⟩ : ∃ W, Wa.setCell ⟨w.heap.size + 3, 0, none⟩ (.int .i64 0) = W := ⟨_, rfl⟩
  have b0 : Blk Wb w.heap.size 84 #[.slice Aw m cw] := by rw [← hWb]; exact a0.far (by simp) _
  have b1 : Blk Wb (w.heap.size + 1) 3 #[.int .i64 leave] := by rw [← hWb]; exact a1.far (by simp) _
  have b2 : Blk Wb (w.heap.size + 2) 4 #[.bool false] := by rw [← hWb]; exact a2.far (by simp) _
  have b3 : Blk Wb (w.heap.size + 3) 3 #[.int .i64 0] := by rw [← hWb]; exact a3.set_ 0 _
  have b4 : Blk Wb (w.heap.size + 4) 3 #[.int .i64 0] := by rw [← hWb]; exact a4.far (by simp) _
  have eb : Wb.heap.size = w.heap.size + 5 := by rw [← hWb]; simp [World.setCell, ea]
  have bb : Below w.heap.size w Wb := by rw [← hWb]; exact ba.setCell (p := ⟨w.heap.size + 3, 0, none⟩) (by simp) _
  obtain ⟨Wc, hWc⟩ : ∃ W, Wb.setCell ⟨w.heap.size + 4, 0, none⟩ (.int .i64 0) = W := ⟨_, rfl⟩
  have hI0 : OvI w (.slice Aw m cw) leave 0 0 Wc := by
    rw [← hWc]
    exact ⟨b0.far (by simp) _, b1.far (by simp) _, b2.far (by simp) _, b3.far (by simp) _, b4.set_ 0 _, bb.setCell (p := ⟨w.heap.size + 4, 0, none⟩) (by simp) _⟩
  have ec : Wc.heap.size = w.heap.size + 5 := by rw [← hWc]; simp [World.setCell, eb]
  have x3 := (a3.cell 0).trans rfl
  have x4 := (b4.cell 0).trans rfl
  have xf3 := a3.frozen 0
  have xf4 := b4.frozen 0
  have hsq := allSeq Wc w.heap.size Bn A n c b (hB.below hI0.below hB.lt) (h.below hI0.below) hs hI0.below.size (by omega) hc 8
  have HH := Lib.hid hI0
  have HQ := Lib.hid hsq
  have HG := Lib.hid (And.intro hw (And.intro hws (And.intro hs hlen)))
  clear hI0 hsq a0 a1 a2 a3 a4 b0 b1 b2 b3 b4 ba bb h hB hw hws hlen sa
  rw [hall]
  refine callsIn_of_wp_marks Try.func59 rfl trivial ?_ rfl
  simp only [Try.ntmps59, List.size_toArray, List.length_cons, List.length_nil, Nat.reduceAdd, Nat.reduceSub, Array.replicate_succ, Array.replicate_zero, List.push_toArray, List.append_toArray, List.nil_append, List.cons_append]
  gi_wp2
  --RANGE
  clear x3 x4 xf3 xf4 hWa hWb hWc ea eb
  refine range_seqG2 (gf := 81) (lb := #[.pointer (some ⟨Bn, 0, none⟩)]) (by show all = _; exact hall.symm) (enters_of Try.func81 (by kernel_rfl) rfl) HQ.out (fun h k => KpW.t h k) (fun W l o o' h hc => KpW.b W l o o' h hc) (Below.refl _ _) (fun _ => rfl)
    (fun pre W => OvI w (.slice Aw m cw) leave pre.length (sizeL (pre.map FrT.abs)) W) (fun pre W => OvI w (.slice Aw m cw) leave pre.length (sizeL (pre.map FrT.abs)) W) (fun c pre W => c = .ret ∧ Blk W (w.heap.size + 2) 4 #[.bool true] ∧ Below w.heap.size w W)
    (fun pre W W' row hs hg hr => hs.turn hg (fun r e => ⟨by have := (hr r e).1; omega, (hr r e).2⟩))
    (fun pre W W' row hs hg hr => hs.turn hg (fun r e => ⟨by have := (hr r e).1; omega, (hr r e).2⟩))
    (fun c pre W W' row hs hg hr => ⟨hs.1, hs.2.1.turn hg (fun r e => (hr r e).2), hs.2.2.grown hg hs.2.2.size (fun r e => by have := (hr r e).1; omega)⟩)
    HH.out
    (OvR w (.slice Aw m cw) all leave b)
    ?R ?assign ?body ?fin ?done ?stop
  case R =>
    intro pre x a' _ W W' row hs hg hr
    have hr' := fun r e => (hr r e).2
    obtain ⟨g, h1, h2, h3⟩ := hs.act
    exact ⟨hs.inv.turn hg (fun r e => ⟨by have := (hr r e).1; omega, (hr r e).2⟩), hs.at_, hs.told, own_turn hs.own hg hr', g, h1.turn hg hr', h2, h3⟩
  case assign =>
    intro L2 pre x W0 W K hI hb hG hK
    have hal : Below W.heap.size W (W.alloc (.cells #[.int .i64 (x.kind : Nat), .slice x.A x.body.length x.c] 94)) := (Below.refl _ W).alloc (Nat.le_refl _) _
    have HK := Lib.hid (fun a' hact => hK a' (W.alloc (.cells #[.int .i64 (x.kind : Nat), .slice x.A x.body.length x.c] 94)) (keepsFrom_new hal) (KpW.below hal) ⟨(hI.new hb).new hal, hG.1, hG.2.1, (own_mono hG.2.2 hI.below.size).alloc _, W.heap.size, Blk.new W 94 _, Nat.le_trans hI.below.size hb.size, hact⟩)
    clear hK hI hG hb hal HH HQ HG
    simp only [encF, FrT.val]
    gi_wp2
    exact HK.out _ rfl
  case body =>
    rintro L2 pre x a' W hR
    obtain ⟨g0, hg, hgs, rfl⟩ := hR.act
    obtain ⟨g, Ax, cx, hkm, rfl, hsx, hV⟩ := over_round w W Aw m cw s ws b HG.out.2.2.1 HG.out.1 HG.out.2.1 hR.inv.below pre x hR.told hR.own
    obtain ⟨k, hk⟩ : ∃ k, pre.length = k := ⟨_, rfl⟩
    obtain ⟨a0, ha0⟩ : ∃ a, sizeL (pre.map FrT.abs) = a := ⟨_, rfl⟩
    have hinv := hR.inv
    have hat := hR.at_
    rw [hk, ha0] at hinv
    rw [hk] at hkm hV
    rw [ha0] at hat
    obtain ⟨ln, hln⟩ : ∃ l, x.body.length = l := ⟨_, rfl⟩
    have hown := hR.own
    rw [hln] at hV hg hown
    have hsz : sizeL ((pre ++ [x]).map FrT.abs) = a0 + 9 + ln := by
      rw [List.map_append, sizeL_append, ha0]
      show a0 + sizeL [(x.kind, x.body)] = _
      rw [sizeL_one, hln]; omega
    have hbig : a0 + 9 + ln ≤ n := by
      rw [← hsz]
      have h1 := prefix_size hR.told
      have h2 := scan_size b
      have h3 := HG.out.2.2.2
      omega
    have hk9 : 9 * k ≤ n := by
      have h1 := sizeL_many (pre.map FrT.abs)
      rw [ha0, List.length_map, hk] at h1
      omega
    have y0 := fun d os => cell_regrown ((hinv.want.cell 0).trans rfl : W.cell? ⟨w.heap.size, 0, none⟩ = some (.slice (some ⟨g, 0, none⟩) m cw)) d os
    have y3 := fun d os => cell_regrown ((hinv.i.cell 0).trans rfl : W.cell? ⟨w.heap.size + 3, 0, none⟩ = some (.int .i64 (k : Nat))) d os
    have y4 := fun d os => cell_regrown ((hinv.at_.cell 0).trans rfl : W.cell? ⟨w.heap.size + 4, 0, none⟩ = some (.int .i64 (a0 : Nat))) d os
    have z0 := fun d os => cell_regrown ((hg.cell 0).trans rfl : W.cell? ⟨g0, 0, none⟩ = some (.int .i64 (x.kind : Nat))) d os
    have z1 := fun d os => cell_regrown ((hg.cell 1).trans rfl : W.cell? ⟨g0, 1, none⟩ = some (.slice x.A ln x.c)) d os
    have r0 := fun d os => (hV _ (below_regrown W d os)).1
    have r1 := fun d os => (hV _ (below_regrown W d os)).2.1
    have c57 := fun d os => Calls.regrown_of (hV _ (below_regrown W d os)).2.2
    have q1 : ¬ (m : Int) ≤ (k : Int) := by omega
    have q1n : ¬ m ≤ k := by omega
    have q1d : decide (m ≤ k) = false := by simp; omega
    have q2 : (k : Int) < (m : Int) := by omega
    have q3 : (0 : Int) ≤ (k : Int) := by omega
    have HS := Lib.hid (And.intro hinv (And.intro hg (And.intro hown (And.intro hsz (And.intro hsx (And.intro hgs (And.intro hk hln)))))))
    rw [hat]
    clear hinv hg hown hsz hsx hgs hR hV hk ha0 hat HH HQ HG hln
    have L2' := L2
    gi_wp2
    refine wpIn_region_below_round (by kernel_rfl) (by kernel_rfl) (by kernel_rfl) ?_
    repeat
      refine wpQuietIn_step (fun _ _ _ _ => trivial) (fun K hK => ?_)
      go_simp
      first
        | (refine hK _ ?_; clear hK K)
        | (apply Exists.intro
           refine ⟨fun _ => ?_, hK _ ?_⟩
           (gi_at_call 57; refine CallsIn.inRound L2 (callsIn_wide.2 (c57 _ _)))
           clear hK K)
    refine wpQuietIn_nil ?_
    intro _ hw'
    obtain ⟨⟨dq, osq⟩, hw''⟩ := hw'
    subst hw''
    have b5 := below_regrown W dq osq
    obtain ⟨V5, hV5⟩ : ∃ V, Sort.grow (redrawn W dq) osq = V := ⟨_, rfl⟩
    rw [hV5] at b5 ⊢
    clear hV5 y0 y3 y4 z0 z1 r0 r1 c57
    obtain ⟨hinv, hg, hown, hsz, hsx, hgs, hk, hln⟩ := HS.out
    have hinv5 := hinv.new b5
    have hg5 := hg.below b5 hg.lt
    have own5 := own_fr hown (Fr.of_new (S := noB) b5) (fun _ _ e => e)
    have kk5 : KeepsFrom Wc.heap.size W V5 ∧ KpW w.heap.size W V5 := ⟨keepsFrom_new b5, KpW.below b5⟩
    obtain ⟨a2, ha2⟩ : ∃ a2, a0 + 9 + ln = a2 := ⟨_, rfl⟩
    rw [ha2] at hbig hsz
    have u1 : IntKind.i64.wrap ((a0 : Int) + 9) = (a0 : Int) + 9 := IntWalk.i64_in _ (by omega)
    have u2 : IntKind.i64.wrap ((a0 : Int) + 9 + (ln : Int)) = (a2 : Int) := by rw [IntWalk.i64_in _ (by omega)]; omega
    have y4 := (hinv5.at_.cell 0).trans rfl
    have y4f := hinv5.at_.frozen 0
    have z1 := (hg5.cell 1).trans rfl
    obtain ⟨V6, hV6⟩ : ∃ V, V5.setCell ⟨w.heap.size + 4, 0, none⟩ (.int .i64 (a2 : Nat)) = V := ⟨_, rfl⟩
    have hinv6 : OvI w (.slice (some ⟨g, 0, none⟩) m cw) leave k a2 V6 := by
      rw [← hV6]
      exact ⟨hinv5.want.far (by simp) _, hinv5.leave_.far (by simp) _, hinv5.res.far (by simp) _, hinv5.i.far (by simp) _, hinv5.at_.set_ 0 _, hinv5.below.setCell (p := ⟨w.heap.size + 4, 0, none⟩) (by simp) _⟩
    have hg6 : Blk V6 g0 94 #[.int .i64 (x.kind : Nat), .slice x.A ln x.c] := by rw [← hV6]; exact hg5.far (fun e => Blk.ne_ hg5 hinv5.at_ (by decide) e) _
    have own6 : V6.ownsRow w.heap.size 5 1 (.slice x.A ln x.c) ln (byts x.body) := by rw [← hV6]; exact own_setCell own5 (own_blk_ne own5 hinv5.at_ (by decide)) _
    have kk6 : KeepsFrom Wc.heap.size W V6 ∧ KpW w.heap.size W V6 := by
      rw [← hV6]
      exact ⟨kk5.1.trans (keepsFrom_set (p := ⟨w.heap.size + 4, 0, none⟩) hinv5.at_ _), kk5.2.t (KpW.set_ (p := ⟨w.heap.size + 4, 0, none⟩) hinv5.at_ (by simp) (by decide) _)⟩
    have H6 := Lib.hid (show OvI w (.slice (some ⟨g, 0, none⟩) m cw) leave k a2 V6 ∧ Blk V6 g0 94 #[.int .i64 (x.kind : Nat), .slice x.A ln x.c] ∧ V6.ownsRow w.heap.size 5 1 (.slice x.A ln x.c) ln (byts x.body) ∧ x.body.length = ln ∧ KeepsFrom Wc.heap.size W V6 ∧ KpW w.heap.size W V6 from ⟨hinv6, hg6, own6, hln, kk6⟩)
    have HS2 := Lib.hid (And.intro hsz hk)
    clear hinv hg hown hsx hgs hinv5 hg5 own5 kk5 hinv6 hg6 own6 kk6 b5 HS hsz hk
    gi_wp2
    gi_loopw [11] (fun iv wr => ∃ (j : Nat) (bs : List Nat), j ≤ ln ∧ iv = .int .i64 j ∧ Hid (OvI w (.slice (some ⟨g, 0, none⟩) m cw) leave k a2 wr ∧ Blk wr g0 94 #[.int .i64 (x.kind : Nat), .slice x.A ln x.c] ∧ wr.ownsRow w.heap.size 5 1 (.slice x.A ln x.c) ln (byts bs) ∧ bs.length = ln ∧ KeepsFrom Wc.heap.size W wr ∧ KpW w.heap.size W wr)) (fun iv _ => ln - (intOf iv).toNat)
    case atStart => exact ⟨0, x.body, by omega, rfl, H6⟩
    case round =>
    clear H6 y4 y4f z1 u1 u2 hV6
    obtain ⟨j, bs, hj, rfl, HJ⟩ := hrel
    obtain ⟨hi, hg, ho, hbl, hkk⟩ := HJ.out
    have z1 := (hg.cell 1).trans rfl
    by_cases hlt : j < ln
    · have q4 : (j : Int) < (ln : Int) := by omega
      have q5 : (0 : Int) ≤ (j : Int) := by omega
      obtain ⟨gx, hgx, hg1, hg2, hcell, hfr, hset⟩ := own_open ho (by omega)
      have hjx : j < bs.length := by omega
      have x0 := hcell j (.int .u8 (bs[j] : Nat)) (by simp [byts, hjx])
      have xf := hfr j
      have hob : ∀ {t cs p}, Blk wr p t cs → t ≠ 5 → p ≠ gx := fun hb ht e => by
        refine own_blk_ne ho hb (fun e2 => ht e2.symm) ?_
        rw [ownBlock_slice, hgx, e]
        rfl
      have ho2 := hset j (.int .u8 85) hlt
      rw [show (byts bs).set j (.int .u8 85) = byts (bs.set j 85) by simp [byts, List.map_set]] at ho2
      have hkb : ∃ cs, Blk wr gx 5 cs := by
        obtain ⟨cs, hcs⟩ := own_is_blk ho (k := gx) (by rw [ownBlock_slice, hgx]; rfl)
        exact ⟨cs, hcs⟩
      obtain ⟨cs, hcs⟩ := hkb
      have HN := Lib.hid (show OvI w (.slice (some ⟨g, 0, none⟩) m cw) leave k a2 (wr.setCell ⟨gx, j, none⟩ (.int .u8 85)) ∧ Blk (wr.setCell ⟨gx, j, none⟩ (.int .u8 85)) g0 94 #[.int .i64 (x.kind : Nat), .slice x.A ln x.c] ∧ (wr.setCell ⟨gx, j, none⟩ (.int .u8 85)).ownsRow w.heap.size 5 1 (.slice x.A ln x.c) ln (byts (bs.set j 85)) ∧ (bs.set j 85).length = ln ∧ KeepsFrom Wc.heap.size W (wr.setCell ⟨gx, j, none⟩ (.int .u8 85)) ∧ KpW w.heap.size W (wr.setCell ⟨gx, j, none⟩ (.int .u8 85)) from
        ⟨⟨hi.want.far (hob hi.want (by decide)) _, hi.leave_.far (hob hi.leave_ (by decide)) _, hi.res.far (hob hi.res (by decide)) _, hi.i.far (hob hi.i (by decide)) _, hi.at_.far (hob hi.at_ (by decide)) _, hi.below.setCell (p := ⟨gx, j, none⟩) hg1 _⟩, hg.far (hob hg (by decide)) _, ho2, by rw [List.length_set]; exact hbl, hkk.1.trans (keepsFrom_set (p := ⟨gx, j, none⟩) hcs _), hkk.2.t (KpW.set_ (p := ⟨gx, j, none⟩) hcs hg1 (by decide) _)⟩)
      rw [hgx] at z1
      clear hi hg ho hbl hkk hcell hfr hset hob ho2 hcs HJ
      gi_wp2
      go_roundw
      case rel => exact ⟨j + 1, bs.set j 85, by omega, by go_num, HN⟩
      case measure => simp [intOf]; omega
    have q4 : ¬ (j : Int) < (ln : Int) := by omega
    obtain rfl : j = ln := by omega
    have y3 := (hi.i.cell 0).trans rfl
    have y3f := hi.i.frozen 0
    obtain ⟨kz, hkz⟩ : ∃ z : Int, (k : Int) + 1 = z := ⟨_, rfl⟩
    have u3 : IntKind.i64.wrap ((k : Int) + 1) = kz := by rw [IntWalk.i64_in _ (by omega)]; exact hkz
    obtain ⟨V8, hV8⟩ : ∃ V, wr.setCell ⟨w.heap.size + 3, 0, none⟩ (.int .i64 kz) = V := ⟨_, rfl⟩
    have hi8 : OvI w (.slice (some ⟨g, 0, none⟩) m cw) leave (k + 1) a2 V8 := by
      rw [← hV8]
      exact ⟨hi.want.far (by simp) _, hi.leave_.far (by simp) _, hi.res.far (by simp) _, by have := hi.i.set_ 0 (.int .i64 kz); rw [show ((k + 1 : Nat) : Int) = kz by omega]; simpa using this, hi.at_.far (by simp) _, hi.below.setCell (p := ⟨w.heap.size + 3, 0, none⟩) (by simp) _⟩
    have kk8 : KeepsFrom Wc.heap.size W V8 ∧ KpW w.heap.size W V8 := by
      rw [← hV8]
      exact ⟨hkk.1.trans (keepsFrom_set (p := ⟨w.heap.size + 3, 0, none⟩) hi.i _), hkk.2.t (KpW.set_ (p := ⟨w.heap.size + 3, 0, none⟩) hi.i (by simp) (by decide) _)⟩
    have t3 : V8.cell? ⟨w.heap.size + 3, 0, none⟩ = some (.int .i64 kz) := by rw [← hV8]; exact ((hi.i.set_ 0 _).cell 0).trans rfl
    have t1 := (hi8.leave_.cell 0).trans rfl
    have t2 := (hi8.res.cell 0).trans rfl
    have t2f := hi8.res.frozen 0
    have H8 := Lib.hid (And.intro hi8 kk8)
    clear hi hg ho hbl hkk HJ hi8 kk8
    clear hkz
    by_cases hlv : kz = leave
    · subst hlv
      gi_wp2
      have hkf := H8.out.2.1
      rw [ec] at hkf
      exact ⟨hkf.trans (keepsFrom_set (p := ⟨w.heap.size + 2, 0, none⟩) H8.out.1.res _), rfl, H8.out.1.res.set_ 0 _, H8.out.1.below.setCell (p := ⟨w.heap.size + 2, 0, none⟩) (by simp) _⟩
    · have v1 : (kz == leave) = false := by rw [beq_eq_false_iff_ne]; exact hlv
      gi_wp2
      have hkf := H8.out.2.1
      rw [ec] at hkf
      refine ⟨hkf, H8.out.2.2, ?_⟩
      show OvI w (.slice (some ⟨g, 0, none⟩) m cw) leave (pre ++ [x]).length (sizeL ((pre ++ [x]).map FrT.abs)) V8
      rw [HS2.out.1, List.length_append, List.length_singleton, HS2.out.2]
      exact H8.out.1
  case fin =>
    intro xs W V1 V2 hsz hS hI hF
    have keep : ∀ {g t cs}, Blk V1 g t cs → g < W.heap.size → Blk V2 g t cs := fun h hlt => h.fr hF (fun e => by have := e.1; omega)
    refine ⟨⟨keep hI.want (by omega), keep hI.leave_ (by omega), keep hI.res (by omega), keep hI.i (by omega), keep hI.at_ (by omega), hI.below.trans (hF.below (B := w.heap.size) (fun k e => by have := e.1; omega) hI.below.size)⟩, fun k o h1 h2 h3 _ => (hF.block k (Array.getElem?_eq_some_iff.1 h3).1 (fun e => by have := e.1; omega)).trans h3⟩
  case done =>
    intro D xs W hD hS hI hK
    have hxm : xs.length = m := by rw [← HG.out.1.len, ← List.length_map (f := FrT.abs), hS, ← HG.out.2.1, List.length_map]
    rw [hxm] at hI
    have x1 := (hI.want.cell 0).trans rfl
    have x2 := (hI.i.cell 0).trans rfl
    have x3 := (hI.res.cell 0).trans rfl
    have xf := hI.res.frozen 0
    clear HH HQ
    gi_wp2
    obtain ⟨V, hV⟩ : ∃ V, W.setCell ⟨w.heap.size + 2, 0, none⟩ (.bool true) = V := ⟨_, rfl⟩
    have hKV : V.heap[D]? = some (.deferred (some [])) := by rw [← hV]; exact (keepsFrom_set (B := 0) (p := ⟨w.heap.size + 2, 0, none⟩) hI.res _).same D _ (Nat.zero_le _) hK rfl
    have hres : Blk V (w.heap.size + 2) 4 #[.bool true] := by rw [← hV]; exact hI.res.set_ 0 _
    have hbel : Below w.heap.size w V := by rw [← hV]; exact hI.below.setCell (p := ⟨w.heap.size + 2, 0, none⟩) (by simp) _
    have hV' : W.setCell ⟨w.heap.size + 1 + 1, 0, none⟩ (.bool true) = V := hV
    rw [hV']
    have hgr := grownBy_putObj' V D (.deferred none)
    have hr' : ∀ r, some D = some r → ∃ o : Obj, V.heap[r]? = some o ∧ o.isCells = false := fun r e => by cases e; exact ⟨_, hKV, rfl⟩
    have hres2 := hres.turn hgr hr'
    have hbel2 := hbel.grown hgr hbel.size (fun r e => by cases e; omega)
    have v0 := (hres2.cell 0).trans rfl
    refine ⟨by simp, .inl ⟨_, _, rfl, run_takeDeferred hKV, ?_⟩⟩
    refine ⟨.bool true, ?_, rfl, hbel2⟩
    clear hI hS x1 x2 x3 xf hV hV' hKV
    simp [results, Try.f59, go_sem, v0]
  case stop =>
    rintro D cc pre W hD hSp ⟨rfl, hres, hbel⟩ hK
    clear HH HQ
    gi_wp2
    have hgr := grownBy_putObj' W D (.deferred none)
    have hr' : ∀ r, some D = some r → ∃ o : Obj, W.heap[r]? = some o ∧ o.isCells = false := fun r e => by cases e; exact ⟨_, hK, rfl⟩
    have hres2 := hres.turn hgr hr'
    have hbel2 := hbel.grown hgr hbel.size (fun r e => by cases e; omega)
    have v0 := (hres2.cell 0).trans rfl
    refine ⟨by simp, .inl ⟨_, _, rfl, run_takeDeferred hK, ?_⟩⟩
    refine ⟨.bool true, ?_, rfl, hbel2⟩
    simp [results, Try.f59, go_sem, v0]
end Go.Proofs.Ytpnagblbhlglhaa
