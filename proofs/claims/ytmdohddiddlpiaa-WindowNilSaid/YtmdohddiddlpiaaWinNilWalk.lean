/- The walk of wicketlaw17.WindowNil: a closed sentence. Conditions: none. -/
import Derived.Test.YtmdohddiddlpiaaWinKnown
import Derived.Test.YtmdohddiddlpiaaWinLenS
import Derived.Test.YtmdohddiddlpiaaWinCopyI
namespace Go.Proofs.Ytmdohddiddlpiaa
open Go.RowKit Go.Shelf
attribute [local go_sem] Oper.semAt_some

/-- A window that is not there: nil, or a zero one. -/
def Zero (w : World) (p : Option Addr) : Prop := p = none ∨ ∃ r, p = some ⟨r, 0, none⟩ ∧ Blk w r 56 #[.slice none 0 0, .int .i64 0, .int .i64 0]
theorem Zero.below {w w' : World} {p : Option Addr} (h : Zero w p) (hb : Below w.heap.size w w') : Zero w' p := by
  rcases h with h | ⟨r, e, hk⟩
  · exact .inl h
  · exact .inr ⟨r, e, hk.below hb hk.lt⟩

section
variable {w : World} {p : Option Addr}
theorem z_there (h : Zero w p) : Calls Try.prog 34 #[.pointer p] w fun e w' => e = .returned (.bool false) ∧ w = w' := by
  rcases h with rfl | ⟨r, rfl, hb⟩
  · go_enter Try.func34, Try.ntmps34
    go_wp2
    go_ret
    exact ⟨rfl, rfl⟩
  · have c0 : w.cell? ⟨r, 0, none⟩ = some (.slice none 0 0) := (hb.cell 0).trans rfl
    go_enter Try.func34, Try.ntmps34
    go_wp2
    go_ret
    exact ⟨rfl, rfl⟩
theorem z_mark (h : Zero w p) : Calls Try.prog 19 #[.pointer p] w fun e w' => e = .returned (.int .i64 0) ∧ w = w' := by
  have ht := z_there h
  go_enter Try.func19, Try.ntmps19
  go_wp2_with (go_at_call 34; refine ht.mono ?_; clear ht; rintro e w' ⟨rfl, rfl⟩)
  go_ret
  exact ⟨rfl, rfl⟩
theorem z_last (h : Zero w p) : Calls Try.prog 21 #[.pointer p] w fun e w' => e = .returned (.int .i64 0) ∧ w = w' := by
  have ht := z_there h
  go_enter Try.func21, Try.ntmps21
  go_wp2_with (go_at_call 34; refine ht.mono ?_; clear ht; rintro e w' ⟨rfl, rfl⟩)
  go_ret
  exact ⟨rfl, rfl⟩
theorem z_room (h : Zero w p) : Calls Try.prog 24 #[.pointer p] w fun e w' => e = .returned (.int .i64 0) ∧ w = w' := by
  have ht := z_there h
  go_enter Try.func24, Try.ntmps24
  go_wp2_with (go_at_call 34; refine ht.mono ?_; clear ht; rintro e w' ⟨rfl, rfl⟩)
  go_ret
  exact ⟨rfl, rfl⟩
theorem z_copy (h : Zero w p) : Calls Try.prog 16 #[.pointer p] w fun e w' => e = .returned (.pointer none) ∧ w = w' := by
  have ht := z_there h
  go_enter Try.func16, Try.ntmps16
  go_wp2_with (go_at_call 34; refine ht.mono ?_; clear ht; rintro e w' ⟨rfl, rfl⟩)
  go_ret
  exact ⟨rfl, rfl⟩
theorem z_give (x : ByteArray) (h : Zero w p) : Calls Try.prog 27 #[.pointer p, .string x] w fun e w' => e = .returned (.tuple #[.int .i64 0, .int .i64 1]) ∧ w = w' := by
  have ht := z_there h
  go_enter Try.func27, Try.ntmps27
  go_wp2_with (go_at_call 34; refine ht.mono ?_; clear ht; rintro e w' ⟨rfl, rfl⟩)
  go_ret2
  exact ⟨rfl, rfl⟩
theorem z_find (z : Int) (h : Zero w p) : Calls Try.prog 45 #[.pointer p, .int .i64 z] w fun e w' => e = .returned (.tuple #[.pointer none, .int .i64 1]) ∧ w = w' := by
  have ht := z_there h
  go_enter Try.func45, Try.ntmps45
  go_wp2_with (go_at_call 34; refine ht.mono ?_; clear ht; rintro e w' ⟨rfl, rfl⟩)
  go_ret2
  exact ⟨rfl, rfl⟩
theorem z_get (z : Int) (h : Zero w p) : Calls Try.prog 37 #[.pointer p, .int .i64 z] w fun e w' => e = .returned (.tuple #[.string ⟨#[]⟩, .int .i64 1]) ∧ w = w' := by
  have ht := z_find z h
  go_enter Try.func37, Try.ntmps37
  go_wp2_with (go_at_call 45; refine ht.mono ?_; clear ht; rintro e w' ⟨rfl, rfl⟩)
  go_ret2
  exact ⟨rfl, rfl⟩
theorem z_set (z : Int) (x : ByteArray) (h : Zero w p) : Calls Try.prog 39 #[.pointer p, .int .i64 z, .string x] w fun e w' => e = .returned (.int .i64 1) ∧ w = w' := by
  have ht := z_find z h
  go_enter Try.func39, Try.ntmps39
  go_wp2_with (go_at_call 45; refine ht.mono ?_; clear ht; rintro e w' ⟨rfl, rfl⟩)
  go_ret
  exact ⟨rfl, rfl⟩
theorem z_back (z : Int) (h : Zero w p) : Calls Try.prog 28 #[.pointer p, .int .i64 z] w fun e w' => e = .returned (.tuple #[.string ⟨#[]⟩, .int .i64 1]) ∧ w = w' := by
  have ht := z_find z h
  go_enter Try.func28, Try.ntmps28
  go_wp2
  go_step3
  go_wp2_with (go_at_call 45; refine ht.mono ?_; clear ht; rintro e w' ⟨rfl, rfl⟩)
  try simp (config := { zetaDelta := true }) only [Exit.noGoto, Exit.then, Exit.inBlock]
  go_ret2
  exact ⟨rfl, rfl⟩
end

/-- Of what is not there a going over tells nothing. -/
theorem z_seq (w : World) (n₀ Bn : Nat) (p : Option Addr) (h : Zero w p) (hB : w.cell? ⟨Bn, 0, none⟩ = some (.pointer p)) (hBl : Bn < w.heap.size) (d : Nat) (hd : 1 ≤ d) :
    SeqStopsK Fence.wide d Try.prog 48 #[.pointer (some ⟨Bn, 0, none⟩)] encS (KpFrom winTS n₀) (fun xs => xs = []) (fun pre => pre <+: []) 0 w := by
  intro L J Jx W hW hJ hJx hY h0
  have hBW : W.cell? ⟨Bn, 0, none⟩ = some (.pointer p) := (hW.cell (p := ⟨Bn, 0, none⟩) hBl).trans hB
  have hZ := h.below hW
  have hc := z_copy hZ
  have hz0 : Zero W none := .inl rfl
  have hm := z_mark hz0
  have hl := z_last hz0
  clear hY
  refine callsIn_of_wp Try.func48 rfl trivial ?_ rfl
  simp only [Try.ntmps48, List.size_toArray, List.length_cons, List.length_nil, Nat.reduceAdd, Nat.reduceSub, Array.replicate_succ, Array.replicate_zero, List.push_toArray, List.append_toArray, List.nil_append, List.cons_append]
  gi_wp2_with (first
    | (refine ⟨trivial, ?_⟩; gi_at_call 16; refine (callsIn_wide.2 hc).mono ?_; clear hc; rintro e W1 ⟨rfl, rfl⟩)
    | (refine ⟨trivial, ?_⟩; gi_at_call 19; refine (callsIn_wide.2 hm).mono ?_; clear hm; rintro e W2 ⟨rfl, rfl⟩))
  gi_loopw [4] (fun nv wr => nv = .int .i64 1 ∧ wr = W) (fun _ _ => 0)
  case atStart => exact ⟨rfl, rfl⟩
  case round =>
    obtain ⟨rfl, rfl⟩ := hrel
    gi_wp2_with (refine ⟨trivial, ?_⟩; gi_at_call 21; refine (callsIn_wide.2 hl).mono ?_; clear hl; rintro e W2 ⟨rfl, rfl⟩)
    go_end0
    exact ⟨⟨_, rfl⟩, .inl ⟨_, rfl, h0⟩⟩

set_option maxHeartbeats 2000000 in
set_option maxRecDepth 100000 in
theorem z_len (w : World) (p : Option Addr) (h : Zero w p) : Calls Try.prog 22 #[.pointer p] w fun e w' => e = .returned (.int .i64 0) ∧ Below w.heap.size w w' := by
  refine (callsIn_wide (n := 9)).1 ?_
  have hB0 : Below w.heap.size w ((w.alloc (.cells #[.int .i64 0] 3)).alloc (.cells #[.pointer p] 38)) := ((Below.refl _ w).alloc (Nat.le_refl _) _).alloc (by simp) _
  have k0 : Blk ((w.alloc (.cells #[.int .i64 0] 3)).alloc (.cells #[.pointer p] 38)) w.heap.size 3 #[.int .i64 0] := (Blk.new w 3 _).alloc _
  have k1 : Blk ((w.alloc (.cells #[.int .i64 0] 3)).alloc (.cells #[.pointer p] 38)) (w.heap.size + 1) 38 #[.pointer p] := by
    have := Blk.new (w.alloc (.cells #[.int .i64 0] 3)) 38 #[.pointer p]
    rwa [World.size_alloc] at this
  have hs0 : ((w.alloc (.cells #[.int .i64 0] 3)).alloc (.cells #[.pointer p] 38)).heap.size = w.heap.size + 2 := by simp
  have hall := allS (w.alloc (.cells #[.int .i64 0] 3)) p
  rw [World.size_alloc] at hall
  have hseq := fun (W : World) (e : (w.alloc (.cells #[.int .i64 0] 3)).alloc (.cells #[.pointer p] 38) = W) => z_seq W (w.heap.size + 2) (w.heap.size + 1) p (by rw [← e]; exact h.below hB0) (by rw [← e]; exact (k1.cell 0).trans rfl) (by rw [← e, hs0]; omega) 8 (by omega)
  clear h
  refine callsIn_of_wp_marks Try.func22 rfl trivial ?_ rfl
  simp only [Try.ntmps22, List.size_toArray, List.length_cons, List.length_nil, Nat.reduceAdd, Nat.reduceSub, Array.replicate_succ, Array.replicate_zero, List.push_toArray, List.append_toArray, List.nil_append, List.cons_append]
  gi_wp2_with (refine ⟨trivial, ?_⟩; gi_at_call 42; refine (callsIn_wide.2 hall).mono ?_; clear hall; rintro e w' ⟨rfl, rfl⟩)
  obtain ⟨W0, hW0⟩ : ∃ W0, (w.alloc (.cells #[.int .i64 0] 3)).alloc (.cells #[.pointer p] 38) = W0 := ⟨_, rfl⟩
  have hsq := hseq W0 hW0
  rw [hW0] at hB0 k0 hs0 ⊢
  clear hseq hW0 k1
  refine wpIn_rangeFunc_ownG (F := Fence.wide) rfl (by omega) (gf := 48) (lb := #[.pointer (some ⟨w.heap.size + 1, 0, none⟩)]) rfl trivial (enters_of Try.func48 (by kernel_rfl) rfl) hsq (fun h k => KpFrom.t h k) (fun W l o o' _ h hc _ => KpFrom.b W l o o' h hc) (Below.refl _ _) (fun _ => rfl)
    (fun _ W => Blk W w.heap.size 3 #[.int .i64 0] ∧ Below w.heap.size w W)
    (fun _ _ _ => False)
    (fun s A B row hs hg hr => ⟨Blk.turn hs.1 hg (fun r e => (hr r e).2), ownFrom_below (β := List (Nat × ByteArray)) (Nat.le_refl _) (by rw [hs0]; omega) s A B row hs.2 hg hr⟩)
    (fun _ _ _ _ _ hs _ _ => hs)
    ⟨k0, hB0⟩
    (fun x => { tmps := #[.pointer p, undef, .int .i64 0, .pointer (some ⟨w.heap.size, 0, none⟩), .pointer p, .func (.func 48) #[] #[.pointer (some ⟨w.heap.size + 1, 0, none⟩)], .int .i64 (x.1 : Int), .string x.2, undef, undef, undef], defers := [] }) ?assign ?body ?done ?stop
  case assign =>
    intro L x W K hK
    simp only [encS]
    gi_wp2
    simp
    exact hK
  case body =>
    rintro L pre x W _ hlt
    exact absurd hlt (by omega)
  case done =>
    rintro D ys W hD rfl ⟨hb, hB⟩ hK
    have c0 := (hb.cell 0).trans rfl
    gi_wp2
    refine ⟨by simp, .inl ⟨_, _, rfl, run_takeDeferred hK, ?_⟩⟩
    exact ⟨_, results_tmp rfl _ _ _, rfl, hB.trans (belowK_b (w := w) (Nat.le_refl _) W D _ _ (by omega) hK rfl rfl)⟩
  case stop =>
    rintro D cc pre W _ _ h _
    exact h.elim

theorem all_not_nilS (w : World) (a : Option Addr) : Sem.run Try.prog (binOp BinOp.eql 83 (Value.func (.func 48) #[] #[.pointer a]) Value.nilFunc) w = .ok (.bool false) w := by kernel_rfl

set_option maxHeartbeats 2000000 in
set_option maxRecDepth 100000 in
theorem z_nothing (w : World) (p : Option Addr) (h : Zero w p) : Calls Try.prog 26 #[.pointer p] w fun e w' => e = .returned (.bool true) ∧ Below w.heap.size w w' := by
  refine (callsIn_wide (n := 9)).1 ?_
  have hg := z_give ⟨#[120]⟩ h
  have hge := z_get 1 h
  have hse := z_set 1 ⟨#[120]⟩ h
  have hba := z_back 1 h
  have hall := allS w p
  have hnn := all_not_nilS
  have hB0 : Below w.heap.size w ((w.alloc (.cells #[.pointer p] 38)).alloc (.cells #[.int .i64 0] 3)) := ((Below.refl _ w).alloc (Nat.le_refl _) _).alloc (by simp) _
  have k1 : Blk ((w.alloc (.cells #[.pointer p] 38)).alloc (.cells #[.int .i64 0] 3)) w.heap.size 38 #[.pointer p] := (Blk.new w 38 _).alloc _
  have k0 : Blk ((w.alloc (.cells #[.pointer p] 38)).alloc (.cells #[.int .i64 0] 3)) (w.heap.size + 1) 3 #[.int .i64 0] := by
    have := Blk.new (w.alloc (.cells #[.pointer p] 38)) 3 #[.int .i64 0]
    rwa [World.size_alloc] at this
  have hs0 : ((w.alloc (.cells #[.pointer p] 38)).alloc (.cells #[.int .i64 0] 3)).heap.size = w.heap.size + 2 := by simp
  have hseq := fun (W : World) (e : (w.alloc (.cells #[.pointer p] 38)).alloc (.cells #[.int .i64 0] 3) = W) => z_seq W (w.heap.size + 2) w.heap.size p (by rw [← e]; exact h.below hB0) (by rw [← e]; exact (k1.cell 0).trans rfl) (by rw [← e, hs0]; omega) 8 (by omega)
  have HZ := Lib.hid h
  clear h
  refine callsIn_of_wp_marks Try.func26 rfl trivial ?_ rfl
  simp only [Try.ntmps26, List.size_toArray, List.length_cons, List.length_nil, Nat.reduceAdd, Nat.reduceSub, Array.replicate_succ, Array.replicate_zero, List.push_toArray, List.append_toArray, List.nil_append, List.cons_append]
  gi_wp2_with (first
    | (refine ⟨trivial, ?_⟩; gi_at_call 27; refine (callsIn_wide.2 hg).mono ?_; clear hg; rintro e w' ⟨rfl, rfl⟩)
    | (refine ⟨trivial, ?_⟩; gi_at_call 37; refine (callsIn_wide.2 hge).mono ?_; clear hge; rintro e w' ⟨rfl, rfl⟩)
    | (refine ⟨trivial, ?_⟩; gi_at_call 39; refine (callsIn_wide.2 hse).mono ?_; clear hse; rintro e w' ⟨rfl, rfl⟩)
    | (refine ⟨trivial, ?_⟩; gi_at_call 28; refine (callsIn_wide.2 hba).mono ?_; clear hba; rintro e w' ⟨rfl, rfl⟩)
    | (refine ⟨trivial, ?_⟩; gi_at_call 42; refine (callsIn_wide.2 hall).mono ?_; clear hall; rintro e w' ⟨rfl, rfl⟩))
  obtain ⟨W0, hW0⟩ : ∃ W0, (w.alloc (.cells #[.pointer p] 38)).alloc (.cells #[.int .i64 0] 3) = W0 := ⟨_, rfl⟩
  have hsq := hseq W0 hW0
  rw [hW0] at hB0 k0 hs0 ⊢
  clear hseq hW0 k1
  refine wpIn_range_skip (F := Fence.wide) rfl (by omega) (gf := 48) (lb := #[.pointer (some ⟨w.heap.size, 0, none⟩)]) rfl trivial (enters_of Try.func48 (by kernel_rfl) rfl) hsq (fun h k => KpFrom.t h k) (fun W l o o' _ h hc _ => KpFrom.b W l o o' h hc) (Below.refl _ _) (fun _ => rfl)
    (fun _ W => Blk W (w.heap.size + 1) 3 #[.int .i64 0] ∧ Below w.heap.size w W)
    (fun _ _ _ => False)
    (fun s A B row hs hg hr => ⟨Blk.turn hs.1 hg (fun r e => (hr r e).2), ownFrom_below (β := List (Nat × ByteArray)) (Nat.le_refl _) (by rw [hs0]; omega) s A B row hs.2 hg hr⟩)
    (fun _ _ _ _ _ hs _ _ => hs)
    ⟨k0, hB0⟩ ?body ?done ?stop
  case body =>
    rintro L pre x W _ hlt
    exact absurd hlt (by omega)
  case done =>
    rintro D ys W hD rfl ⟨hb, hB⟩ hK
    have hZW := HZ.out.below hB
    have hbl := hb.lt
    have hZN := fun (V : World) (e : Below W.heap.size W V) => hZW.below e
    have e1 : W.drew.cell? ⟨w.heap.size + 1, 0, none⟩ = some (.int .i64 0) := (hb.cell 0).trans rfl
    have hd0 : Below W.heap.size W W.drew := (Below.refl _ W).drew
    have hcN := fun (V : World) (e : Below W.heap.size W V) => (e.cell (p := ⟨w.heap.size + 1, 0, none⟩) hbl).trans ((hb.cell 0).trans rfl)
    have HN := Lib.hid hcN
    clear hcN hZW
    gi_wp2
    refine wpIn_wide.2 ?_
    go_region_held3 (fun w' => w'.cell? ⟨w.heap.size + 1, 0, none⟩ = some (.int .i64 0)) (first | assumption | go_keep) (first
      | (go_at_call 10; refine (num_any _ _).mono ?_; rintro e w' ⟨rfl, rfl⟩)
      | (go_at_call 19; refine (z_mark (hZN _ (by assumption))).mono ?_; rintro e w' ⟨rfl, rfl⟩)
      | (go_at_call 21; refine (z_last (hZN _ (by assumption))).mono ?_; rintro e w' ⟨rfl, rfl⟩)
      | (go_at_call 22; refine (z_len _ p (hZN _ hd0)).mono ?_; rintro e w1 ⟨rfl, m1⟩; have m2 : Below W.heap.size W w1 := hd0.trans m1; have e2 := HN.out _ m2)
      | (go_at_call 24; refine (z_room (hZN _ (by assumption))).mono ?_; rintro e w' ⟨rfl, rfl⟩))
    have hK1 : w1.heap[D]? = some (.deferred (some [])) := (m2.block D (Array.getElem?_eq_some_iff.1 hK).1).trans hK
    have hB1 := hB.trans (m2.mono hB.size)
    gi_wp2
    refine ⟨by simp, .inl ⟨_, _, rfl, run_takeDeferred hK1, ?_⟩⟩
    exact ⟨_, results_tmp rfl _ _ _, rfl, hB1.trans (belowK_b (w := w) (Nat.le_refl _) w1 D _ _ (by omega) hK1 rfl rfl)⟩
  case stop =>
    rintro D cc pre W _ _ h _
    exact h.elim

set_option maxHeartbeats 2000000 in
set_option maxRecDepth 100000 in
theorem windowNil_walk (w : World) : Calls Try.prog 5 #[] w fun e w' => e = .returned (.bool true) ∧ Below w.heap.size w w' := by
  have n65 := newNoI w 65 (.inr (by omega))
  have n64 : Calls Try.prog 7 #[.int .i64 64] w _ := newYesI w 64 (by omega) (by omega)
  go_enter Try.func5, Try.ntmps5
  go_wp2_with (first
    | (go_at_call 7; refine n65.mono ?_; clear n65; rintro e w' ⟨rfl, rfl⟩)
    | (go_at_call 7; refine n64.mono ?_; clear n64; rintro e w1 ⟨p, rfl, g, _, _, _, b1⟩; have hcp := z_copy (w := w1) (p := none) (.inl rfl); have hn1 := z_nothing w1 none (.inl rfl))
    | (go_at_call 10; refine (num_any _ _).mono ?_; rintro e w' ⟨rfl, rfl⟩)
    | (go_at_call 16; refine hcp.mono ?_; clear hcp; rintro e w' ⟨rfl, rfl⟩)
    | (go_at_call 26; refine hn1.mono ?_; clear hn1; rintro e w2 ⟨rfl, b2⟩; have hn2 := z_nothing (w2.alloc (.cells #[.slice none 0 0, .int .i64 0, .int .i64 0] 56)) (some ⟨w2.heap.size, 0, none⟩) (.inr ⟨_, rfl, Blk.new w2 56 _⟩))
    | (go_at_call 26; refine hn2.mono ?_; clear hn2; rintro e w3 ⟨rfl, b3⟩; have hk := knownWin w3)
    | (go_at_call 6; refine hk.mono ?_; clear hk; rintro e w4 ⟨rfl, b4⟩))
  go_ret
  have x2 := b1.trans (b2.mono b1.size)
  have x3 : Below w.heap.size w (w2.alloc (.cells #[.slice none 0 0, .int .i64 0, .int .i64 0] 56)) := x2.alloc x2.size _
  have x4 := x3.trans (b3.mono x3.size)
  exact ⟨rfl, x4.trans (b4.mono x4.size)⟩
end Go.Proofs.Ytmdohddiddlpiaa
