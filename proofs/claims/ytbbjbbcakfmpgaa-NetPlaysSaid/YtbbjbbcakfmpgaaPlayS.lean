/- Net[string] beside a list that is held against it: what each step of NetPlays leaves of both. Conditions: those that each states. -/
import Derived.Test.YtbbjbbcakfmpgaaGoesS
import Derived.Test.YtbbjbbcakfmpgaaKeepS
namespace Go.Proofs.Ytbbjbbcakfmpgaa
open Go.RowKit

/-- A net that says ys, beside a list that says xs: both the call's own, each in its own place. -/
structure PlayS (w W : World) (b : Nat) (A : Option Addr) (c : Nat) (G : Option Addr) (n gc : Nat) (ys xs : List ByteArray) (sent : Int) : Prop where
  net : NetS W w.heap.size b A c ys sent
  row : W.ownsRow w.heap.size 9 1 (.slice G n gc) n (strs xs)
  apart : ∀ j, blkOf G = some j → ¬ fpI b A j
  small : n ≤ 65536
  below : Below w.heap.size w W

/-- Boxed steps stay. -/
def Kept40 (W W' : World) : Prop := ∀ (s : Nat) (cs : Array Value), Blk W s 40 cs → Blk W' s 40 cs
theorem Kept40.new {W W' : World} (h : Below W.heap.size W W') : Kept40 W W' := fun _ _ hb => hb.below h hb.lt
section
variable {w W W' : World} {b c c1 n gc : Nat} {A A1 G : Option Addr} {ys xs zs : List ByteArray} {sent s1 : Int}
theorem PlayS.len (h : PlayS w W b A c G n gc ys xs sent) : xs.length = n := by have := h.row.1; rw [strs_length] at this; omega
theorem PlayS.lt (h : PlayS w W b A c G n gc ys xs sent) (j : Nat) (hj : blkOf G = some j) : j < W.heap.size := (h.row.lt j (by rw [ownBlock_slice]; exact hj)).2
theorem PlayS.fp_lt (h : PlayS w W b A c G n gc ys xs sent) (j : Nat) (hj : fpI b A j) : j < W.heap.size := by
  rcases hj with e | e
  · have := h.net.blk.lt; omega
  · exact (h.net.own.lt j (by rw [ownBlock_slice]; exact e)).2
theorem PlayS.fr (h : PlayS w W b A c G n gc ys xs sent) {S : Nat → Prop} (hf : Fr S W W') (h1 : ∀ k, fpI b A k → ¬ S k) (h2 : ∀ k, blkOf G = some k → ¬ S k) (h3 : ∀ k, S k → w.heap.size ≤ k) : PlayS w W' b A c G n gc ys xs sent :=
  ⟨h.net.fr hf h1, own_fr h.row hf fun k hk => h2 k (by rw [ownBlock_slice] at hk; exact hk), h.apart, h.small, h.below.trans (hf.below h3 h.below.size)⟩
theorem PlayS.new (h : PlayS w W b A c G n gc ys xs sent) (hb : Below W.heap.size W W') : PlayS w W' b A c G n gc ys xs sent :=
  h.fr (S := noB) (Fr.of_new hb) (fun _ _ e => e) (fun _ _ e => e) (fun _ e => e.elim)
theorem PlayS.step (h : PlayS w W b A c G n gc ys xs sent) (hs : StI b A A1 W W') (hn : NetS W' w.heap.size b A1 c1 zs s1) : PlayS w W' b A1 c1 G n gc zs xs s1 := by
  refine ⟨hn, own_fr h.row hs.fr fun k hk => h.apart k (by rw [ownBlock_slice] at hk; exact hk), fun j hj e => ?_, h.small, h.below.trans (StS.below h.net hs)⟩
  rcases e with e | e
  · exact h.apart j hj (.inl e)
  · rcases hs.new j e with e | e
    · exact h.apart j hj (.inr e)
    · have := h.lt j hj; omega
theorem PlayS.kept (h : PlayS w W b A c G n gc ys xs sent) (hf : Fr (fpI b A) W W') : Kept40 W W' := fun s cs hb => hb.fr hf fun e => by
  rcases e with e | e
  · exact Blk.ne_ hb h.net.blk (by decide) e
  · exact own_blk_ne h.net.own hb (by decide) (by rw [ownBlock_slice]; exact e)
theorem PlayS.close (h : PlayS w W b A c G n gc ys xs sent) {G1 : Option Addr} {m gc1 : Nat} (hr : W'.ownsRow w.heap.size 9 1 (.slice G1 m gc1) m (strs zs)) (hf : Fr (fun j => blkOf G = some j) W W')
    (hG : ∀ j, blkOf G1 = some j → blkOf G = some j ∨ W.heap.size ≤ j) (hm : m ≤ 65536) : PlayS w W' b A c G1 m gc1 ys zs sent := by
  refine ⟨h.net.fr hf fun k hk e => h.apart k e hk, hr, fun j hj e => ?_, hm, h.below.trans (hf.below (fun k hk => own_base h.row k (by rw [ownBlock_slice]; exact hk)) h.below.size)⟩
  rcases hG j hj with e1 | e1
  · exact h.apart j e1 e
  · have hlt := h.net.blk.lt
    rcases e with e | e
    · omega
    · have := (h.net.own.lt j (by rw [ownBlock_slice]; exact e)).2; omega
/-- .. where it grew by what append lays behind. -/
theorem PlayS.grow (h : PlayS w W b A c G n gc ys xs sent) {v : Value} {m k : Nat} (hv : W'.ownsRow w.heap.size 9 1 v k (strs zs)) (hk : k = m) (hg : W.grownBy W' (Value.slice G n gc).ownBlock)
    (hat : v.ownBlock = (Value.slice G n gc).ownBlock ∨ v.ownBlock = some W.heap.size) (hm : m ≤ 65536) : ∃ G1 gc1, v = .slice G1 m gc1 ∧ PlayS w W' b A c G1 m gc1 ys zs sent := by
  subst hk
  obtain ⟨G1, gc1, rfl⟩ := own_shape hv
  refine ⟨G1, gc1, rfl, h.close hv (Fr.of_grown hg fun k e => by rw [ownBlock_slice] at e; exact e) (fun j hj => ?_) hm⟩
  rcases own_at hat j hj with e | e
  · exact .inl e
  · exact .inr (by omega)
theorem PlayS.reads (h : PlayS w W b A c G n gc ys xs sent) : Reads W W.heap.size 1 G n (strs xs) := Reads.of_own h.row
theorem PlayS.cell (h : PlayS w W b A c G n gc ys xs sent) (i : Nat) (hi : i < n) : ∃ g, G = some ⟨g, 0, none⟩ ∧ n ≤ gc ∧ W.cell? ⟨g, i, none⟩ = some (.string (gets xs i)) := own_cellS h.row i hi

theorem PlayS.len_ (h : PlayS w W b A c G n gc xs xs sent) : Calls Try.prog 24 #[.pointer (some ⟨b, 0, none⟩)] W fun e w' => e = .returned (.int .i64 n) ∧ W = w' := by
  have := lenS W _ b c A xs sent h.net
  rwa [h.len] at this
theorem PlayS.sent_ (h : PlayS w W b A c G n gc xs xs sent) : Calls Try.prog 25 #[.pointer (some ⟨b, 0, none⟩)] W fun e w' => e = .returned (.int .i64 sent) ∧ W = w' := sentS W _ b c A xs sent h.net
theorem PlayS.at_ (h : PlayS w W b A c G n gc xs xs sent) (i : Nat) (hi : i < n) : Calls Try.prog 18 #[.pointer (some ⟨b, 0, none⟩), .int .i64 i] W fun e w' => e = .returned (.tuple #[.string (gets xs i), .int .i64 0]) ∧ W = w' :=
  atS_in W _ b c A xs sent i h.net (by have := h.len; omega) (by have := h.len; have := h.small; omega)
theorem PlayS.at_out (h : PlayS w W b A c G n gc xs xs sent) (i : Int) (hi : i < 0 ∨ (n : Int) ≤ i) : Calls Try.prog 18 #[.pointer (some ⟨b, 0, none⟩), .int .i64 i] W fun e w' => e = .returned (.tuple #[.string ⟨#[]⟩, .int .i64 5]) ∧ W = w' :=
  atS_out W _ b c A xs sent i h.net (by have := h.len; omega)
theorem PlayS.take_ (h : PlayS w W b A c G n gc xs xs sent) (i : Nat) (hi : i < n) : Calls Try.prog 16 #[.pointer (some ⟨b, 0, none⟩), .int .i64 i] W fun e w' => e = .returned (.tuple #[.string (gets xs i), .int .i64 0]) ∧ (∃ A1 c1, PlayS w w' b A1 c1 G n gc (xs.eraseIdx i) xs sent) ∧ Kept40 W w' :=
  (takeS_in W _ b c A xs sent i h.net (by have := h.len; omega) (by have := h.len; have := h.small; omega)).mono fun _ _ ⟨e, A1, c1, hn, hs⟩ => ⟨e, ⟨A1, c1, h.step hs hn⟩, h.kept hs.fr⟩
theorem PlayS.take_out (h : PlayS w W b A c G n gc xs xs sent) (i : Int) (hi : i < 0 ∨ (n : Int) ≤ i) : Calls Try.prog 16 #[.pointer (some ⟨b, 0, none⟩), .int .i64 i] W fun e w' => e = .returned (.tuple #[.string ⟨#[]⟩, .int .i64 5]) ∧ W = w' :=
  takeS_out W _ b c A xs sent i h.net (by have := h.len; omega)
theorem PlayS.lose_ (h : PlayS w W b A c G n gc xs xs sent) (i : Nat) (hi : i < n) : Calls Try.prog 17 #[.pointer (some ⟨b, 0, none⟩), .int .i64 i] W fun e w' => e = .returned (.int .i64 0) ∧ (∃ A1 c1, PlayS w w' b A1 c1 G n gc (xs.eraseIdx i) xs sent) ∧ Kept40 W w' :=
  (loseS_in W _ b c A xs sent i h.net (by have := h.len; omega) (by have := h.len; have := h.small; omega)).mono fun _ _ ⟨e, A1, c1, hn, hs⟩ => ⟨e, ⟨A1, c1, h.step hs hn⟩, h.kept hs.fr⟩
theorem PlayS.lose_out (h : PlayS w W b A c G n gc xs xs sent) (i : Int) (hi : i < 0 ∨ (n : Int) ≤ i) : Calls Try.prog 17 #[.pointer (some ⟨b, 0, none⟩), .int .i64 i] W fun e w' => e = .returned (.int .i64 5) ∧ W = w' :=
  loseS_out W _ b c A xs sent i h.net (by have := h.len; omega)
theorem PlayS.twin_ (h : PlayS w W b A c G n gc xs xs sent) (i : Nat) (hi : i < n) (hn : n < 65536) (h0 : 0 ≤ sent) (h1 : sent ≤ 1000000000) : Calls Try.prog 19 #[.pointer (some ⟨b, 0, none⟩), .int .i64 i] W fun e w' => e = .returned (.int .i64 0) ∧ (∃ A1 c1, PlayS w w' b A1 c1 G n gc (xs ++ [gets xs i]) xs (sent + 1)) ∧ Kept40 W w' :=
  (twinS_in W _ b c A xs sent i h.net (by have := h.len; omega) (by have := h.len; omega) h0 h1).mono fun _ _ ⟨e, A1, c1, hn, hs⟩ => ⟨e, ⟨A1, c1, h.step hs hn⟩, h.kept hs.fr⟩
theorem PlayS.twin_out (h : PlayS w W b A c G n gc xs xs sent) (i : Int) (hi : i < 0 ∨ (n : Int) ≤ i) : Calls Try.prog 19 #[.pointer (some ⟨b, 0, none⟩), .int .i64 i] W fun e w' => e = .returned (.int .i64 5) ∧ W = w' :=
  twinS_out W _ b c A xs sent i h.net (by have := h.len; omega)
theorem PlayS.twin_full (h : PlayS w W b A c G n gc xs xs sent) (i : Nat) (hi : i < n) (hn : n = 65536) : Calls Try.prog 19 #[.pointer (some ⟨b, 0, none⟩), .int .i64 i] W fun e w' => e = .returned (.int .i64 7) ∧ Below W.heap.size W w' :=
  (twinS_full W _ b c A xs sent i h.net (by have := h.len; omega) (by have := h.len; omega)).mono fun _ _ h => h
theorem PlayS.keep_ (h : PlayS w W b A c G n gc xs xs sent) (s : Nat) (k : Value) (N : Int) (t : Value) (hs : Blk W s 40 #[k, .int .i64 N, t]) :
    Calls Try.prog 20 #[.pointer (some ⟨b, 0, none⟩), .func (.func 21) #[] #[.pointer (some ⟨s, 0, none⟩)]] W fun e w' => e = .returned (.int .i64 ((n : Int) - (longer N xs).length)) ∧ (∃ A1 c1, PlayS w w' b A1 c1 G n gc (longer N xs) xs sent) ∧ Kept40 W w' := by
  have := keepS W _ b c A xs sent h.net (by have := h.len; have := h.small; omega) s k N t hs
  rw [h.len] at this
  exact this.mono fun _ _ ⟨e, A1, c1, hn, hs⟩ => ⟨e, ⟨A1, c1, h.step hs hn⟩, h.kept hs.fr⟩
theorem PlayS.goes_ (h : PlayS w W b A c G n gc xs xs sent) (leave : Int) : Calls Try.prog 22 #[.pointer (some ⟨b, 0, none⟩), .slice G n gc, .int .i64 leave] W fun e w' => e = .returned (.bool true) ∧ PlayS w w' b A c G n gc xs xs sent :=
  (goesS W _ b c A xs sent h.net (by have := h.len; have := h.small; omega) G n gc h.reads leave).mono fun _ _ ⟨e, hb⟩ => ⟨e, h.new hb⟩
theorem PlayS.copy_ (h : PlayS w W b A c G n gc xs xs sent) : Calls Try.prog 23 #[.pointer (some ⟨b, 0, none⟩)] W fun e w' => ∃ b2, e = .returned (.pointer (some ⟨b2, 0, none⟩)) ∧ ∃ A1 c1, NetS w' W.heap.size b2 A1 c1 xs sent ∧ Below W.heap.size W w' :=
  copyS W _ b c A xs sent h.net (by have := h.len; have := h.small; omega)
/-- Send, of a row of the call's own: it stays as it is. -/
theorem PlayS.send_ (h : PlayS w W b A c G n gc xs xs sent) {V : World} (hV : PlayS w V b A c G n gc xs xs sent) (hVW : V.heap.size ≤ W.heap.size) (I : Option Addr) (m ic : Nat) (ts : List ByteArray) (hI : W.ownsRow V.heap.size 9 1 (.slice I m ic) m (strs ts)) (hm : (m : Int) ≤ 65536 - n) (h0 : 0 ≤ sent) (h1 : sent ≤ 1000000000) :
    Calls Try.prog 15 #[.pointer (some ⟨b, 0, none⟩), .slice I m ic] W fun e w' => e = .returned (.int .i64 0) ∧ ∃ A1 c1, PlayS w w' b A1 c1 G n gc (xs ++ ts) xs (sent + m) ∧ w'.ownsRow V.heap.size 9 1 (.slice I m ic) m (strs ts) ∧ (∀ j, blkOf I = some j → ¬ fpI b A1 j ∧ blkOf G ≠ some j ∧ w.heap.size ≤ j) ∧ Kept40 W w' := by
  have hl : ts.length = m := by have := hI.1; rw [strs_length] at this; omega
  have hn := h.len
  have hs := h.small
  have hfp : ∀ j, fpI b A j → j < V.heap.size := by
    rintro j (e | e)
    · have := hV.net.blk.lt; omega
    · exact (hV.net.own.lt j (by rw [ownBlock_slice]; exact e)).2
  have hI0 : ∀ j, blkOf I = some j → V.heap.size ≤ j ∧ j < W.heap.size := fun j e => hI.lt j (by rw [ownBlock_slice]; exact e)
  subst hl
  refine (sendS W _ b c A xs sent h.net _ I ic ts (Reads.of_own hI) (by omega) (by omega) h0 h1).mono ?_
  rintro e w' ⟨he, A1, c1, hn, hs⟩
  refine ⟨he, A1, c1, h.step hs hn, own_fr hI hs.fr fun k hk e => ?_, fun j hj => ⟨?_, fun e => ?_, ?_⟩, h.kept hs.fr⟩
  · have := hI0 k (by rw [ownBlock_slice] at hk; exact hk); have := hfp k e; omega
  · have hj1 := hI0 j hj
    rintro (e | e)
    · have := hV.net.blk.lt; omega
    · rcases hs.new j e with e | e
      · have := hfp j (.inr e); omega
      · omega
  · have := hV.lt j e; have := hI0 j hj; omega
  · have := hV.below.size; have := hI0 j hj; omega
theorem PlayS.send_full (h : PlayS w W b A c G n gc xs xs sent) (I : Option Addr) (m ic : Nat) (hm : 65536 - (n : Int) < m) :
    Calls Try.prog 15 #[.pointer (some ⟨b, 0, none⟩), .slice I m ic] W fun e w' => e = .returned (.int .i64 7) ∧ W = w' :=
  sendS_full W _ b c A xs sent h.net I m ic (by have := h.len; have := h.small; omega) (by have := h.len; omega)
/-- A copy is sent one thing, and loses its first. -/
theorem more_in (w : World) (B b c : Nat) (A : Option Addr) (xs : List ByteArray) (sent : Int) (h : NetS w B b A c xs sent) (hB : B ≤ w.heap.size) (x : ByteArray) (hx : xs.length < 65536) (h0 : 0 ≤ sent) (h1 : sent ≤ 1000000000) :
    Calls Try.prog 15 #[.pointer (some ⟨b, 0, none⟩), .slice (some ⟨w.heap.size, 0, none⟩) 1 1] (w.alloc (.cells #[.string x] 9)) fun e w' => e = .returned (.int .i64 0) ∧ ∃ A1 c1, NetS w' B b A1 c1 (xs ++ [x]) (sent + 1) ∧ Below B w w' := by
  have hb : Below B w (w.alloc (.cells #[.string x] 9)) := (Below.refl _ w).alloc hB _
  have hal := h.below ((Below.refl w.heap.size w).alloc (Nat.le_refl _) (.cells #[.string x] 9)) (Nat.le_refl _)
  have hz := reads_one_s w x
  exact (sendS _ B b c A xs sent hal _ _ 1 [x] hz (by simp; omega) (by omega) h0 h1).mono fun _ _ ⟨e, A1, c1, hn, hs⟩ => ⟨e, A1, c1, hn, hb.trans (StS.below hal hs)⟩
theorem more_full (w : World) (B b c : Nat) (A : Option Addr) (xs : List ByteArray) (sent : Int) (h : NetS w B b A c xs sent) (hB : B ≤ w.heap.size) (x : ByteArray) (hx : xs.length = 65536) :
    Calls Try.prog 15 #[.pointer (some ⟨b, 0, none⟩), .slice (some ⟨w.heap.size, 0, none⟩) 1 1] (w.alloc (.cells #[.string x] 9)) fun e w' => e = .returned (.int .i64 7) ∧ NetS w' B b A c xs sent ∧ Below B w w' := by
  have hb : Below B w (w.alloc (.cells #[.string x] 9)) := (Below.refl _ w).alloc hB _
  have hal := h.below ((Below.refl w.heap.size w).alloc (Nat.le_refl _) (.cells #[.string x] 9)) (Nat.le_refl _)
  exact (sendS_full _ B b c A xs sent hal _ 1 1 (by omega) (by omega)).mono fun _ _ ⟨e, hw⟩ => ⟨e, hw ▸ hal, hw ▸ hb⟩
theorem lose_first (w : World) (B b c : Nat) (A : Option Addr) (xs : List ByteArray) (sent : Int) (h : NetS w B b A c xs sent) (hx : 0 < xs.length) (hx2 : xs.length ≤ 65536) :
    Calls Try.prog 17 #[.pointer (some ⟨b, 0, none⟩), .int .i64 0] w fun e w' => e = .returned (.int .i64 0) ∧ Below B w w' :=
  (loseS_in w B b c A xs sent 0 h hx hx2).mono fun _ _ ⟨e, _, _, _, hs⟩ => ⟨e, StS.below h hs⟩
end

/-- One thing cut out of the list: its front, and what is behind, laid anew. -/
theorem PlayS.cut {w W W2 : World} {b c n gc m : Nat} {A G : Option Addr} {xs : List ByteArray} {sent : Int} (h : PlayS w W b A c G n gc (xs.eraseIdx m) xs sent) (hm : m < n) {v : Value} {k : Nat} (hv : W2.ownsRow W.heap.size 9 1 v k (strs (xs.take m) ++ strs (xs.drop (m + 1)))) (hk : k = n - 1) (hb : Below W.heap.size W W2) :
    ∃ G1 gc1, v = .slice G1 (n - 1) gc1 ∧ PlayS w W2 b A c G1 (n - 1) gc1 (xs.eraseIdx m) (xs.eraseIdx m) sent := by
  subst hk
  obtain ⟨G1, gc1, rfl⟩ := own_shape hv
  rw [← strs_append, ← List.eraseIdx_eq_take_drop_succ] at hv
  exact ⟨G1, gc1, rfl, h.close (own_mono hv h.below.size) (Fr.of_new hb) (fun j hj => .inr (own_base hv j (by rw [ownBlock_slice]; exact hj))) (by have := h.small; omega)⟩

end Go.Proofs.Ytbbjbbcakfmpgaa
