/- wicketlaw03.DiskPlays answers true. Conditions: those that it states. -/
import Derived.Test.YtapgcglpkilofaaDiskTwo
import Derived.Test.YtapgcglpkilofaaOpenRows
namespace Go.Proofs.Ytapgcglpkilofaa
open Go.RowKit

theorem Try.info22w : (Try.prog.info? 22).map (fun i => (i.zero, i.size, i.bytes)) = some (some (.slice none 0 0), 1, 24) := by kernel_rfl
theorem own_own_ne {w : World} {b b' e e' n n' : Nat} {v v' : Value} {xs xs' : List Value} (h : w.ownsRow b e 1 v n xs) (h' : w.ownsRow b' e' 1 v' n' xs') (hne : e ≠ e') : ∀ k, v.ownBlock = some k → v'.ownBlock ≠ some k := by
  intro k hk hk'
  rcases h'.2 with ⟨rfl, _⟩ | ⟨g, cap, cur, rfl, _, hh, _⟩
  · simp [Value.ownBlock] at hk'
  · have : g = k := by simpa [Value.ownBlock] using hk'
    subst this
    exact own_blk_ne h (show Blk w g e' cur from hh) hne hk

/-- What was lent, k of them. -/
structure LentAll (w0 w : World) (G : Option Addr) (k gc : Nat) (ls : List (List Nat)) (rows : List Value) : Prop where
  own : w.ownsRow w0.heap.size 22 1 (.slice G k gc) k rows
  each : ∀ i, i < k → ∀ h : i < ls.length, ∃ A c, rows[i]? = some (Value.slice A ls[i].length c) ∧ w.ownsRow w0.heap.size 5 1 (.slice A (ls[i].length + 1) c) (ls[i].length + 1) (byts (ls[i] ++ [165]))
  apart : ∀ (i j : Nat) (A : Option Addr) (n c : Nat) (A' : Option Addr) (n' c' b : Nat), i < j → rows[i]? = some (Value.slice A n c) → rows[j]? = some (Value.slice A' n' c') → blkOf A = some b → blkOf A' ≠ some b
theorem LentAll.step {w0 w w1 w2 : World} {G A2 G2 : Option Addr} {k gc n c2 gc2 : Nat} {ls : List (List Nat)} {rows : List Value} {o : Obj} (h : LentAll w0 w G k gc ls rows) (h0 : Below w0.heap.size w0 w) (hk : k < ls.length) (hn : ls[k].length = n)
    (o1 : w1.ownsRow w.heap.size 5 1 (.slice A2 (n + 1) c2) (n + 1) (byts (ls[k] ++ [165]))) (m1 : Below w.heap.size w w1)
    (o2 : w2.ownsRow w0.heap.size 22 1 (.slice G2 (k + 1) gc2) (k + 1) (rows ++ [.slice A2 n c2])) (g2 : (w1.alloc o).grownBy w2 (Value.slice G k gc).ownBlock) :
    LentAll w0 w2 G2 (k + 1) gc2 ls (rows ++ [.slice A2 n c2]) := by
  have hlen : rows.length = k := by have := h.own.1; omega
  have fa : Fr noB w (w1.alloc o) := (Fr.of_new m1).alloc o
  have hG := own_fr h.own fa fun _ _ e => e
  have o1a := own_fr (S := noB) o1 ((Fr.refl _ w1).alloc o) fun _ _ e => e
  have fg : Fr (fun b => (Value.slice G k gc).ownBlock = some b) (w1.alloc o) w2 := Fr.of_grown g2 fun _ e => e
  have last : (rows ++ [Value.slice A2 n c2])[k]? = some (.slice A2 n c2) := by rw [List.getElem?_append_right (by omega), hlen, Nat.sub_self]; rfl
  refine ⟨o2, fun i hi hl => ?_, fun i j A n' c' A' n'' c'' b hij hi hj hb hb' => ?_⟩
  · by_cases hik : i < k
    · obtain ⟨A, c, e, ho⟩ := h.each i hik hl
      have hoa := own_fr ho fa fun _ _ e => e
      exact ⟨A, c, by rw [List.getElem?_append_left (by omega)]; exact e, own_fr hoa fg fun b hb e => own_own_ne hoa hG (by decide) b hb e⟩
    · obtain rfl : i = k := by omega
      subst hn
      exact ⟨A2, c2, last, own_fr (own_mono o1a h0.size) fg fun b hb e => own_own_ne o1a hG (by decide) b hb e⟩
  · have hjk : j < k + 1 := by
      have := (List.getElem?_eq_some_iff.1 hj).1
      rw [List.length_append, hlen] at this
      exact this
    rw [List.getElem?_append_left (by omega)] at hi
    by_cases hj2 : j < k
    · rw [List.getElem?_append_left (by omega)] at hj
      exact h.apart i j A n' c' A' n'' c'' b hij hi hj hb hb'
    · obtain rfl : j = k := by omega
      rw [last] at hj
      injection hj with hj
      injection hj with e1 e2 e3
      subst e1
      obtain ⟨A3, c3, e, ho⟩ := h.each i (by omega) (by omega)
      rw [hi] at e
      injection e with e
      injection e with e1 e2 e3
      subst e1
      have h1 := (ho.lt b (by rw [ownBlock_slice]; exact hb)).2
      have h2 := (o1.lt b (by rw [ownBlock_slice]; exact hb')).1
      omega
/-- A slice of what was lent, as it reads. -/
theorem own_front {w : World} {b n c : Nat} {A : Option Addr} {l : List Nat} (h : w.ownsRow b 5 1 (.slice A (n + 1) c) (n + 1) (byts (l ++ [165]))) (hl : l.length = n) : Reads w w.heap.size 1 A n (byts l) := by
  have := Reads.of_own (own_take h (k := n) (by omega))
  rwa [byts_append, ← hl, ← byts_length l, List.take_left, byts_length, hl] at this
theorem LentAll.reads {w0 w : World} {G : Option Addr} {gc : Nat} {ls : List (List Nat)} {rows : List Value} (h : LentAll w0 w G ls.length gc ls rows) (hls : ∀ l ∈ ls, l.length ≤ 140737488351240 ∧ Small l) : Reads2 w w.heap.size G ls.length ls := by
  refine ⟨rfl, fun k hk => ?_⟩
  obtain ⟨A, c, e, ho⟩ := h.each k hk hk
  obtain ⟨g, rfl, _, hg, hc, _, _⟩ := own_open h.own (by omega)
  have hl := hls _ (List.getElem_mem hk)
  exact ⟨_, A, c, rfl, hg, by rw [addr_add]; exact hc k _ e, own_front ho rfl, hl.2, by omega⟩
theorem LentAll.new {w0 w w' : World} {G : Option Addr} {k gc : Nat} {ls : List (List Nat)} {rows : List Value} (h : LentAll w0 w G k gc ls rows) (hb : Below w.heap.size w w') : LentAll w0 w' G k gc ls rows :=
  ⟨own_fr (S := noB) h.own (Fr.of_new hb) fun _ _ e => e, fun i hi hl => by
    obtain ⟨A, c, e, ho⟩ := h.each i hi hl
    exact ⟨A, c, e, own_fr (S := noB) ho (Fr.of_new hb) fun _ _ e => e⟩, h.apart⟩
/-- .. of which k were looked at again. -/
structure LentFrom (w0 w : World) (H : Nat) (G : Option Addr) (m gc : Nat) (ls : List (List Nat)) (rows : List Value) (k : Nat) : Prop where
  own : w.ownsRow w0.heap.size 22 1 (.slice G m gc) m rows
  each : ∀ i, k ≤ i → i < m → ∀ h : i < ls.length, ∃ A c, rows[i]? = some (Value.slice A ls[i].length c) ∧ w.ownsRow w0.heap.size 5 1 (.slice A (ls[i].length + 1) c) (ls[i].length + 1) (byts (ls[i] ++ [165])) ∧ ∀ b, blkOf A = some b → b < H
  apart : ∀ (i j : Nat) (A : Option Addr) (n c : Nat) (A' : Option Addr) (n' c' b : Nat), i < j → rows[i]? = some (Value.slice A n c) → rows[j]? = some (Value.slice A' n' c') → blkOf A = some b → blkOf A' ≠ some b
theorem LentAll.from_ {w0 w : World} {G : Option Addr} {k gc : Nat} {ls : List (List Nat)} {rows : List Value} (h : LentAll w0 w G k gc ls rows) {w' : World} {H : Nat} (hb : Below w.heap.size w w') (hH : w.heap.size ≤ H) : LentFrom w0 w' H G k gc ls rows 0 :=
  ⟨(h.new hb).own, fun i _ hi hl => by
    obtain ⟨A, c, e, ho⟩ := h.each i hi hl
    exact ⟨A, c, e, own_fr (S := noB) ho (Fr.of_new hb) fun _ _ e => e, fun b hb => Nat.lt_of_lt_of_le (ho.lt b (by rw [ownBlock_slice]; exact hb)).2 hH⟩, h.apart⟩
theorem LentFrom.drew {w0 w : World} {H : Nat} {G : Option Addr} {m gc k : Nat} {ls : List (List Nat)} {rows : List Value} (h : LentFrom w0 w H G m gc ls rows k) : LentFrom w0 w.drew H G m gc ls rows k := ⟨h.own, h.each, h.apart⟩
theorem LentFrom.step {w0 w w' : World} {H : Nat} {G A : Option Addr} {m gc k c : Nat} {ls : List (List Nat)} {rows : List Value} (h : LentFrom w0 w H G m gc ls rows k) (hk : k < ls.length) (hA : rows[k]? = some (Value.slice A ls[k].length c))
    (ho : w.ownsRow w0.heap.size 5 1 (.slice A (ls[k].length + 1) c) (ls[k].length + 1) (byts (ls[k] ++ [165]))) (hf : Fr (fun b => blkOf A = some b) w w') : LentFrom w0 w' H G m gc ls rows (k + 1) := by
  refine ⟨own_fr h.own hf fun b hb e => own_own_ne ho h.own (by decide) b (by rw [ownBlock_slice]; exact e) hb, fun i hi hm hl => ?_, h.apart⟩
  obtain ⟨A', c', e, ho', hlt⟩ := h.each i (by omega) hm hl
  exact ⟨A', c', e, own_fr ho' hf fun b hb e2 => h.apart k i A _ c A' _ c' b (by omega) hA e e2 (bk_of hb), hlt⟩

set_option maxHeartbeats 16000000 in
set_option maxRecDepth 100000 in
theorem diskPlays_walk (w : World) (z : Int) (Al : Option Addr) (nl cl : Nat) (log : List Nat) (As : Option Addr) (ns cs : Nat) (ls : List (List Nat)) (A1 : Option Addr) (n1 c1 : Nat) (R : Nat → List Value)
    (hl : Reads w w.heap.size 1 Al nl (byts log)) (hsl : Small log) (hnl : nl ≤ 1048576) (hS : Reads2 w w.heap.size As ns ls) (hls : ∀ l ∈ ls, l.length ≤ 1048576 ∧ Small l) (hns : ns ≤ 1048576)
    (h1 : RowsAt w w.heap.size A1 n1 3 R) (hR : ∀ i, i < n1 → ∃ (K N : Int) (A : Option Addr) (n c : Nat) (b : List Nat), R i = [.int .i64 K, .int .i64 N, .slice A n c] ∧ Reads w w.heap.size 1 A n (byts b) ∧ Small b ∧ n ≤ 1048576 ∧ -9223372036854775808 ≤ N ∧ N ≤ 9223372036854775807) (hn1 : n1 ≤ 1048576) :
    Calls Try.prog 3 #[.agg #[.int .i64 z, .slice Al nl cl, .slice As ns cs], .slice A1 n1 c1] w fun e w' => e = .returned (.bool true) ∧ Below w.heap.size w w' := by
  obtain ⟨i0, hi, hz0, hz1, hz2⟩ := info_parts Try.info22w
  have hls2 : ∀ l ∈ ls, l.length ≤ 140737488351240 ∧ Small l := fun l h => ⟨by have := (hls l h).1; omega, (hls l h).2⟩
  have hlen := hS.len
  have k0 := Blk.new w 25 #[.int .i64 z, .slice Al nl cl, .slice As ns cs]
  have hb0 : Below w.heap.size w (w.alloc (.cells #[.int .i64 z, .slice Al nl cl, .slice As ns cs] 25)) := (Below.refl _ w).alloc (Nat.le_refl _) _
  obtain ⟨W0, hW0⟩ : ∃ W, w.alloc (.cells #[.int .i64 z, .slice Al nl cl, .slice As ns cs] 25) = W := ⟨_, rfl⟩
  obtain ⟨b0, e0⟩ : ∃ b, w.heap.size = b := ⟨_, rfl⟩
  have hL0 : LentAll w W0 none 0 0 ls [] := ⟨World.ownsRow_nil _ _ _ _, fun i hi => absurd hi (by omega), fun i j A n c A' n' c' b _ h => by simp at h⟩
  rw [hW0] at k0 hb0
  have H0 := Lib.hid (And.intro hL0 (And.intro (e0 ▸ k0) (And.intro hb0 (And.intro hlen (And.intro hS (And.intro hl (And.intro h1 hR)))))))
  clear hL0 k0 hb0 hlen hS hl h1 hR
  go_enter Try.func3, Try.ntmps3
  go_wp2
  go_loopw [5, 6] (fun gv iv wr => ∃ (k : Nat) (G : Option Addr) (gc : Nat) (rows : List Value), k ≤ ns ∧ iv = .int .i64 k ∧ gv = .slice G k gc ∧ Hid (LentAll w wr G k gc ls rows ∧ Blk wr b0 25 #[.int .i64 z, .slice Al nl cl, .slice As ns cs] ∧ Below w.heap.size w wr)) (fun _ iv _ => ns - (intOf iv).toNat)
  case atStart => exact ⟨0, none, 0, [], by omega, rfl, rfl, Lib.hid ⟨H0.out.1, H0.out.2.1, H0.out.2.2.1⟩⟩
  case round =>
  obtain ⟨k, G, gc, rows, hk, rfl, rfl, hH⟩ := hrel
  have y1 := (hH.out.2.1.cell 1).trans rfl
  have y2 := (hH.out.2.1.cell 2).trans rfl
  by_cases hlt : k < ns
  · have k1 : (k : Int) < (ns : Int) := by omega
    have hkl : k < ls.length := by have := H0.out.2.2.2.1; omega
    obtain ⟨ad, A', c', rfl, hab, hc, hr, hs, _⟩ := (H0.out.2.2.2.2.1.below hH.out.2.2).at_ k hkl
    have hlk := (hls _ (List.getElem_mem hkl)).1
    obtain ⟨n, hn⟩ : ∃ n, ls[k].length = n := ⟨_, rfl⟩
    rw [hn] at hc hr hlk
    have cl6 := lent_any wr w.heap.size A' n c' ls[k] hr hH.out.2.2.size (by omega)
    have HN := Lib.hid hn
    clear hr hn
    go_wp2_with (first
      | (go_at_call 6; refine cl6.mono ?_; clear cl6; rintro e w1 ⟨A2, c2, rfl, o1, m1⟩; have hown := own_fr hH.out.1.own ((Fr.of_new (S := noB) m1).alloc (.cells #[.slice A2 n c2] 22)) (fun _ _ e => e); have hro : Reads (w1.alloc (.cells #[.slice A2 n c2] 22)) (w1.heap.size + 1) 1 (some ⟨w1.heap.size, 0, none⟩) 1 [.slice A2 n c2] := ⟨rfl, fun _ => ⟨_, rfl, by simp, fun j u hu => by have hj := (List.getElem?_eq_some_iff.1 hu).1; obtain rfl : j = 0 := (by simpa using hj); rw [addr_add, (Blk.new w1 22 _).cell 0]; exact hu⟩⟩)
      | (at_builtin; refine wpList_append_any _ rfl _ _ 23 rfl w.heap.size 22 i0 (.slice none 0 0) 1 24 Try.underlying23 hi hz0 hz1 hz2 rfl (by decide) _ _ _ rfl hown _ _ 1 _ _ rfl hro ?c1 ?c2 ?c3 ?c4 ?_))
    case c1 => intro u hu; simp at hu; subst hu; rfl
    case c2 => unfold maxLen; omega
    case c3 => omega
    case c4 => simp; have := hH.out.2.2.size; have := m1.size; omega
    intro v2 w2 o2 g2 _
    obtain ⟨G2, gc2, rfl⟩ := own_shape o2
    have HS : Hid (LentAll w w2 G2 (k + 1) gc2 ls (rows ++ [.slice A2 n c2]) ∧ Blk w2 b0 25 #[.int .i64 z, .slice Al nl cl, .slice (some ad) ns cs] ∧ Below w.heap.size w w2) := Lib.hid (by
      have hb := hH.out.2.1
      have ha := (hb.below m1 hb.lt).alloc (.cells #[.slice A2 n c2] 22)
      have hbw := hH.out.2.2
      refine ⟨hH.out.1.step hbw hkl HN.out o1 m1 (by rw [e0]; exact o2) g2, ha.grown g2 (fun e => own_blk_ne hown ha (by decide) e.symm), ?_⟩
      exact ((hbw.trans (m1.mono hbw.size)).alloc (Nat.le_trans hbw.size m1.size) _).grown g2 (by simp; have := hbw.size; have := m1.size; omega) (own_base hown))
    clear o1 m1 hown hro o2 g2
    go_wp2
    go_roundw
    case rel => exact ⟨k + 1, G2, gc2, _, by omega, by go_num, rfl, HS⟩
    case measure => simp [intOf]; omega
  obtain rfl : k = ns := by omega
  have y0 := (hH.out.2.1.cell 0).trans rfl
  have hB := hH.out.2.2
  have cl6 := lent_any wr w.heap.size Al nl cl log (H0.out.2.2.2.2.2.1.below hB) hB.size (by omega)
  go_wp2_with (first
    | (go_at_call 6; refine cl6.mono ?_; clear cl6; rintro e w3 ⟨Am, cm, rfl, om, mm⟩; have hB3 := hB.trans (mm.mono hB.size); have hb3 := hH.out.2.1.below mm hH.out.2.1.lt; have z0 := (hb3.cell 0).trans rfl; have hLr := ((H0.out.2.2.2.1 ▸ hH.out.1).new mm).reads hls2; rw [H0.out.2.2.2.1] at hLr; have c7 := two_of w w3 z Am nl cm log G k gc ls Al cl As cs hB3 (own_front om (by have := H0.out.2.2.2.2.2.1.1; rw [byts_length] at this; omega)) hsl (by omega) hLr H0.out.2.2.2.2.2.1 H0.out.2.2.2.2.1 hls2)
    | (go_at_call 7; refine c7.mono ?_; clear c7; rintro e w4 ⟨vd, ve, rfl, m4, c8⟩; have hb4 := hb3.below m4 hb3.lt; have t0 := (hb4.cell 0).trans rfl; have t1 := (hb4.cell 1).trans rfl; have t2 := (hb4.cell 2).trans rfl)
    | (go_at_call 8; refine c8.mono ?_; clear c8; rintro e w5 ⟨vr, rfl, m5, hT⟩; have hb5 := hb3.below m5 hb3.lt; have s1 := (hb5.cell 1).trans rfl; have om5 := own_fr (S := noB) om (Fr.of_new m5) (fun _ _ e => e); have hB5 := hB3.trans (m5.mono hB3.size); have c9 := left_any w5 wr.heap.size w.heap.size Am Al nl cm cl log om5 (H0.out.2.2.2.2.2.1.below hB5) hsl (by omega))
    | (go_at_call 9; refine c9.mono ?_; clear c9; rintro e w6 ⟨rfl, f6⟩))
  have mB : Below wr.heap.size wr w6 := (mm.trans (m5.mono mm.size)).trans (f6.below (fun b hb => (om.lt b (by rw [ownBlock_slice]; exact hb)).1) (Nat.le_trans mm.size m5.size))
  have hT6 : Two w w6 w3.heap.size vd ve vr := hT.fr f6 fun b hb => ⟨Nat.le_trans hB.size (om.lt b (by rw [ownBlock_slice]; exact hb)).1, (om.lt b (by rw [ownBlock_slice]; exact hb)).2⟩
  have H2 := Lib.hid (And.intro (hH.out.1.from_ mB mm.size) (And.intro hT6 (hH.out.2.1.below mB hH.out.2.1.lt)))
  clear mB hT6 hT f6 om om5 mm m4 m5 hB hB3 hB5 hb3 hb4 hb5 z0 t0 t1 t2 s1 y0 y1 y2 hLr hlt hH
  go_loopw [11, 12] (fun okv iv wr2 => ∃ j : Nat, j ≤ k ∧ iv = .int .i64 j ∧ okv = .bool true ∧ Hid (LentFrom w wr2 w3.heap.size G k gc ls rows j ∧ Two w wr2 w3.heap.size vd ve vr ∧ Blk wr2 b0 25 #[.int .i64 z, .slice Al nl cl, .slice As k cs])) (fun _ iv _ => k - (intOf iv).toNat)
  case atStart => exact ⟨0, by omega, rfl, rfl, H2⟩
  case round =>
  clear H2
  obtain ⟨j, hj, rfl, rfl, H2⟩ := hrel
  by_cases hlt : j < k
  · have q1 : (j : Int) < (k : Int) := by omega
    have q3 : (0 : Int) ≤ (j : Int) := by omega
    have hjl : j < ls.length := by have := H0.out.2.2.2.1; omega
    obtain ⟨hF, hT, hb⟩ := H2.out
    obtain ⟨g, rfl, _, hg, hc, _, _⟩ := own_open hF.own (by omega)
    obtain ⟨A, c, eA, hoA, hlo⟩ := hF.each j (Nat.le_refl _) hlt hjl
    obtain ⟨ad, A', c', hAs, hab, hcc, hr, hs, _⟩ := (H0.out.2.2.2.2.1.below hT.1).at_ j hjl
    subst hAs
    have hll := (hls2 _ (List.getElem_mem hjl)).1
    have x1 : wr.drew.cell? ⟨g, j, none⟩ = some (.slice A ls[j].length c) := hc j _ eA
    have x2 : wr.drew.cell? ⟨b0, 2, none⟩ = some (.slice (some ad) k cs) := (hb.cell 2).trans rfl
    have x3 : wr.drew.cell? (ad.add j) = some (.slice A' ls[j].length c') := hcc
    have c9 := left_any wr.drew w.heap.size w.heap.size A A' ls[j].length c c' ls[j] (own_fr (S := noB) hoA (Fr.refl _ wr).drew fun _ _ e => e) hr.drew hs hll
    have FIN : ∀ w7, Fr (fun b => blkOf A = some b) wr.drew w7 → Hid (LentFrom w w7 w3.heap.size (some ⟨g, 0, none⟩) k gc ls rows (j + 1) ∧ Two w w7 w3.heap.size vd ve vr ∧ Blk w7 b0 25 #[.int .i64 z, .slice Al nl cl, .slice (some ad) k cs]) := fun w7 f7 => Lib.hid (by
      have hoD := own_fr (S := noB) hoA (Fr.refl _ wr).drew fun _ _ e => e
      refine ⟨hF.drew.step hjl eA hoD f7, (hT.new (Below.refl _ wr).drew).fr f7 (fun b hb => ⟨(hoA.lt b (by rw [ownBlock_slice]; exact hb)).1, hlo b hb⟩), ?_⟩
      exact (show Blk wr.drew b0 25 _ from hb).fr f7 fun e => own_blk_ne hoA hb (by decide) (by rw [ownBlock_slice]; exact e))
    obtain ⟨nj, hnj⟩ : ∃ n, ls[j].length = n := ⟨_, rfl⟩
    rw [hnj] at x1 x3 c9
    clear hF hT hb hc hoA hlo hcc hr hnj eA hll H2
    go_wp2
    go_region_law (first | (go_simp; go_at_call 9; refine c9.mono ?_; clear c9; rintro e w7 ⟨rfl, f7⟩))
    all_goals
      have F7 := FIN w7 f7
      clear f7 FIN
      go_wp2
      go_roundw
      case rel => exact ⟨j + 1, by omega, by go_num, rfl, F7⟩
      case measure => simp [intOf]; omega
  obtain rfl : j = k := by omega
  have HT := Lib.hid H2.out.2.1
  clear H2
  go_upto_region 14 with (fail)
  go_cut [101] from 71 to 101 (fun v wx => v = .bool false ∧ Hid (Two w wx w3.heap.size vd ve vr))
  case first =>
    have hT := HT.out
    have ct := hT.tells
    obtain ⟨_, ⟨rfl, rfl, rfl⟩ | ⟨p, S, q, T, s, rfl, rfl, rfl, _, _, _⟩⟩ := hT
    · clear HT
      go_wp2_with (go_at_call 10; refine ct.mono ?_; clear ct; rintro e w8 ⟨rfl, h8⟩; have H8 := Lib.hid h8; clear h8)
      go_meet
      exact ⟨rfl, H8⟩
    · clear HT
      go_wp2_with (go_at_call 10; refine ct.mono ?_; clear ct; rintro e w8 ⟨rfl, h8⟩; have H8 := Lib.hid h8; clear h8)
      go_meet
      exact ⟨rfl, H8⟩
  case rest =>
  obtain ⟨rfl, HT8⟩ := hcut
  clear HT
  go_wp2
  go_loopw [8, 10, 13] (fun dv rv iv wr3 => ∃ (i : Nat) (ve' : Value), i ≤ n1 ∧ iv = .int .i64 i ∧ Hid (∃ H, Two w wr3 H dv ve' rv)) (fun _ _ iv _ => n1 - (intOf iv).toNat)
  case atStart => exact ⟨0, ve, by omega, rfl, Lib.hid ⟨_, HT8.out⟩⟩
  case round =>
  clear HT8
  obtain ⟨i, ve', hi1, rfl, HT⟩ := hrel
  by_cases hlt3 : i < n1
  · have q1 : (i : Int) < (n1 : Int) := by omega
    have q3 : (0 : Int) ≤ (i : Int) := by omega
    obtain ⟨ad, rfl, hab, _, hcell⟩ := H0.out.2.2.2.2.2.2.1 i hlt3
    obtain ⟨K, N, A, n, c, b, hRi, hrd, hsb, hnb, hN⟩ := H0.out.2.2.2.2.2.2.2 i hlt3
    obtain ⟨H, hT⟩ := HT.out
    have cN := fun (j : Nat) (v : Value) (hj : (R i)[j]? = some v) => (hT.1.cell (p := (ad.add (i * 3)).add j) (by rw [block_of_add, block_of_add]; exact hab)).trans (hcell j v hj)
    rw [hRi] at cN
    have x0 : wr.cell? (ad.add (i * 3)) = some (.int .i64 K) := cN 0 _ rfl
    have x1 : wr.cell? ((ad.add (i * 3)).add 1) = some (.int .i64 N) := cN 1 _ rfl
    have x2 : wr.cell? ((ad.add (i * 3)).add 2) = some (.slice A n c) := cN 2 _ rfl
    have x4 : wr.cell? ⟨(ad.add (i * 3)).block, (ad.add (i * 3)).off + 1, none⟩ = some (.int .i64 N) := cN 1 _ rfl
    have x5 : wr.cell? ⟨(ad.add (i * 3)).block, (ad.add (i * 3)).off + 2, none⟩ = some (.slice A n c) := cN 2 _ rfl
    have c11 := hT.does K N A n c b hrd hsb (by omega) hN
    clear cN hcell hRi hrd hT HT
    go_wp2_with (first
      | (go_at_call 11; refine c11.mono ?_; clear c11; rintro e w9 ⟨vd2, ve2, vr2, rfl, h9⟩; have c10 := h9.tells; clear h9)
      | (go_at_call 10; refine c10.mono ?_; clear c10; rintro e w10 ⟨rfl, h10⟩; have H10 := Lib.hid h10; clear h10))
    go_roundw
    case rel => exact ⟨i + 1, ve2, by omega, by go_num, Lib.hid ⟨_, H10.out⟩⟩
    case measure => simp [intOf]; omega
  have hBe : Below w.heap.size w wr := by obtain ⟨_, h⟩ := HT.out; exact h.1
  have HB := Lib.hid hBe
  clear HT hBe
  go_wp2_with (go_at_call 12; refine (known_any _).mono ?_; rintro e w12 ⟨rfl, m12⟩)
  go_ret
  exact ⟨rfl, HB.out.trans (m12.mono HB.out.size)⟩
end Go.Proofs.Ytapgcglpkilofaa
