/- The document's window: Give, Copy. Conditions: those that each states. -/
import Derived.Test.YtmdohddiddlpiaaWinRef2
namespace Go.Proofs.Ytmdohddiddlpiaa
open Go.RowKit

theorem Try.info9w : (Try.prog.info? 9).map (fun i => (i.zero, i.size, i.bytes)) = some (some (.string ⟨#[]⟩), 1, 16) := by kernel_rfl
theorem Try.info4w : (Try.prog.info? 4).map (fun i => (i.zero, i.size, i.bytes)) = some (some (.bool false), 1, 1) := by kernel_rfl
theorem reads_str (w : World) (x : ByteArray) : Reads (w.alloc (.cells #[.string x] 9)) (w.heap.size + 1) 1 (some ⟨w.heap.size, 0, none⟩) 1 (strsV [x]) := by
  refine ⟨by simp [strsV], fun _ => ⟨_, rfl, by simp, fun j u hu => ?_⟩⟩
  rw [addr_add, (Blk.new w 9 _).cell j]
  simpa [strsV] using hu
theorem reads_bool (w : World) (x : Bool) : Reads (w.alloc (.cells #[.bool x] 4)) (w.heap.size + 1) 1 (some ⟨w.heap.size, 0, none⟩) 1 (boolsV [x]) := by
  refine ⟨by simp [boolsV], fun _ => ⟨_, rfl, by simp, fun j u hu => ?_⟩⟩
  rw [addr_add, (Blk.new w 4 _).cell j]
  simpa [boolsV] using hu
/-- Two rows of unlike types lie apart. -/
theorem own_apartT {w : World} {b1 b2 n1 n2 e1 e2 s1 s2 : Nat} {v1 v2 : Value} {x1 x2 : List Value} (h1 : w.ownsRow b1 e1 s1 v1 n1 x1) (h2 : w.ownsRow b2 e2 s2 v2 n2 x2) (hne : e1 ≠ e2) {k : Nat} (hk : v1.ownBlock = some k) : v2.ownBlock ≠ some k := by
  rcases h1.2 with ⟨rfl, _⟩ | ⟨g', cap, cur, rfl, _, hh, _⟩
  · cases hk
  · have : g' = k := by simpa [Value.ownBlock] using hk
    subst this
    exact own_blk_ne h2 (show Blk w g' e1 cur from hh) (Ne.symm hne)

section
variable (w : World) (base q : Nat) (A : Option Addr) (c : Nat) (B : Option Addr) (d size : Nat) (th : List ByteArray) (bk : List Bool) (h : RfW w base q A c B d size th bk)
include h

set_option maxRecDepth 100000 in
theorem rGiveFull (x : ByteArray) (hl : th.length = mk bk + size) : Calls Try.prog 36 #[.pointer (some ⟨q, 0, none⟩), .string x] w fun e w' => e = .returned (.tuple #[.int .i64 0, .int .i64 7]) ∧ ∃ j, w' = w.drewN j := by
  have c0 := h.c0
  have c1 := h.c1
  have hm := fun j => rMark (w.drewN j) base q A c B d size th bk (h.new (below_drewN (Below.refl _ w) j))
  have hfew := h.few
  have hlen := h.len
  have hsz := h.sz
  obtain ⟨M, hM⟩ : ∃ M, mk bk = M := ⟨_, rfl⟩
  obtain ⟨n, hn⟩ : ∃ n, th.length = n := ⟨_, rfl⟩
  simp only [hM] at hm hl
  rw [hn] at c1 hl hlen
  have u1 : IntKind.i64.wrap ((n : Int) + 1) = (n : Int) + 1 := IntWalk.i64_in _ (by omega)
  have u2 : IntKind.i64.wrap ((n : Int) + 1 - (M : Int)) = (n : Int) + 1 - (M : Int) := IntWalk.i64_in _ (by omega)
  have q1 : (size : Int) < (n : Int) + 1 - (M : Int) := by omega
  clear h hM hn hl hlen
  go_enter Try.func36, Try.ntmps36
  go_wp2
  go_quiet ((go_at_call 20; exact quiet_left (hm _)))
  go_wp2
  go_ret2
  exact ⟨rfl, _, rfl⟩

set_option maxHeartbeats 1000000 in
set_option maxRecDepth 100000 in
theorem rGive (x : ByteArray) (hl : th.length < mk bk + size) (hb : base ≤ w.heap.size) (hf : th.length < 99999) : Calls Try.prog 36 #[.pointer (some ⟨q, 0, none⟩), .string x] w fun e w' => e = .returned (.tuple #[.int .i64 (th.length + 1 : Nat), .int .i64 0]) ∧
    ∃ A' c' B' d', RfW w' base q A' c' B' d' size (th ++ [x]) (bk ++ [false]) ∧ (∀ k, blkOf A' = some k → blkOf A = some k ∨ w.heap.size ≤ k) ∧ (∀ k, blkOf B' = some k → blkOf B = some k ∨ w.heap.size ≤ k) ∧ Fr (ftR q A B) w w' := by
  obtain ⟨i9, hi, hz0, hz1, hz2⟩ := info_parts Try.info9w
  obtain ⟨i4, hj, hy0, hy1, hy2⟩ := info_parts Try.info4w
  have c0 := h.c0
  have c1 := h.c1
  have hm := fun j => rMark (w.drewN j) base q A c B d size th bk (h.new (below_drewN (Below.refl _ w) j))
  have hfew := h.few
  have hlen := h.len
  have hsz := h.sz
  have hmle := mk_le bk
  obtain ⟨M, hM⟩ : ∃ M, mk bk = M := ⟨_, rfl⟩
  obtain ⟨n, hn⟩ : ∃ n, th.length = n := ⟨_, rfl⟩
  simp only [hM] at hm hl hmle
  rw [hn] at c1 hl hlen hf ⊢
  have u1 : IntKind.i64.wrap ((n : Int) + 1) = (n : Int) + 1 := IntWalk.i64_in _ (by omega)
  have u2 : IntKind.i64.wrap ((n : Int) + 1 - (M : Int)) = (n : Int) + 1 - (M : Int) := IntWalk.i64_in _ (by omega)
  have q1 : decide ((size : Int) < (n : Int) + 1 - (M : Int)) = false := decide_eq_false (by omega)
  have H := Lib.hid h
  have HN := Lib.hid hn
  have HLN := Lib.hid hlen
  have hbl : bk.length ≤ 99999 := by omega
  clear h hM hn hl hlen
  go_enter Try.func36, Try.ntmps36
  go_wp2
  go_quiet ((go_at_call 20; exact quiet_left (hm _)))
  generalize hw : w.drewN _ = w0
  have hb0 : Below w.heap.size w w0 := by subst hw; exact below_drewN (Below.refl _ w) _
  have hs0 : w.heap.size ≤ w0.heap.size := hb0.size
  have h0 := H.out.new hb0
  have o1 := h0.o1
  rw [HN.out] at o1
  have k0 := h0.blk
  rw [HN.out] at k0
  clear hw hm c0 c1 q1 u1 u2
  have d1 := (k0.cell 1).trans rfl
  have o1a := o1.alloc (.cells #[.string x] 9)
  have r1 := reads_str w0 x
  go_wp2_with (at_builtin; refine wpList_append_any _ rfl _ _ 42 rfl base 9 i9 (.string ⟨#[]⟩) 1 16 Try.underlying42 hi hz0 hz1 hz2 rfl (by decide) _ _ _ rfl o1a _ _ 1 _ _ rfl r1 ?c1 ?c2 ?c3 ?c4 ?_)
  case c1 => exact strsV_one _
  case c2 => unfold maxLen; omega
  case c3 => omega
  case c4 => rw [World.size_alloc]; omega
  intro v1 w1 p1 g1 at1
  obtain ⟨A1, a1, rfl⟩ := own_shape p1
  rw [show strsV th ++ strsV [x] = strsV (th ++ [x]) by simp [strsV]] at p1
  have m1 : Below w0.heap.size w0 (w0.alloc (.cells #[.string x] 9)) := (Below.refl _ w0).alloc (Nat.le_refl _) _
  have fA : Fr (fun k => blkOf A = some k) w0 w1 := ((Fr.refl (fun k => blkOf A = some k) w0).alloc _).grown g1 (fun k _ hk => by rw [ownBlock_slice] at hk; exact hk)
  have k1 : Blk w1 q 45 #[.int .i64 size, .slice A n c, .slice B bk.length d] := (k0.alloc (.cells #[.string x] 9)).grown g1 (fun e => own_blk_ne o1a (k0.alloc _) (by decide) e.symm)
  have p2 : w1.ownsRow base 4 1 (.slice B bk.length d) bk.length (boolsV bk) := own_fr h0.o2 fA (fun k hk e => own_apartT h0.o2 o1 (by decide) hk (by rw [ownBlock_slice]; exact e))
  have e1 := (k1.cell 1).trans rfl
  have g1' := k1.frozen 1
  obtain ⟨w2, hw2⟩ : ∃ w2, w1.setCell ⟨q, 1, none⟩ (.slice A1 (n + 1) a1) = w2 := ⟨_, rfl⟩
  have k2 : Blk w2 q 45 #[.int .i64 size, .slice A1 (n + 1) a1, .slice B bk.length d] := by rw [← hw2]; exact k1.set_ 1 (.slice A1 (n + 1) a1)
  have fQ : Fr (fun k => k = q) w1 w2 := by rw [← hw2]; exact (Fr.refl (fun k => k = q) w1).setCell (p := ⟨q, 1, none⟩) (fun _ => rfl) _
  have p1q : w2.ownsRow base 9 1 (.slice A1 (n + 1) a1) (n + 1) (strsV (th ++ [x])) := own_fr p1 fQ (fun k hk e => by subst e; exact own_blk_ne p1 k1 (by decide) hk)
  have p2q : w2.ownsRow base 4 1 (.slice B bk.length d) bk.length (boolsV bk) := own_fr p2 fQ (fun k hk e => by subst e; exact own_blk_ne p2 k1 (by decide) hk)
  have f2 : Fr (ftR q A B) w w2 := ((Fr.of_new hb0).trans' ((fA.mono (fun k _ e => .inr (.inl e))).trans fQ (fun k _ e => .inl e)))
  have s2 := f2.size
  have k2c := (k2.cell 2).trans rfl
  have o2a := p2q.alloc (.cells #[.bool false] 4)
  have r2 := reads_bool w2 false
  have at1' := own_at at1
  have HA := Lib.hid (And.intro p1q (And.intro at1' (And.intro f2 p2q)))
  have HK := Lib.hid k2
  clear p1 g1 m1 fA k1 p2 fQ p1q at1 at1' f2 k2 p2q o1a r1 o1 k0 d1 h0
  go_wp2_with (at_builtin; refine wpList_append_any _ rfl _ _ 43 rfl base 4 i4 (.bool false) 1 1 Try.underlying43 hj hy0 hy1 hy2 rfl (by decide) _ _ _ rfl o2a _ _ 1 _ _ rfl r2 ?c1 ?c2 ?c3 ?c4 ?_)
  case c1 => exact boolsV_one _
  case c2 => unfold maxLen; omega
  case c3 => omega
  case c4 => rw [World.size_alloc]; omega
  intro v3 w3 p3 g3 at3
  obtain ⟨A3, a3, rfl⟩ := own_shape p3
  rw [show boolsV bk ++ boolsV [false] = boolsV (bk ++ [false]) by simp [boolsV]] at p3
  have k2 := HK.out
  have fB : Fr (fun k => blkOf B = some k) w2 w3 := ((Fr.refl (fun k => blkOf B = some k) w2).alloc _).grown g3 (fun k _ hk => by rw [ownBlock_slice] at hk; exact hk)
  have k3 : Blk w3 q 45 #[.int .i64 size, .slice A1 (n + 1) a1, .slice B bk.length d] := (k2.alloc (.cells #[.bool false] 4)).grown g3 (fun e => own_blk_ne o2a (k2.alloc _) (by decide) e.symm)
  have p3a : w3.ownsRow base 9 1 (.slice A1 (n + 1) a1) (n + 1) (strsV (th ++ [x])) := own_fr HA.out.1 fB (fun k hk e => own_apartT HA.out.1 HA.out.2.2.2 (by decide) hk (by rw [ownBlock_slice]; exact e))
  have e3 := (k3.cell 2).trans rfl
  have g3' := k3.frozen 2
  obtain ⟨w4, hw4⟩ : ∃ w4, w3.setCell ⟨q, 2, none⟩ (.slice A3 (bk.length + 1) a3) = w4 := ⟨_, rfl⟩
  have k4 : Blk w4 q 45 #[.int .i64 size, .slice A1 (n + 1) a1, .slice A3 (bk.length + 1) a3] := by rw [← hw4]; exact k3.set_ 2 (.slice A3 (bk.length + 1) a3)
  have fQ : Fr (fun k => k = q) w3 w4 := by rw [← hw4]; exact (Fr.refl (fun k => k = q) w3).setCell (p := ⟨q, 2, none⟩) (fun _ => rfl) _
  have p4a : w4.ownsRow base 9 1 (.slice A1 (n + 1) a1) (n + 1) (strsV (th ++ [x])) := own_fr p3a fQ (fun k hk e => by subst e; exact own_blk_ne p3a k3 (by decide) hk)
  have p4b : w4.ownsRow base 4 1 (.slice A3 (bk.length + 1) a3) (bk.length + 1) (boolsV (bk ++ [false])) := own_fr p3 fQ (fun k hk e => by subst e; exact own_blk_ne p3 k3 (by decide) hk)
  have f4 : Fr (ftR q A B) w w4 := HA.out.2.2.1.trans' ((fB.mono (fun k _ e => .inr (.inr e))).trans fQ (fun k _ e => .inl e))
  have at3' := own_at at3
  have k4c := (k4.cell 1).trans rfl
  have hfin : RfW w4 base q A1 a1 A3 a3 size (th ++ [x]) (bk ++ [false]) := by
    have e1 : (th ++ [x]).length = n + 1 := by rw [List.length_append, HN.out]; rfl
    have e2 : (bk ++ [false]).length = bk.length + 1 := by rw [List.length_append]; rfl
    exact ⟨by rw [e1, e2]; exact k4, by rw [e1]; exact p4a, by rw [e2]; exact p4b, by rw [e1, e2, HLN.out], by rw [e2]; omega, hsz⟩
  have HF := Lib.hid (And.intro hfin (And.intro at3' f4))
  clear p3 g3 fB k3 p3a fQ p4a p4b f4 at3 at3' k4 o2a r2 k2 hfin
  go_wp2
  go_ret2
  exact ⟨rfl, A1, a1, A3, a3, HF.out.1, fun k hk => (HA.out.2.1 k hk).imp id (fun e => by omega), fun k hk => (HF.out.2.1 k hk).imp id (fun e => by omega), HF.out.2.2⟩
end
end Go.Proofs.Ytmdohddiddlpiaa
