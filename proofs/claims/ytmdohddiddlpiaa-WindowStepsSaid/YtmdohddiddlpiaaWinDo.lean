/- wicketlaw17.do: one step leaves the ring and the lists alike. Conditions: those that each states. -/
import Derived.Test.YtmdohddiddlpiaaWinGoes
import Derived.Test.YtmdohddiddlpiaaWinBackS
import Derived.Test.YtmdohddiddlpiaaWinGetS
import Derived.Test.YtmdohddiddlpiaaWinRef3
import Derived.Test.YtmdohddiddlpiaaWinKnown
import Derived.Deep.RegionHeld3
namespace Go.Proofs.Ytmdohddiddlpiaa
open Go.RowKit Go.Shelf

def ft5 (p g q : Nat) (A B : Option Addr) : Nat → Prop := fun k => (k = p ∨ k = g) ∨ ftR q A B k
/-- A ring and lists that go alike. -/
def PW (w : World) (base n p g q : Nat) (A B : Option Addr) (k : Nat) : Prop :=
  ∃ c o v m l a b th bk, RWS w p g n c o v m l ∧ RfW w base q A a B b n th bk ∧ Rel n o v m l th bk ∧ l ≤ k
def DoPost (w : World) (base n p g q : Nat) (A B : Option Addr) (k : Nat) (e : Ending) (w' : World) : Prop :=
  e = .returned (.bool true) ∧ ∃ A' B', PW w' base n p g q A' B' k ∧ (∀ i, blkOf A' = some i → blkOf A = some i ∨ w.heap.size ≤ i) ∧ (∀ i, blkOf B' = some i → blkOf B = some i ∨ w.heap.size ≤ i) ∧ Fr (ft5 p g q A B) w w'

theorem own_blk_lt {w : World} {base e size n : Nat} {u : Value} {xs : List Value} (h : w.ownsRow base e size u n xs) {k : Nat} (hk : u.ownBlock = some k) : k < w.heap.size := by
  rcases h.2 with ⟨rfl, _⟩ | ⟨g, cap, cur, rfl, _, hh, _⟩
  · simp [Value.ownBlock] at hk
  · have : g = k := by simpa [Value.ownBlock] using hk
    subst this
    exact (Array.getElem?_eq_some_iff.1 hh).1

section
variable {w w' : World} {base p g q n c : Nat} {o : Nat → Bool} {v : Nat → ByteArray} {m l : Nat} {A : Option Addr} {a : Nat} {B : Option Addr} {b : Nat} {th : List ByteArray} {bk : List Bool}
theorem pair_apart (h : RWS w p g n c o v m l) (hr : RfW w base q A a B b n th bk) : ∀ k, ftR q A B k → ¬ (k = p ∨ k = g) := by
  obtain ⟨cur, hg, _⟩ := h.ring
  rintro k (rfl | hA | hB) (rfl | rfl)
  · exact hr.blk.ne_ h.win (by decide) rfl
  · exact hr.blk.ne_ hg (by decide) rfl
  · exact own_blk_ne hr.o1 h.win (by decide) (by rw [ownBlock_slice]; exact hA)
  · exact own_blk_ne hr.o1 hg (by decide) (by rw [ownBlock_slice]; exact hA)
  · exact own_blk_ne hr.o2 h.win (by decide) (by rw [ownBlock_slice]; exact hB)
  · exact own_blk_ne hr.o2 hg (by decide) (by rw [ownBlock_slice]; exact hB)
theorem pair_ring (h : RWS w p g n c o v m l) (hr : RfW w base q A a B b n th bk) (hf : Fr (fun k => k = p ∨ k = g) w w') : RfW w' base q A a B b n th bk :=
  hr.fr hf (pair_apart h hr q (.inl rfl)) (fun k hk => pair_apart h hr k (.inr (.inl hk))) (fun k hk => pair_apart h hr k (.inr (.inr hk)))
theorem pair_lists (h : RWS w p g n c o v m l) (hr : RfW w base q A a B b n th bk) (hf : Fr (ftR q A B) w w') : RWS w' p g n c o v m l :=
  h.fr hf (fun hh => pair_apart h hr p hh (.inl rfl)) (fun hh => pair_apart h hr g hh (.inr rfl))
end

section
variable (w : World) (base p g q n c : Nat) (o : Nat → Bool) (v : Nat → ByteArray) (m l : Nat) (A : Option Addr) (a : Nat) (B : Option Addr) (b : Nat) (th : List ByteArray) (bk : List Bool)
  (h : RWS w p g n c o v m l) (hr : RfW w base q A a B b n th bk) (hrel : Rel n o v m l th bk) (hb : base ≤ w.heap.size) (hl : l < 99999) (N : Int) (T : ByteArray)
include h hr hrel hb

include hl in
set_option maxRecDepth 100000 in
theorem do_1 : Calls Try.prog 18 #[.pointer (some ⟨p, 0, none⟩), .pointer (some ⟨q, 0, none⟩), .agg #[.int .i64 1, .int .i64 N, .string T]] w (DoPost w base n p g q A B (l + 1)) := by
  obtain ⟨W1, hW1⟩ : ∃ W1, w.alloc (.cells #[.int .i64 1, .int .i64 N, .string T] 47) = W1 := ⟨_, rfl⟩
  obtain ⟨b0, e0⟩ : ∃ b0, w.heap.size = b0 := ⟨_, rfl⟩
  have k0 := Blk.new w 47 #[.int .i64 1, .int .i64 N, .string T]
  have f0 : Fr (ft5 p g q A B) w (w.alloc (.cells #[.int .i64 1, .int .i64 N, .string T] 47)) := (Fr.refl _ w).alloc _
  rw [hW1] at k0 f0
  rw [e0] at k0
  have fn : Below w.heap.size w W1 := by rw [← hW1]; exact (Below.refl _ w).alloc (Nat.le_refl _) _
  have h1 := h.fr (S := noB) (Fr.of_new fn) (fun h => h) (fun h => h)
  have hr1 := hr.new fn
  have d0 := (k0.cell 0).trans rfl
  have d2 := (k0.cell 2).trans rfl
  have hb1 : base ≤ W1.heap.size := Nat.le_trans hb fn.size
  have hn := fun V => num_any V
  have hne : ¬ (b0 = p ∨ b0 = g) := by have := h.ltp; have := h.ltg; omega
  have HF := Lib.hid f0
  have hml := hrel.mks
  have htl := hrel.tl
  by_cases hfull : l = m + n
  · have gf := giveFullS W1 p g n c o v m l h1 T hfull
    have rf := fun j => rGiveFull (W1.drewN j) base q A a B b n th bk (hr1.new (below_drewN (Below.refl _ _) j)) T (by omega)
    have hend : Hid (∀ i e, e = .returned (.bool true) → DoPost w base n p g q A B (l + 1) e (W1.drewN i)) := Lib.hid fun i e he => ⟨he, A, B, ⟨c, o, v, m, l, a, b, th, bk, h1.drewN i, hr1.new (below_drewN (Below.refl _ _) i), hrel, by omega⟩, fun _ e => .inl e, fun _ e => .inl e, HF.out.drewN i⟩
    clear h hr hrel h1 hr1 fn HF hfull htl hml
    go_enter Try.func18, Try.ntmps18
    go_wp2_with (first
      | (go_at_call 27; refine gf.mono ?_; clear gf; rintro e w' ⟨rfl, i, rfl⟩)
      | (go_at_call 36; refine (rf _).mono ?_; clear rf; rintro e w' ⟨rfl, j, rfl⟩)
      | (go_at_call 10; refine (hn _ _).mono ?_; rintro e w' ⟨rfl, rfl⟩))
    go_ret
    exact hend.out _ _ rfl
  · have gf := giveS W1 p g n c o v m l h1 T (by have := h.span; omega) (by omega)
    have rg := fun V (hV : Fr (fun k => k = p ∨ k = g) W1 V) => rGive V base q A a B b n th bk (pair_ring h1 hr1 hV) T (by have := h.span; omega) (Nat.le_trans hb1 hV.size) (by omega)
    have hnew := hrel.give T (by have := h.span; omega)
    have hap := pair_apart h1 hr1
    rw [htl] at rg
    have hend : Hid (∀ V Z A' B' a' b', RWS V p g n c (upd o ((l + 1) % n) true) (upd v ((l + 1) % n) T) m (l + 1) → Fr (fun k => k = p ∨ k = g) W1 V → RfW Z base q A' a' B' b' n (th ++ [T]) (bk ++ [false]) →
        (∀ k, blkOf A' = some k → blkOf A = some k ∨ V.heap.size ≤ k) → (∀ k, blkOf B' = some k → blkOf B = some k ∨ V.heap.size ≤ k) → Fr (ftR q A B) V Z → ∀ e, e = .returned (.bool true) → DoPost w base n p g q A B (l + 1) e Z) := Lib.hid fun V Z A' B' a' b' hV fV hZ e1 e2 fZ e he =>
      ⟨he, A', B', ⟨c, _, _, _, _, a', b', _, _, hV.fr fZ (fun hh => hap p hh (.inl rfl)) (fun hh => hap g hh (.inr rfl)), hZ, hnew, Nat.le_refl _⟩,
        fun i hi => (e1 i hi).imp id (fun hh => Nat.le_trans (Nat.le_trans HF.out.size fV.size) hh), fun i hi => (e2 i hi).imp id (fun hh => Nat.le_trans (Nat.le_trans HF.out.size fV.size) hh),
        (HF.out.trans fV fun _ _ e => .inl e).trans fZ fun _ _ e => .inr e⟩
    clear h hr hrel h1 hr1 fn HF hfull htl hml hnew hap
    go_enter Try.func18, Try.ntmps18
    go_wp2_with (first
      | (go_at_call 27; refine gf.mono ?_; clear gf; rintro e V ⟨rfl, hV, fV⟩; have dV : V.cell? ⟨b0, 2, none⟩ = some (.string T) := ((k0.fr fV hne).cell 2).trans rfl)
      | (go_at_call 36; refine (rg _ fV).mono ?_; clear rg; rintro e Z ⟨rfl, A', a', B', b', hZ, e1, e2, fZ⟩)
      | (go_at_call 10; refine (hn _ _).mono ?_; rintro e w' ⟨rfl, rfl⟩))
    go_ret
    exact hend.out _ _ _ _ _ _ hV fV hZ e1 e2 fZ _ rfl
set_option maxRecDepth 100000 in
set_option maxHeartbeats 1000000 in
theorem do_2 : Calls Try.prog 18 #[.pointer (some ⟨p, 0, none⟩), .pointer (some ⟨q, 0, none⟩), .agg #[.int .i64 2, .int .i64 N, .string T]] w (DoPost w base n p g q A B (l + 1)) := by
  obtain ⟨W1, hW1⟩ : ∃ W1, w.alloc (.cells #[.int .i64 2, .int .i64 N, .string T] 47) = W1 := ⟨_, rfl⟩
  obtain ⟨b0, e0⟩ : ∃ b0, w.heap.size = b0 := ⟨_, rfl⟩
  have k0 := Blk.new w 47 #[.int .i64 2, .int .i64 N, .string T]
  have f0 : Fr (ft5 p g q A B) w (w.alloc (.cells #[.int .i64 2, .int .i64 N, .string T] 47)) := (Fr.refl _ w).alloc _
  rw [hW1] at k0 f0
  rw [e0] at k0
  have fn : Below w.heap.size w W1 := by rw [← hW1]; exact (Below.refl _ w).alloc (Nat.le_refl _) _
  have h1 := h.fr (S := noB) (Fr.of_new fn) (fun h => h) (fun h => h)
  have hr1 := hr.new fn
  have d0 := (k0.cell 0).trans rfl
  have d1 := (k0.cell 1).trans rfl
  have d2 := (k0.cell 2).trans rfl
  have hb1 : base ≤ W1.heap.size := Nat.le_trans hb fn.size
  have hn := fun V => num_any V
  have hne : ¬ (b0 = p ∨ b0 = g) := by have := h.ltp; have := h.ltg; omega
  have HF := Lib.hid f0
  have hml := hrel.mks
  have htl := hrel.tl
  have hap := pair_apart h1 hr1
  have hend : Hid (∀ i e, e = .returned (.bool true) → DoPost w base n p g q A B (l + 1) e (W1.drewN i)) := Lib.hid fun i e he => ⟨he, A, B, ⟨c, o, v, m, l, a, b, th, bk, h1.drewN i, hr1.new (below_drewN (Below.refl _ _) i), hrel, by omega⟩, fun _ e => .inl e, fun _ e => .inl e, HF.out.drewN i⟩
  by_cases hz : OutB bk N
  · obtain ⟨z1, z2⟩ := hz
    obtain ⟨j, rfl⟩ : ∃ j : Nat, N = (j : Int) + 1 := ⟨(N - 1).toNat, by omega⟩
    rw [show ((j : Int) + 1).toNat - 1 = j by omega] at z2
    obtain ⟨x, hx, hvx, g1, g2, g3⟩ := hrel.get z2
    have gf := getYesS W1 p g n c o v m l h1 (j + 1) _ g1 g2 rfl g3
    rw [show ((j + 1 : Nat) : Int) = (j : Int) + 1 by omega, hvx] at gf
    have rg := fun i => rGetYes (W1.drewN i) base q A a B b n th bk (hr1.new (below_drewN (Below.refl _ _) i)) j x z2 hx
    clear h hr hrel h1 hr1 fn HF htl hml hap z1 z2 hx hvx g1 g2 g3
    go_enter Try.func18, Try.ntmps18
    go_wp2_with (first
      | (go_at_call 37; refine gf.mono ?_; clear gf; rintro e V ⟨rfl, i, rfl⟩)
      | (go_at_call 38; refine (rg _).mono ?_; clear rg; rintro e w' ⟨rfl, rfl⟩)
      | (go_at_call 10; refine (hn _ _).mono ?_; rintro e w' ⟨rfl, rfl⟩))
    go_ret
    exact hend.out _ _ rfl
  · have gf := getNoS W1 p g n c o v m l h1 N (fun hh => hz ((hrel.isOut N).1 hh))
    have rg := fun i => rGetNo (W1.drewN i) base q A a B b n th bk (hr1.new (below_drewN (Below.refl _ _) i)) N hz
    clear h hr hrel h1 hr1 fn HF htl hml hap hz
    go_enter Try.func18, Try.ntmps18
    go_wp2_with (first
      | (go_at_call 37; refine gf.mono ?_; clear gf; rintro e V ⟨rfl, i, rfl⟩)
      | (go_at_call 38; refine (rg _).mono ?_; clear rg; rintro e w' ⟨rfl, rfl⟩)
      | (go_at_call 10; refine (hn _ _).mono ?_; rintro e w' ⟨rfl, rfl⟩))
    go_ret
    exact hend.out _ _ rfl

set_option maxRecDepth 100000 in
set_option maxHeartbeats 1000000 in
theorem do_3 : Calls Try.prog 18 #[.pointer (some ⟨p, 0, none⟩), .pointer (some ⟨q, 0, none⟩), .agg #[.int .i64 3, .int .i64 N, .string T]] w (DoPost w base n p g q A B (l + 1)) := by
  obtain ⟨W1, hW1⟩ : ∃ W1, w.alloc (.cells #[.int .i64 3, .int .i64 N, .string T] 47) = W1 := ⟨_, rfl⟩
  obtain ⟨b0, e0⟩ : ∃ b0, w.heap.size = b0 := ⟨_, rfl⟩
  have k0 := Blk.new w 47 #[.int .i64 3, .int .i64 N, .string T]
  have f0 : Fr (ft5 p g q A B) w (w.alloc (.cells #[.int .i64 3, .int .i64 N, .string T] 47)) := (Fr.refl _ w).alloc _
  rw [hW1] at k0 f0
  rw [e0] at k0
  have fn : Below w.heap.size w W1 := by rw [← hW1]; exact (Below.refl _ w).alloc (Nat.le_refl _) _
  have h1 := h.fr (S := noB) (Fr.of_new fn) (fun h => h) (fun h => h)
  have hr1 := hr.new fn
  have d0 := (k0.cell 0).trans rfl
  have d1 := (k0.cell 1).trans rfl
  have d2 := (k0.cell 2).trans rfl
  have hb1 : base ≤ W1.heap.size := Nat.le_trans hb fn.size
  have hn := fun V => num_any V
  have hne : ¬ (b0 = p ∨ b0 = g) := by have := h.ltp; have := h.ltg; omega
  have HF := Lib.hid f0
  have hml := hrel.mks
  have htl := hrel.tl
  have hap := pair_apart h1 hr1
  have hend : Hid (∀ i e, e = .returned (.bool true) → DoPost w base n p g q A B (l + 1) e (W1.drewN i)) := Lib.hid fun i e he => ⟨he, A, B, ⟨c, o, v, m, l, a, b, th, bk, h1.drewN i, hr1.new (below_drewN (Below.refl _ _) i), hrel, by omega⟩, fun _ e => .inl e, fun _ e => .inl e, HF.out.drewN i⟩
  have hend2 : Hid (∀ V Z m' o' v' th' bk', RWS V p g n c o' v' m' l → Fr (fun k => k = p ∨ k = g) W1 V → RfW Z base q A a B b n th' bk' → Rel n o' v' m' l th' bk' → Fr (ftR q A B) V Z → ∀ e, e = .returned (.bool true) → DoPost w base n p g q A B (l + 1) e Z) := Lib.hid fun V Z m' o' v' th' bk' hV fV hZ hR fZ e he =>
    ⟨he, A, B, ⟨c, o', v', m', l, a, b, th', bk', hV.fr fZ (fun hh => hap p hh (.inl rfl)) (fun hh => hap g hh (.inr rfl)), hZ, hR, by omega⟩, fun _ e => .inl e, fun _ e => .inl e,
      (HF.out.trans fV fun _ _ e => .inl e).trans fZ fun _ _ e => .inr e⟩
  by_cases hz : OutB bk N
  · obtain ⟨z1, z2⟩ := hz
    obtain ⟨j, rfl⟩ : ∃ j : Nat, N = (j : Int) + 1 := ⟨(N - 1).toNat, by omega⟩
    rw [show ((j : Int) + 1).toNat - 1 = j by omega] at z2
    obtain ⟨x, hx, hvx, g1, g2, g3⟩ := hrel.get z2
    have gf := fun i => setYesS (W1.drewN i) p g n c o v m l (h1.drewN i) (j + 1) _ T g1 g2 rfl g3
    have hnew := hrel.set_ z2 h1.span T
    have HN := Lib.hid hnew
    have rg := fun V (hV : Fr (fun k => k = p ∨ k = g) W1 V) => rSetYes V base q A a B b n th bk (pair_ring h1 hr1 hV) j T z2
    have hnq : ¬ ftR q A B b0 := fun hh => by
      have := hr.blk.lt
      rcases hh with hh | hh | hh
      · omega
      · have := own_blk_lt hr.o1 (by rw [ownBlock_slice]; exact hh); omega
      · have := own_blk_lt hr.o2 (by rw [ownBlock_slice]; exact hh); omega
    rw [show ((j + 1 : Nat) : Int) = (j : Int) + 1 by omega] at gf
    clear h hr hrel h1 hr1 fn HF htl hml hap z1 z2 hx hvx g1 g2 g3 hnew
    go_enter Try.func18, Try.ntmps18
    go_wp2
    go_region_held3 (fun V => V.cell? ⟨b0, 1, none⟩ = some (.int .i64 ((j : Int) + 1)) ∧ V.cell? ⟨b0, 2, none⟩ = some (.string T)) (first | (refine ⟨?_, ?_⟩ <;> assumption) | go_keep) (first
      | (go_at_call 39; refine (gf 1).mono ?_; clear gf; rintro e V ⟨rfl, hV, fV'⟩; have fV := (Fr.refl (fun k => k = p ∨ k = g) W1).drewN 1 |>.trans' fV'; have dV : V.cell? ⟨b0, 1, none⟩ = some (.int .i64 ((j : Int) + 1)) := ((k0.fr fV hne).cell 1).trans rfl; have dV2 : V.cell? ⟨b0, 2, none⟩ = some (.string T) := ((k0.fr fV hne).cell 2).trans rfl)
      | (go_at_call 40; refine (rg _ fV).mono ?_; clear rg; rintro e Z ⟨rfl, hZ, fZ⟩; have dZ : Z.cell? ⟨b0, 1, none⟩ = some (.int .i64 ((j : Int) + 1)) := (((k0.fr fV hne).fr fZ hnq).cell 1).trans rfl; have dZ2 : Z.cell? ⟨b0, 2, none⟩ = some (.string T) := (((k0.fr fV hne).fr fZ hnq).cell 2).trans rfl)
      | (go_at_call 10; refine (hn _ _).mono ?_; rintro e w' ⟨rfl, rfl⟩))
    go_wp2
    go_ret
    exact hend2.out _ _ _ _ _ _ _ hV fV hZ HN.out fZ _ rfl
  · have gf := fun i => setNoS (W1.drewN i) p g n c o v m l (h1.drewN i) N T (fun hh => hz ((hrel.isOut N).1 hh))
    have rg := fun i => rSetNo (W1.drewN i) base q A a B b n th bk (hr1.new (below_drewN (Below.refl _ _) i)) N T hz
    clear h hr hrel h1 hr1 fn HF htl hml hap hz
    go_enter Try.func18, Try.ntmps18
    go_wp2
    go_region_held3 (fun V => V.cell? ⟨b0, 1, none⟩ = some (.int .i64 N) ∧ V.cell? ⟨b0, 2, none⟩ = some (.string T)) (first | (refine ⟨?_, ?_⟩ <;> assumption) | go_keep) (first
      | (go_at_call 39; refine (gf 1).mono ?_; clear gf; rintro e V ⟨rfl, i, rfl⟩; rw [drewN_add])
      | (go_at_call 40; refine (rg _).mono ?_; clear rg; rintro e Z ⟨rfl, rfl⟩)
      | (go_at_call 10; refine (hn _ _).mono ?_; rintro e w' ⟨rfl, rfl⟩))
    go_wp2
    go_ret
    exact hend.out _ _ rfl

set_option maxRecDepth 100000 in
set_option maxHeartbeats 1000000 in
theorem do_4 : Calls Try.prog 18 #[.pointer (some ⟨p, 0, none⟩), .pointer (some ⟨q, 0, none⟩), .agg #[.int .i64 4, .int .i64 N, .string T]] w (DoPost w base n p g q A B (l + 1)) := by
  obtain ⟨W1, hW1⟩ : ∃ W1, w.alloc (.cells #[.int .i64 4, .int .i64 N, .string T] 47) = W1 := ⟨_, rfl⟩
  obtain ⟨b0, e0⟩ : ∃ b0, w.heap.size = b0 := ⟨_, rfl⟩
  have k0 := Blk.new w 47 #[.int .i64 4, .int .i64 N, .string T]
  have f0 : Fr (ft5 p g q A B) w (w.alloc (.cells #[.int .i64 4, .int .i64 N, .string T] 47)) := (Fr.refl _ w).alloc _
  rw [hW1] at k0 f0
  rw [e0] at k0
  have fn : Below w.heap.size w W1 := by rw [← hW1]; exact (Below.refl _ w).alloc (Nat.le_refl _) _
  have h1 := h.fr (S := noB) (Fr.of_new fn) (fun h => h) (fun h => h)
  have hr1 := hr.new fn
  have d0 := (k0.cell 0).trans rfl
  have d1 := (k0.cell 1).trans rfl
  have d2 := (k0.cell 2).trans rfl
  have hb1 : base ≤ W1.heap.size := Nat.le_trans hb fn.size
  have hn := fun V => num_any V
  have hne : ¬ (b0 = p ∨ b0 = g) := by have := h.ltp; have := h.ltg; omega
  have HF := Lib.hid f0
  have hml := hrel.mks
  have htl := hrel.tl
  have hap := pair_apart h1 hr1
  have hend : Hid (∀ i e, e = .returned (.bool true) → DoPost w base n p g q A B (l + 1) e (W1.drewN i)) := Lib.hid fun i e he => ⟨he, A, B, ⟨c, o, v, m, l, a, b, th, bk, h1.drewN i, hr1.new (below_drewN (Below.refl _ _) i), hrel, by omega⟩, fun _ e => .inl e, fun _ e => .inl e, HF.out.drewN i⟩
  have hend2 : Hid (∀ V Z m' o' v' th' bk', RWS V p g n c o' v' m' l → Fr (fun k => k = p ∨ k = g) W1 V → RfW Z base q A a B b n th' bk' → Rel n o' v' m' l th' bk' → Fr (ftR q A B) V Z → ∀ e, e = .returned (.bool true) → DoPost w base n p g q A B (l + 1) e Z) := Lib.hid fun V Z m' o' v' th' bk' hV fV hZ hR fZ e he =>
    ⟨he, A, B, ⟨c, o', v', m', l, a, b, th', bk', hV.fr fZ (fun hh => hap p hh (.inl rfl)) (fun hh => hap g hh (.inr rfl)), hZ, hR, by omega⟩, fun _ e => .inl e, fun _ e => .inl e,
      (HF.out.trans fV fun _ _ e => .inl e).trans fZ fun _ _ e => .inr e⟩
  by_cases hz : OutB bk N
  · obtain ⟨z1, z2⟩ := hz
    obtain ⟨j, rfl⟩ : ∃ j : Nat, N = (j : Int) + 1 := ⟨(N - 1).toNat, by omega⟩
    rw [show ((j : Int) + 1).toNat - 1 = j by omega] at z2
    obtain ⟨x, hx, hvx, g1, g2, g3⟩ := hrel.get z2
    have gf := backYesS W1 p g n c o v m l h1 (j + 1) _ g1 g2 rfl g3
    rw [show ((j + 1 : Nat) : Int) = (j : Int) + 1 by omega, hvx] at gf
    have rg := fun V (hV : Fr (fun k => k = p ∨ k = g) W1 V) => rBackYes V base q A a B b n th bk (pair_ring h1 hr1 hV) j x z2 hx
    have hnew := fun m' (e1 : m ≤ m') (e2 : m' ≤ l) => hrel.back z2 h1.span ⟨#[]⟩ (m' := m') e1 e2
    have HN := Lib.hid hnew
    clear h hr hrel h1 hr1 fn HF htl hml hap z1 z2 hx hvx g1 g2 g3 hnew
    go_enter Try.func18, Try.ntmps18
    go_wp2_with (first
      | (go_at_call 28; refine gf.mono ?_; clear gf; rintro e V ⟨rfl, m', a1, a2, a3, a4, hV, fV⟩; have HA := Lib.hid (HN.out m' a1 a2 a3 a4); clear a1 a2 a3 a4; have dV : V.cell? ⟨b0, 1, none⟩ = some (.int .i64 ((j : Int) + 1)) := ((k0.fr fV hne).cell 1).trans rfl)
      | (go_at_call 41; refine (rg _ fV).mono ?_; clear rg; rintro e Z ⟨rfl, hZ, fZ⟩)
      | (go_at_call 10; refine (hn _ _).mono ?_; rintro e w' ⟨rfl, rfl⟩))
    go_ret
    exact hend2.out _ _ _ _ _ _ _ hV fV hZ HA.out fZ _ rfl
  · have gf := backNoS W1 p g n c o v m l h1 N (fun hh => hz ((hrel.isOut N).1 hh))
    have rg := fun i => rBackNo (W1.drewN i) base q A a B b n th bk (hr1.new (below_drewN (Below.refl _ _) i)) N hz
    clear h hr hrel h1 hr1 fn HF htl hml hap hz
    go_enter Try.func18, Try.ntmps18
    go_wp2_with (first
      | (go_at_call 28; refine gf.mono ?_; clear gf; rintro e V ⟨rfl, i, rfl⟩)
      | (go_at_call 41; refine (rg _).mono ?_; clear rg; rintro e w' ⟨rfl, rfl⟩)
      | (go_at_call 10; refine (hn _ _).mono ?_; rintro e w' ⟨rfl, rfl⟩))
    go_ret
    exact hend.out _ _ rfl

set_option maxRecDepth 100000 in
set_option maxHeartbeats 1000000 in
theorem do_5 : Calls Try.prog 18 #[.pointer (some ⟨p, 0, none⟩), .pointer (some ⟨q, 0, none⟩), .agg #[.int .i64 5, .int .i64 N, .string T]] w (DoPost w base n p g q A B (l + 1)) := by
  obtain ⟨W1, hW1⟩ : ∃ W1, w.alloc (.cells #[.int .i64 5, .int .i64 N, .string T] 47) = W1 := ⟨_, rfl⟩
  obtain ⟨b0, e0⟩ : ∃ b0, w.heap.size = b0 := ⟨_, rfl⟩
  have k0 := Blk.new w 47 #[.int .i64 5, .int .i64 N, .string T]
  have f0 : Fr (ft5 p g q A B) w (w.alloc (.cells #[.int .i64 5, .int .i64 N, .string T] 47)) := (Fr.refl _ w).alloc _
  rw [hW1] at k0 f0
  rw [e0] at k0
  have fn : Below w.heap.size w W1 := by rw [← hW1]; exact (Below.refl _ w).alloc (Nat.le_refl _) _
  have h1 := h.fr (S := noB) (Fr.of_new fn) (fun h => h) (fun h => h)
  have hr1 := hr.new fn
  have d0 := (k0.cell 0).trans rfl
  have d1 := (k0.cell 1).trans rfl
  have d2 := (k0.cell 2).trans rfl
  have hb1 : base ≤ W1.heap.size := Nat.le_trans hb fn.size
  have hn := fun V => num_any V
  have hne : ¬ (b0 = p ∨ b0 = g) := by have := h.ltp; have := h.ltg; omega
  have HF := Lib.hid f0
  have hml := hrel.mks
  have htl := hrel.tl
  have hap := pair_apart h1 hr1
  have hend : Hid (∀ i e, e = .returned (.bool true) → DoPost w base n p g q A B (l + 1) e (W1.drewN i)) := Lib.hid fun i e he => ⟨he, A, B, ⟨c, o, v, m, l, a, b, th, bk, h1.drewN i, hr1.new (below_drewN (Below.refl _ _) i), hrel, by omega⟩, fun _ e => .inl e, fun _ e => .inl e, HF.out.drewN i⟩
  have hg := fun V (hV : Below W1.heap.size W1 V) (z : Int) => goes_any V base p g n c o v m l (h1.fr (S := noB) (Fr.of_new hV) (fun h => h) (fun h => h)) q A a B b n th bk (hr1.new hV) hrel z
  have hend3 : Hid (∀ V e, Below W1.heap.size W1 V → e = .returned (.bool true) → DoPost w base n p g q A B (l + 1) e V) := Lib.hid fun V e hV he => ⟨he, A, B, ⟨c, o, v, m, l, a, b, th, bk, h1.fr (S := noB) (Fr.of_new hV) (fun h => h) (fun h => h), hr1.new hV, hrel, by omega⟩, fun _ e => .inl e, fun _ e => .inl e, HF.out.new (S' := noB) hV⟩
  have hr0 := Below.refl W1.heap.size W1
  clear h hr hrel h1 hr1 fn HF htl hml hap hend
  go_enter Try.func18, Try.ntmps18
  go_wp2_with (first
      | (go_at_call 25; refine (hg _ hr0 _).mono ?_; rintro e V ⟨rfl, hV⟩; have hV2 := hV)
      | (go_at_call 25; refine (hg _ hV _).mono ?_; rintro e Z ⟨rfl, hZ⟩; have hZ2 := hV.trans (hZ.mono hV.size)))
  go_ret
  exact hend3.out _ _ hZ2 rfl

set_option maxRecDepth 100000 in
set_option maxHeartbeats 1000000 in
theorem do_0 (K : Int) (k1 : K ≠ 1) (k2 : K ≠ 2) (k3 : K ≠ 3) (k4 : K ≠ 4) (k5 : K ≠ 5) : Calls Try.prog 18 #[.pointer (some ⟨p, 0, none⟩), .pointer (some ⟨q, 0, none⟩), .agg #[.int .i64 K, .int .i64 N, .string T]] w (DoPost w base n p g q A B (l + 1)) := by
  obtain ⟨W1, hW1⟩ : ∃ W1, w.alloc (.cells #[.int .i64 K, .int .i64 N, .string T] 47) = W1 := ⟨_, rfl⟩
  obtain ⟨b0, e0⟩ : ∃ b0, w.heap.size = b0 := ⟨_, rfl⟩
  have k0 := Blk.new w 47 #[.int .i64 K, .int .i64 N, .string T]
  have f0 : Fr (ft5 p g q A B) w (w.alloc (.cells #[.int .i64 K, .int .i64 N, .string T] 47)) := (Fr.refl _ w).alloc _
  rw [hW1] at k0 f0
  rw [e0] at k0
  have fn : Below w.heap.size w W1 := by rw [← hW1]; exact (Below.refl _ w).alloc (Nat.le_refl _) _
  have h1 := h.fr (S := noB) (Fr.of_new fn) (fun h => h) (fun h => h)
  have hr1 := hr.new fn
  have d0 := (k0.cell 0).trans rfl
  have d1 := (k0.cell 1).trans rfl
  have d2 := (k0.cell 2).trans rfl
  have hb1 : base ≤ W1.heap.size := Nat.le_trans hb fn.size
  have hn := fun V => num_any V
  have hne : ¬ (b0 = p ∨ b0 = g) := by have := h.ltp; have := h.ltg; omega
  have HF := Lib.hid f0
  have hml := hrel.mks
  have htl := hrel.tl
  have hap := pair_apart h1 hr1
  have hend : Hid (∀ i e, e = .returned (.bool true) → DoPost w base n p g q A B (l + 1) e (W1.drewN i)) := Lib.hid fun i e he => ⟨he, A, B, ⟨c, o, v, m, l, a, b, th, bk, h1.drewN i, hr1.new (below_drewN (Below.refl _ _) i), hrel, by omega⟩, fun _ e => .inl e, fun _ e => .inl e, HF.out.drewN i⟩
  clear h hr hrel h1 hr1 fn HF htl hml hap
  go_enter Try.func18, Try.ntmps18
  go_wp2
  go_ret
  exact hend.out 0 _ rfl
end

theorem DoPost.more {w w' : World} {base n p g q k k' : Nat} {A B : Option Addr} {e : Ending} (h : DoPost w base n p g q A B k e w') (hk : k ≤ k') : DoPost w base n p g q A B k' e w' := by
  obtain ⟨he, A', B', ⟨c, o, v, m, l, a, b, th, bk, h1, h2, h3, h4⟩, r⟩ := h
  exact ⟨he, A', B', ⟨c, o, v, m, l, a, b, th, bk, h1, h2, h3, Nat.le_trans h4 hk⟩, r⟩
theorem do_any {w : World} {base n p g q k : Nat} {A B : Option Addr} (h : PW w base n p g q A B k) (hb : base ≤ w.heap.size) (hk : k < 99999) (K N : Int) (T : ByteArray) :
    Calls Try.prog 18 #[.pointer (some ⟨p, 0, none⟩), .pointer (some ⟨q, 0, none⟩), .agg #[.int .i64 K, .int .i64 N, .string T]] w (DoPost w base n p g q A B (k + 1)) := by
  obtain ⟨c, o, v, m, l, a, b, th, bk, h1, h2, h3, h4⟩ := h
  have hm := fun (e : Ending) (w' : World) (hh : DoPost w base n p g q A B (l + 1) e w') => hh.more (k' := k + 1) (by omega)
  by_cases k1 : K = 1
  · subst k1; exact (do_1 w base p g q n c o v m l A a B b th bk h1 h2 h3 hb (by omega) N T).mono hm
  by_cases k2 : K = 2
  · subst k2; exact (do_2 w base p g q n c o v m l A a B b th bk h1 h2 h3 hb N T).mono hm
  by_cases k3 : K = 3
  · subst k3; exact (do_3 w base p g q n c o v m l A a B b th bk h1 h2 h3 hb N T).mono hm
  by_cases k4 : K = 4
  · subst k4; exact (do_4 w base p g q n c o v m l A a B b th bk h1 h2 h3 hb N T).mono hm
  by_cases k5 : K = 5
  · subst k5; exact (do_5 w base p g q n c o v m l A a B b th bk h1 h2 h3 hb N T).mono hm
  exact (do_0 w base p g q n c o v m l A a B b th bk h1 h2 h3 hb N T K k1 k2 k3 k4 k5).mono hm
end Go.Proofs.Ytmdohddiddlpiaa
