/- The walk of wicketlaw16.NetCounts: it answers true, whatever comes in, and leaves what was there. Conditions: those of the slices that came in. -/
import Derived.Test.YtbbjbbcakfmpgaaKnownB
namespace Go.Proofs.Ytbbjbbcakfmpgaa
open Go.RowKit

/-- Without twins each thing is on the way or taken, as often as it was sent. -/
def Sums (twins : Bool) (things got way : List Int) : Prop := twins = false → ∀ x, cnt x got + cnt x way = cnt x things
/-- What holds between two rounds of NetCounts. -/
def InvN (w : World) (things : List Int) (twins : Bool) (b k : Nat) (cv gv : Value) (wr : World) : Prop :=
  ∃ A c way G gc got sent, NetI wr w.heap.size b A c way sent ∧ wr.ownsRow w.heap.size 3 1 (.slice G got.length gc) got.length (ints got) ∧ gv = .slice G got.length gc ∧ cv = .int .i64 got.length ∧
    (∀ j, blkOf G = some j → blkOf A ≠ some j) ∧ sent = got.length + way.length ∧ way.length + got.length ≤ 1000 + k ∧ got.length ≤ k ∧
    Sums twins things got way ∧ Below w.heap.size w wr

theorem inv_twin {w w0 w1 : World} {things : List Int} {b k : Nat} {A G A3 : Option Addr} {c gc c3 : Nat} {way got : List Int} {sent x : Int} (hN : NetI w0 w.heap.size b A c way sent)
    (hG : w0.ownsRow w.heap.size 3 1 (.slice G got.length gc) got.length (ints got)) (hd : ∀ j, blkOf G = some j → blkOf A ≠ some j) (hs : sent = got.length + way.length) (hle : way.length + got.length ≤ 1000 + k) (hgk : got.length ≤ k)
    (hb : Below w.heap.size w w0) (n3 : NetI w1 w.heap.size b A3 c3 (way ++ [x]) (sent + 1)) (st : StI b A A3 w0 w1) :
    InvN w things true b (k + 1) (.int .i64 got.length) (.slice G got.length gc) w1 := by
  have hgb : ∀ j, blkOf G = some j → ¬ fpI b A j := by
    rintro j hj (rfl | e)
    · exact own_blk_ne hG hN.blk (by decide) (by rw [ownBlock_slice]; exact hj)
    · exact hd j hj e
  refine ⟨A3, c3, way ++ [x], G, gc, got, sent + 1, n3, own_fr hG st.fr (fun j hj => hgb j (by rw [ownBlock_slice] at hj; exact hj)), rfl, rfl, fun j hj e => ?_, by simp; omega, by simp; omega, by omega, (fun h => by cases h), hb.trans (StI.below hN st)⟩
  rcases st.new j e with e | e
  · exact hd j hj e
  · have := (hG.lt j (by rw [ownBlock_slice]; exact hj)).2
    omega

theorem inv_take {w w0 w1 w2 : World} {things : List Int} {twins : Bool} {b k j : Nat} {A G A3 G4 : Option Addr} {c gc c3 c4 : Nat} {way got : List Int} {sent : Int} (hN : NetI w0 w.heap.size b A c way sent)
    (hG : w0.ownsRow w.heap.size 3 1 (.slice G got.length gc) got.length (ints got)) (hd : ∀ j, blkOf G = some j → blkOf A ≠ some j) (hs : sent = got.length + way.length) (hle : way.length + got.length ≤ 1000 + k) (hgk : got.length ≤ k)
    (hcnt : Sums twins things got way)
    (hb : Below w.heap.size w w0) (hj : j < way.length) (n3 : NetI w1 w.heap.size b A3 c3 (way.eraseIdx j) sent) (st : StI b A A3 w0 w1)
    (g4 : w2.ownsRow w.heap.size 3 1 (.slice G4 (got.length + 1) c4) (got.length + 1) (ints got ++ [.int .i64 (geti way j)])) (hg : w1.grownBy w2 (blkOf G)) (hat : ∀ i, blkOf G4 = some i → blkOf G = some i ∨ w1.heap.size ≤ i) :
    InvN w things twins b (k + 1) (.int .i64 (got.length + 1)) (.slice G4 (got.length + 1) c4) w2 := by
  have hgb : ∀ j, blkOf G = some j → ¬ fpI b A j := by
    rintro j hj (rfl | e)
    · exact own_blk_ne hG hN.blk (by decide) (by rw [ownBlock_slice]; exact hj)
    · exact hd j hj e
  have hlt : ∀ i, blkOf G = some i → w.heap.size ≤ i ∧ i < w0.heap.size := fun i hi => hG.lt i (by rw [ownBlock_slice]; exact hi)
  have hgb3 : ∀ i, blkOf G = some i → ¬ fpI b A3 i := by
    rintro i hi (e | e)
    · exact hgb i hi (.inl e)
    · rcases st.new i e with e | e
      · exact hgb i hi (.inr e)
      · have := (hlt i hi).2; omega
  have n4 : NetI w2 w.heap.size b A3 c3 (way.eraseIdx j) sent := n3.fr (Fr.of_grown hg (S := fun i => blkOf G = some i) fun _ e => e) fun i hi e => hgb3 i e hi
  have hl : (way.eraseIdx j).length + 1 = way.length := by rw [List.length_eraseIdx_of_lt hj]; omega
  have b1 : Below w.heap.size w w1 := hb.trans (StI.below hN st)
  refine ⟨A3, c3, way.eraseIdx j, G4, c4, got ++ [geti way j], sent, n4, ?_, by simp, by simp, fun i hi e => ?_, by simp; omega, by simp; omega, by simp; omega, fun h x => ?_, b1.grown hg b1.size fun i hi => (hlt i hi).1⟩
  · simpa [ints_append, ints] using g4
  · rcases hat i hi with e2 | e2
    · exact hgb3 i e2 (.inr e)
    · have := (n3.own.lt i (by rw [ownBlock_slice]; exact e)).2
      omega
  · have h1 := hcnt h x
    have h2 := cnt_eraseIdx x way j hj
    rw [cnt_append]
    simp only [cnt] at h1 h2 ⊢
    omega

theorem reads_one (w : World) (x : Int) : Reads (w.alloc (.cells #[.int .i64 x] 3)) (w.heap.size + 1) 1 (some ⟨w.heap.size, 0, none⟩) 1 [.int .i64 x] := by
  refine ⟨rfl, fun _ => ⟨_, rfl, by simp, fun j u hu => ?_⟩⟩
  match j, hu with
  | 0, hu => simp at hu; subst hu; exact ((Blk.new w 3 #[.int .i64 x]).cell 0).trans rfl

set_option maxHeartbeats 4000000 in
set_option maxRecDepth 100000 in
theorem netCounts_false (w : World) (A0 : Option Addr) (n0 c0 : Nat) (things : List Int) (A1 : Option Addr) (n1 c1 : Nat) (picks : List Int)
    (h0 : Reads w w.heap.size 1 A0 n0 (ints things)) (h1 : Reads w w.heap.size 1 A1 n1 (ints picks)) :
    Calls Try.prog 3 #[.slice A0 n0 c0, .slice A1 n1 c1, .bool false] w fun e w' => e = .returned (.bool true) ∧ Below w.heap.size w w' := by
  by_cases hbig : 1000 < n0
  · go_enter Try.func3, Try.ntmps3
    go_wp2_with (first | (go_at_call 6; refine (newI _).mono ?_; rintro e w1 ⟨rfl, n1', b1⟩) | (go_at_call 8; refine (knownB _).mono ?_; rintro e w2 ⟨rfl, b2⟩))
    go_ret
    exact ⟨rfl, b1.trans (b2.mono b1.size)⟩
  · go_enter Try.func3, Try.ntmps3
    go_wp2_with (go_at_call 6; refine (newI _).mono ?_; rintro e w1 ⟨rfl, nn, b1⟩)
    have hr0 : Reads w1 w.heap.size 1 A0 n0 (ints things) := h0.below b1
    have hsend := sendI_n w1 _ _ _ _ _ _ nn _ _ n0 c0 _ hr0 (by simp; omega) (by simp) (by omega) (by omega)
    go_wp2_with (go_at_call 7; refine hsend.mono ?_; clear hsend; rintro e w2 ⟨rfl, A2, c2, n2, st2⟩)
    have b2 : Below w.heap.size w w2 := b1.trans (StI.below nn st2)
    clear hr0 st2 nn b1
    have hl1 : picks.length = n1 := by have := h1.1; rw [ints_length] at this; omega
    have hl0 : things.length = n0 := by have := h0.1; rw [ints_length] at this; omega
    have hI : InvN w things false w.heap.size 0 (.int .i64 0) (.slice none 0 0) w2 := by
      refine ⟨A2, c2, things, none, 0, [], n0, by simpa using n2, World.ownsRow_nil _ _ _ _, rfl, rfl, ?_, ?_, ?_, ?_, ?_, b2⟩
      · intro j hj; cases hj
      · simp; omega
      · simp; omega
      · simp
      · intro _ x; simp [cnt]
    have HL1 := Lib.hid hl1
    have HL0 := Lib.hid hl0
    clear hl1 hl0 n2 b2
    go_loopw [8, 9, 10] (fun cv gv iv wr => ∃ k : Nat, k ≤ 2000 ∧ k ≤ n1 ∧ iv = .int .i64 k ∧ InvN w things false w.heap.size k cv gv wr) (fun _ _ iv _ => 2000 - (intOf iv).toNat)
    case atStart => exact ⟨0, by omega, by omega, rfl, hI⟩
    case round =>
      obtain ⟨k, hk, hk1, rfl, hI⟩ := hrel
      obtain ⟨A, c, way, G, gc, got, sent, hN, hG, rfl, rfl, hd, hs, hle, hgk, hcnt, hb⟩ := hI
      have hlen := lenI wr _ _ _ _ _ _ hN
      by_cases hgo : k < n1 ∧ k < 2000 ∧ 0 < way.length
      · obtain ⟨g1, g2, g3⟩ := hgo
        obtain ⟨ad, u, rfl, hab, hxu, hcell⟩ := (h1.below hb).at_ g1
        have hL1 := HL1.out
        obtain ⟨p, rfl⟩ : ∃ p, u = .int .i64 p := by
          simp [ints, List.getElem?_eq_getElem (show k < picks.length by rw [hL1]; omega)] at hxu
          exact ⟨_, hxu.symm⟩
        clear hL1 hxu
        have q1 : (0 : Int) ≤ (k : Int) := by omega
        have q2 : (k : Int) < (n1 : Int) := by omega
        have r1 : -(way.length : Int) < p.tmod way.length := Int.lt_tmod_of_pos p (by omega)
        have r2 : p.tmod way.length < way.length := Int.tmod_lt_of_pos p (by omega)
        have r3 : ((way.length : Int) == 0) = false := by rw [beq_eq_false_iff_ne]; omega
        go_wp2_with (go_at_call 9; refine hlen.mono ?_; rintro e w' ⟨rfl, rfl⟩)
        go_quiet ((go_at_call 9; exact quiet_left (lenI _ _ _ _ _ _ _ (hN.drewN _))))
        generalize hwr : wr.drewN _ = wq
        have hNq : NetI wq w.heap.size w.heap.size A c way sent := by subst hwr; exact hN.drewN _
        have hGq : wq.ownsRow w.heap.size 3 1 (.slice G got.length gc) got.length (ints got) := by subst hwr; exact hG
        have hbq : Below w.heap.size w wq := by subst hwr; exact (show Below w.heap.size w wr from hb).trans ⟨rfl, rfl, rfl, Nat.le_refl _, fun _ _ => rfl⟩
        clear hwr hN hG hb hlen hcell
        have s1 : way.length ≤ 3000 := by omega
        have s2 : (0 : Int) ≤ sent := by omega
        have s3 : sent ≤ 1000000000 := by omega
        have Hs := Lib.hid hs
        have Hcnt := Lib.hid hcnt
        clear hs hcnt
        have hlen := lenI wq _ _ _ _ _ _ hNq
        obtain ⟨i0, hi, hz0, hz1, hz2⟩ := info_parts Try.info3
        have hgb : ∀ j, blkOf G = some j → ¬ fpI w.heap.size A j := by
          rintro j hj (rfl | e)
          · exact own_blk_ne hGq hNq.blk (by decide) (by rw [ownBlock_slice]; exact hj)
          · exact hd j hj e
        rcases Decidable.em (p.tmod way.length < 0) with sgn | sgn
        all_goals
          go_wp2_with (first | (go_at_call 9; refine hlen.mono ?_; rintro e w' ⟨rfl, rfl⟩) | (go_at_call 11; refine (takeI_int _ _ _ _ _ _ _ _ hNq (by omega) (by omega) (by omega)).mono ?_; rintro e w3 ⟨rfl, A3, c3, n3, st3⟩; have g3 := own_fr hGq st3.fr (fun j hj => hgb j (by rw [ownBlock_slice] at hj; exact hj))) | (at_builtin; refine wpList_append_any _ rfl _ _ 22 rfl w.heap.size 3 i0 (.int .i64 0) 1 8 Try.underlying22 hi hz0 hz1 hz2 rfl (by decide) _ _ _ rfl (g3.alloc _) (w3.heap.size + 1) (some ⟨w3.heap.size, 0, none⟩) 1 1 _ rfl (reads_one w3 _) ?c1 ?c2 ?c3 ?c4 ?_))
          case c1 => intro u hu; simp at hu; subst hu; rfl
          case c2 => unfold maxLen; omega
          case c3 => omega
          case c4 => have := hbq.size; have := st3.fr.size; simp; omega
          intro v4 w4 g4 hg4 hat4
          obtain ⟨G4, c4, rfl⟩ := own_shape g4
          go_wp2
          go_roundw
          case rel =>
            have hgr : w3.grownBy w4 (blkOf G) := (World.grownBy_alloc w3 _ _).trans (by rw [ownBlock_slice] at hg4; exact hg4)
            have hat5 : ∀ i, blkOf G4 = some i → blkOf G = some i ∨ w3.heap.size ≤ i := fun i hi => (own_at hat4 i hi).imp id (fun h => by omega)
            exact ⟨k + 1, by omega, by omega, by go_num, inv_take hNq hGq hd Hs.out hle hgk Hcnt.out hbq (by omega) n3 st3 g4 hgr hat5⟩
          case measure => simp [intOf]; omega
      · have hsn := sentI wr _ _ _ _ _ _ hN
        have hse : (sent != (got.length : Int) + (way.length : Int)) = false := by rw [bne_eq_false_iff_eq]; exact hs
        have s1 : way.length ≤ 3000 := by omega
        have Hcnt := Lib.hid hcnt
        have Hs := Lib.hid hs
        have hRG := Reads.of_own hG
        clear hs hcnt
        have hex : ¬ k < n1 ∨ (k < n1 ∧ ¬ k < 2000) ∨ (k < n1 ∧ k < 2000 ∧ ¬ 0 < way.length) := by omega
        clear hgo
        rcases hex with x | ⟨x, y⟩ | ⟨x, y, z⟩
        all_goals
          go_wp2_with (first | (go_at_call 9; refine hlen.mono ?_; rintro e w' ⟨rfl, rfl⟩) | (go_at_call 12; refine hsn.mono ?_; rintro e w' ⟨rfl, rfl⟩))
          obtain ⟨wo, rfl⟩ : ∃ wo : World, wo = wr := ⟨_, rfl⟩
          go_loopw [14] (fun iv w' => ∃ i m : Nat, i ≤ got.length ∧ iv = .int .i64 i ∧ w' = wo.drewN m) (fun iv _ => got.length - (intOf iv).toNat)
          case atStart => exact ⟨0, 0, by omega, rfl, rfl⟩
          case round =>
            obtain ⟨i, m, hi, rfl, hw⟩ := hrel
            subst hw
            by_cases hlt : i < got.length
            · obtain ⟨g, rfl, hgc, hcg⟩ := own_cell hG i hlt
              have hcmp : ¬ cnt (geti got i) things < cnt (geti got i) got := by have := Hcnt.out rfl (geti got i); omega
              have i1 : (0 : Int) ≤ (i : Int) := by omega
              have i2 : (i : Int) < (got.length : Int) := by omega
              have hT := h0.below hb
              go_wp2
              go_quiet ((go_at_call 13; exact quiet_add_left (timesI _ _ _ _ _ _ _ (by first | exact hRG.drewN _ | exact hT.drewN _) (by omega))))
              go_wp2
              go_roundw
              case rel => exact ⟨i + 1, _, by omega, by go_num, rfl⟩
              case measure => simp [intOf]; omega
            · go_wp2_with (go_at_call 8; refine (knownB _).mono ?_; rintro e w2 ⟨rfl, b2⟩)
              go_ret
              exact ⟨rfl, (below_drewN (show Below w.heap.size w wo from hb) m).trans (b2.mono hb.size)⟩

set_option maxHeartbeats 4000000 in
set_option maxRecDepth 100000 in
theorem netCounts_true (w : World) (A0 : Option Addr) (n0 c0 : Nat) (things : List Int) (A1 : Option Addr) (n1 c1 : Nat) (picks : List Int)
    (h0 : Reads w w.heap.size 1 A0 n0 (ints things)) (h1 : Reads w w.heap.size 1 A1 n1 (ints picks)) :
    Calls Try.prog 3 #[.slice A0 n0 c0, .slice A1 n1 c1, .bool true] w fun e w' => e = .returned (.bool true) ∧ Below w.heap.size w w' := by
  by_cases hbig : 1000 < n0
  · go_enter Try.func3, Try.ntmps3
    go_wp2_with (first | (go_at_call 6; refine (newI _).mono ?_; rintro e w1 ⟨rfl, n1', b1⟩) | (go_at_call 8; refine (knownB _).mono ?_; rintro e w2 ⟨rfl, b2⟩))
    go_ret
    exact ⟨rfl, b1.trans (b2.mono b1.size)⟩
  · go_enter Try.func3, Try.ntmps3
    go_wp2_with (go_at_call 6; refine (newI _).mono ?_; rintro e w1 ⟨rfl, nn, b1⟩)
    have hr0 : Reads w1 w.heap.size 1 A0 n0 (ints things) := h0.below b1
    have hsend := sendI_n w1 _ _ _ _ _ _ nn _ _ n0 c0 _ hr0 (by simp; omega) (by simp) (by omega) (by omega)
    go_wp2_with (go_at_call 7; refine hsend.mono ?_; clear hsend; rintro e w2 ⟨rfl, A2, c2, n2, st2⟩)
    have b2 : Below w.heap.size w w2 := b1.trans (StI.below nn st2)
    clear hr0 st2 nn b1
    have hl1 : picks.length = n1 := by have := h1.1; rw [ints_length] at this; omega
    have hl0 : things.length = n0 := by have := h0.1; rw [ints_length] at this; omega
    have hI : InvN w things true w.heap.size 0 (.int .i64 0) (.slice none 0 0) w2 := by
      refine ⟨A2, c2, things, none, 0, [], n0, by simpa using n2, World.ownsRow_nil _ _ _ _, rfl, rfl, ?_, ?_, ?_, ?_, ?_, b2⟩
      · intro j hj; cases hj
      · simp; omega
      · simp; omega
      · simp
      · intro _ x; simp [cnt]
    have HL1 := Lib.hid hl1
    have HL0 := Lib.hid hl0
    clear hl1 hl0 n2 b2
    go_loopw [8, 9, 10] (fun cv gv iv wr => ∃ k : Nat, k ≤ 2000 ∧ k ≤ n1 ∧ iv = .int .i64 k ∧ InvN w things true w.heap.size k cv gv wr) (fun _ _ iv _ => 2000 - (intOf iv).toNat)
    case atStart => exact ⟨0, by omega, by omega, rfl, hI⟩
    case round =>
      obtain ⟨k, hk, hk1, rfl, hI⟩ := hrel
      obtain ⟨A, c, way, G, gc, got, sent, hN, hG, rfl, rfl, hd, hs, hle, hgk, hcnt, hb⟩ := hI
      have hlen := lenI wr _ _ _ _ _ _ hN
      by_cases hgo : k < n1 ∧ k < 2000 ∧ 0 < way.length
      · obtain ⟨g1, g2, g3⟩ := hgo
        obtain ⟨ad, u, rfl, hab, hxu, hcell⟩ := (h1.below hb).at_ g1
        have hL1 := HL1.out
        obtain ⟨p, rfl⟩ : ∃ p, u = .int .i64 p := by
          simp [ints, List.getElem?_eq_getElem (show k < picks.length by rw [hL1]; omega)] at hxu
          exact ⟨_, hxu.symm⟩
        clear hL1 hxu
        have q1 : (0 : Int) ≤ (k : Int) := by omega
        have q2 : (k : Int) < (n1 : Int) := by omega
        have r1 : -(way.length : Int) < p.tmod way.length := Int.lt_tmod_of_pos p (by omega)
        have r2 : p.tmod way.length < way.length := Int.tmod_lt_of_pos p (by omega)
        have r3 : ((way.length : Int) == 0) = false := by rw [beq_eq_false_iff_ne]; omega
        go_wp2_with (go_at_call 9; refine hlen.mono ?_; rintro e w' ⟨rfl, rfl⟩)
        go_quiet ((go_at_call 9; exact quiet_left (lenI _ _ _ _ _ _ _ (hN.drewN _))))
        generalize hwr : wr.drewN _ = wq
        have hNq : NetI wq w.heap.size w.heap.size A c way sent := by subst hwr; exact hN.drewN _
        have hGq : wq.ownsRow w.heap.size 3 1 (.slice G got.length gc) got.length (ints got) := by subst hwr; exact hG
        have hbq : Below w.heap.size w wq := by subst hwr; exact (show Below w.heap.size w wr from hb).trans ⟨rfl, rfl, rfl, Nat.le_refl _, fun _ _ => rfl⟩
        clear hwr hN hG hb hlen hcell
        have s1 : way.length ≤ 3000 := by omega
        have s2 : (0 : Int) ≤ sent := by omega
        have s3 : sent ≤ 1000000000 := by omega
        have Hs := Lib.hid hs
        have Hcnt := Lib.hid hcnt
        clear hs hcnt
        have hlen := lenI wq _ _ _ _ _ _ hNq
        obtain ⟨i0, hi, hz0, hz1, hz2⟩ := info_parts Try.info3
        have hgb : ∀ j, blkOf G = some j → ¬ fpI w.heap.size A j := by
          rintro j hj (rfl | e)
          · exact own_blk_ne hGq hNq.blk (by decide) (by rw [ownBlock_slice]; exact hj)
          · exact hd j hj e
        rcases Decidable.em (p.tmod way.length < 0) with sgn | sgn
        all_goals
          rcases Decidable.em (k % 3 = 1) with hk3 | hk3
          · have hk4 : ((k : Int) % 3 == 1) = true := by rw [beq_iff_eq]; omega
            clear hk3
            go_wp2_with (first | (go_at_call 9; refine hlen.mono ?_; rintro e w' ⟨rfl, rfl⟩) | (go_at_call 10; refine (twinI_int _ _ _ _ _ _ _ _ hNq (by omega) (by omega) (by omega) (by omega) (by omega)).mono ?_; rintro e w3 ⟨rfl, A3, c3, n3, st3⟩))
            go_roundw
            case rel => exact ⟨k + 1, by omega, by omega, by go_num, inv_twin hNq hGq hd Hs.out hle hgk hbq n3 st3⟩
            case measure => simp [intOf]; omega
          · have hk4 : ((k : Int) % 3 == 1) = false := by rw [beq_eq_false_iff_ne]; omega
            clear hk3
            go_wp2_with (first | (go_at_call 9; refine hlen.mono ?_; rintro e w' ⟨rfl, rfl⟩) | (go_at_call 11; refine (takeI_int _ _ _ _ _ _ _ _ hNq (by omega) (by omega) (by omega)).mono ?_; rintro e w3 ⟨rfl, A3, c3, n3, st3⟩; have g3 := own_fr hGq st3.fr (fun j hj => hgb j (by rw [ownBlock_slice] at hj; exact hj))) | (at_builtin; refine wpList_append_any _ rfl _ _ 22 rfl w.heap.size 3 i0 (.int .i64 0) 1 8 Try.underlying22 hi hz0 hz1 hz2 rfl (by decide) _ _ _ rfl (g3.alloc _) (w3.heap.size + 1) (some ⟨w3.heap.size, 0, none⟩) 1 1 _ rfl (reads_one w3 _) ?c1 ?c2 ?c3 ?c4 ?_))
            case c1 => intro u hu; simp at hu; subst hu; rfl
            case c2 => unfold maxLen; omega
            case c3 => omega
            case c4 => have := hbq.size; have := st3.fr.size; simp; omega
            intro v4 w4 g4 hg4 hat4
            obtain ⟨G4, c4, rfl⟩ := own_shape g4
            go_wp2
            go_roundw
            case rel =>
              have hgr : w3.grownBy w4 (blkOf G) := (World.grownBy_alloc w3 _ _).trans (by rw [ownBlock_slice] at hg4; exact hg4)
              have hat5 : ∀ i, blkOf G4 = some i → blkOf G = some i ∨ w3.heap.size ≤ i := fun i hi => (own_at hat4 i hi).imp id (fun h => by omega)
              exact ⟨k + 1, by omega, by omega, by go_num, inv_take hNq hGq hd Hs.out hle hgk Hcnt.out hbq (by omega) n3 st3 g4 hgr hat5⟩
            case measure => simp [intOf]; omega
      · have hsn := sentI wr _ _ _ _ _ _ hN
        have hse : (sent != (got.length : Int) + (way.length : Int)) = false := by rw [bne_eq_false_iff_eq]; exact hs
        have s1 : way.length ≤ 3000 := by omega
        have Hcnt := Lib.hid hcnt
        have Hs := Lib.hid hs
        have hRG := Reads.of_own hG
        clear hs hcnt
        have hex : ¬ k < n1 ∨ (k < n1 ∧ ¬ k < 2000) ∨ (k < n1 ∧ k < 2000 ∧ ¬ 0 < way.length) := by omega
        clear hgo
        rcases hex with x | ⟨x, y⟩ | ⟨x, y, z⟩
        all_goals
          go_wp2_with (first | (go_at_call 9; refine hlen.mono ?_; rintro e w' ⟨rfl, rfl⟩) | (go_at_call 12; refine hsn.mono ?_; rintro e w' ⟨rfl, rfl⟩))
          go_loopw [14] (fun iv w' => iv = .int .i64 0 ∧ w' = wr) (fun _ _ => 0)
          case atStart => exact ⟨rfl, rfl⟩
          case round =>
            obtain ⟨rfl, rfl⟩ := hrel
            go_wp2_with (go_at_call 8; refine (knownB _).mono ?_; rintro e w2 ⟨rfl, b2⟩)
            all_goals
              go_ret
              exact ⟨rfl, (show Below w.heap.size w _ from hb).trans (b2.mono hb.size)⟩

/-- Both. -/
theorem netCounts_walk (w : World) (A0 : Option Addr) (n0 c0 : Nat) (things : List Int) (A1 : Option Addr) (n1 c1 : Nat) (picks : List Int) (twins : Bool)
    (h0 : Reads w w.heap.size 1 A0 n0 (ints things)) (h1 : Reads w w.heap.size 1 A1 n1 (ints picks)) :
    Calls Try.prog 3 #[.slice A0 n0 c0, .slice A1 n1 c1, .bool twins] w fun e w' => e = .returned (.bool true) ∧ Below w.heap.size w w' := by
  cases twins
  · exact netCounts_false w A0 n0 c0 things A1 n1 c1 picks h0 h1
  · exact netCounts_true w A0 n0 c0 things A1 n1 c1 picks h0 h1

end Go.Proofs.Ytbbjbbcakfmpgaa
