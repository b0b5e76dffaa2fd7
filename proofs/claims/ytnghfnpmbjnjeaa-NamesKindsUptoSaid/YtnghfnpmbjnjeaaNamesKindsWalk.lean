/- The walk of wicketlaw05.NamesKinds: it answers true where the bytes and the text have at most 1048576 letters each. Conditions: those that it states. -/
import Derived.Test.YtnghfnpmbjnjeaaNamesKnown
import Derived.Test.YtnghfnpmbjnjeaaNamesSpoil
import Derived.Test.YtnghfnpmbjnjeaaNamesRefRead
namespace Go.Proofs.Ytnghfnpmbjnjeaa
open Go.RowKit

theorem readA_ok (l : List Nat) (hs : Small l) : Small (readA l).1 ∧ (readA l).1.length ≤ l.length := by
  rw [← refReadA_eq]
  unfold refReadA
  split
  · exact ⟨fun c hc => by simp at hc, Nat.zero_le _⟩
  · split
    · exact ⟨fun c hc => by simp at hc, Nat.zero_le _⟩
    · exact ⟨rdec_small _ l hs, rdec_len _ l⟩
theorem textN_le (b : List Nat) : (textN b).length ≤ 3 * b.length + 1 := by
  unfold textN
  split
  · simp
  · have := textF_le b; omega

set_option maxHeartbeats 4000000 in
set_option maxRecDepth 100000 in
theorem namesKinds_walk (w : World) (A0 : Option Addr) (n0 c0 : Nat) (b l : List Nat) (h0 : Reads w w.heap.size 1 A0 n0 (byts b)) (s0 : Small b) (m0 : n0 ≤ 1048576) (sl : Small l) (ml : l.length ≤ 1048576) :
    Calls Try.prog 5 #[.slice A0 n0 c0, .string (strN l)] w fun e w' => e = .returned (.bool true) ∧ Below w.heap.size w w' := by
  have lb : b.length = n0 := by have := h0.1; rw [byts_length] at this; omega
  have q10 := lent_any w w.heap.size A0 n0 c0 b h0 (Nat.le_refl _) (by omega)
  have q23 := fun W : World => read_any W l sl (by omega)
  have q24 := fun W : World => refRead_any W l sl (by omega)
  obtain ⟨sra, lra⟩ := readA_ok l sl
  simp only [refReadA_eq] at q24
  obtain ⟨RA, hRA⟩ : ∃ z, readA l = z := ⟨_, rfl⟩
  simp only [hRA] at q23 q24 sra lra
  obtain ⟨ra, re⟩ := RA
  simp only at q23 q24 sra lra
  have q25 := fun W : World => table_any W l sl (by omega)
  have q26 := fun W : World => refTable_any W l sl (by omega)
  obtain ⟨TB, hTB⟩ : ∃ z, tableN l = z := ⟨_, rfl⟩
  simp only [hTB] at q25 q26
  have stb := textN_small s0
  have ltb := textN_le b
  have qback := readA_text b s0
  have q23b := fun W : World => read_any W (textN b) stb (by omega)
  simp only [qback] at q23b
  have q31 := fun (W : World) (M : Option Addr) (d : Nat) (h : Reads W W.heap.size 1 M n0 (byts b)) => text_any W W.heap.size M n0 d b h s0 (Nat.le_refl _) (by omega)
  have q32 := fun (W : World) (hW : Below w.heap.size w W) => refText_any W w.heap.size A0 n0 c0 b (h0.below hW) s0 hW.size (by omega)
  obtain ⟨T, hT⟩ : ∃ z, textN b = z := ⟨_, rfl⟩
  simp only [hT] at q31 q32 q23b
  have LB := Lib.hid lb
  have lll : l.length ≤ 1048576 := ml
  obtain ⟨X, hX⟩ : ∃ z, strN l = z := ⟨_, rfl⟩
  simp only [hX] at q23 q24 q25 q26 ⊢
  have pre : ∀ (W W' : World) (base : Nat) (M : Option Addr) (d : Nat), W.ownsRow base 5 1 (.slice M (n0 + 1) d) (n0 + 1) (byts (b ++ [119])) → Below W.heap.size W W' → Reads W' W'.heap.size 1 M n0 (byts b) := by
    intro W W' base M d ho hb
    have := (Reads.of_own ho).upto (k := n0) (by omega)
    rw [Nat.mul_one, ← byts_take, ← LB.out, List.take_left, LB.out] at this
    exact (this.below hb).more hb.size
  clear hRA hTB hT hX qback ltb ml lb
  have rl : ra.length ≤ 1048576 := by omega
  go_enter Try.func5, Try.ntmps5
  go_upto_region 6 with (first
    | (go_at_call 10; refine q10.mono ?_; clear q10; rintro e x1 ⟨M, d, rfl, oM, g1⟩; have qq23 := q23 x1)
    | (go_at_call 23; refine qq23.mono ?_; clear qq23 q23; rintro e x2 ⟨A6, c6, rfl, o6, b2⟩; have g2 := g1.trans (b2.mono g1.size); have qq24 := q24 x2)
    | (go_at_call 24; refine qq24.mono ?_; clear qq24 q24; rintro e x3 ⟨A8, c8, rfl, o8, b3⟩; have g3 := g2.trans (b3.mono g2.size); have qq25 := q25 x3)
    | (go_at_call 25; refine qq25.mono ?_; clear qq25 q25; rintro e x4 ⟨rfl, b4⟩; have g4 := g3.trans (b4.mono g3.size))
    | (go_at_call 26; refine (q26 _).mono ?_; clear q26; rintro e x4' ⟨rfl, rfl⟩; have qt := q31 x4 M d (pre x1 x4 _ M d oM (b2.trans ((b3.trans (b4.mono b3.size)).mono b2.size))))
    | (go_at_call 27; refine (key_walk _ _ _ _ 27 (.inl rfl)).mono ?_; rintro e x4' ⟨rfl, rfl⟩)
    | (go_at_call 28; refine (key_walk _ _ _ _ 28 (.inr rfl)).mono ?_; rintro e x4' ⟨rfl, rfl⟩)
    | (go_at_call 29; refine (value_walk _ _ _ _ 29 (.inl rfl)).mono ?_; rintro e x4' ⟨rfl, rfl⟩)
    | (go_at_call 30; refine (value_walk _ _ _ _ 30 (.inr rfl)).mono ?_; rintro e x4' ⟨rfl, rfl⟩)
    | (go_at_call 31; refine qt.mono ?_; clear qt; rintro e x5 ⟨rfl, b5⟩; have g5 := g4.trans (b5.mono g4.size); have qr := q32 x5 g5)
    | (go_at_call 32; refine qr.mono ?_; clear qr q32; rintro e x6 ⟨rfl, b6⟩; have g6 := g5.trans (b6.mono g5.size); have j5 := b5.trans (b6.mono b5.size); have j4 := b4.trans (j5.mono b4.size); have j3 := b3.trans (j4.mono b3.size); have j2 := b2.trans (j3.mono b2.size); have t6 := run_str (P := Try.prog) (src := 22) (dst := 9) (c := c6) rfl rfl rfl ((Reads.of_own o6).below j3) sra; have t8 := run_str (P := Try.prog) (src := 22) (dst := 9) (c := c8) rfl rfl rfl ((Reads.of_own o8).below j4) sra; have ql := left_any x6 x1.heap.size w.heap.size M A0 n0 d c0 b ((Reads.of_own oM).below j2) (own_cap oM).1 (h0.below g6) s0 (by omega))
    | (go_at_call 33; refine (num_any _ _).mono ?_; rintro e x6' ⟨rfl, rfl⟩)
    | (go_at_call 21; refine ql.mono ?_; clear ql; rintro e x7 ⟨rfl, q7, rfl⟩))
  have iM : ∀ k, blkOf M = some k → w.heap.size ≤ k ∧ k < x1.heap.size := fun k hk => oM.lt k (by rw [ownBlock_slice]; exact hk)
  have i6 : ∀ k, blkOf A6 = some k → x1.heap.size ≤ k ∧ k < x2.heap.size := fun k hk => o6.lt k (by rw [ownBlock_slice]; exact hk)
  have z1 : w.heap.size ≤ x1.heap.size := g1.size
  have fz : Fr noB x6 (x6.drewN q7) := (Fr.refl noB x6).drewN q7
  have g7 : Below w.heap.size w (x6.drewN q7) := below_drewN g6 q7
  have k7 : Below x1.heap.size x1 (x6.drewN q7) := below_drewN j2 q7
  replace o6 := own_mono (own_fr (own_fr o6 (Fr.of_new (S := noB) j3) (fun _ _ h => h)) fz (fun _ _ h => h)) (base' := 0) (Nat.zero_le _)
  replace oM := own_mono (own_fr (own_fr oM (Fr.of_new (S := noB) j2) (fun _ _ h => h)) fz (fun _ _ h => h)) (base' := 0) (Nat.zero_le _)
  clear fz j2 j3 j4 j5 g2 g3 g4 g5 g6 b2 b3 b4 b5 b6 t6 t8 o8
  generalize x6.drewN q7 = x7 at g7 k7 o6 oM ⊢
  have hs1 := spoil_any x7 0 A6 ra.length c6 c6 ra o6 (.inl rfl) (Nat.zero_le _) (by omega)
  go_wp2_with (first
    | (go_at_call 20; refine hs1.mono ?_; clear hs1; rintro e x8 ⟨rfl, f8⟩; have g8 : Below w.heap.size w x8 := g7.trans (f8.below (fun k hk => by have := i6 k hk; omega) g7.size); have oM8 := own_fr oM f8 (fun k hk h => by have := i6 k h; have := iM k (bk_of hk); omega); have qt := q31 x8 M d (pre x8 x8 0 M d oM8 (Below.refl _ _)))
    | (go_at_call 31; refine qt.mono ?_; clear qt; rintro e x9 ⟨rfl, b9⟩; have g9 := g8.trans (b9.mono g8.size); have qq := q23b x9)
    | (go_at_call 23; refine qq.mono ?_; clear qq q23b; rintro e xa ⟨Aa, ca, rfl, oa, ba⟩; have ga := g9.trans (ba.mono g9.size); have t1 := run_str (P := Try.prog) (src := 22) (dst := 9) (c := ca) rfl rfl rfl (Reads.of_own oa) s0; have t2 := run_str (P := Try.prog) (src := 22) (dst := 9) (c := c0) rfl rfl rfl (h0.below ga) s0)
    | (go_at_call 33; refine (num_any _ _).mono ?_; rintro e xa' ⟨rfl, rfl⟩)
    | (go_at_call 22; refine (knownN _).mono ?_; rintro e xb ⟨rfl, bb⟩))
  go_ret
  exact ⟨rfl, ga.trans (bb.mono ga.size)⟩

end Go.Proofs.Ytnghfnpmbjnjeaa
