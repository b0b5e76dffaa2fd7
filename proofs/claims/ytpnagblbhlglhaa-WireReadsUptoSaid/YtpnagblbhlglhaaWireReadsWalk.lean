/- The walk of wicketlaw01.WireReads. Conditions: those that it states. -/
import Derived.Test.YtpnagblbhlglhaaWireStep
import Derived.Test.YtpnagblbhlglhaaOpenRows
import Derived.Deep.RegionLaw
import Derived.Laws.Concat
namespace Go.Proofs.Ytpnagblbhlglhaa
open Go.RowKit

theorem strN_add (l m : List Nat) : strN (l ++ m) = strN l ++ strN m := by
  apply ByteArray.ext
  simp [strN]
theorem strN_sz (l : List Nat) : (strN l).size = l.length := by simp [strN, ByteArray.size]

theorem add_one_eq (a : Addr) : a.add 1 = ⟨a.block, a.off + 1, none⟩ := by simp [Addr.add]

set_option maxHeartbeats 4000000 in
set_option maxRecDepth 100000 in
theorem wireReads_walk (w : World) (A0 : Option Addr) (n0 c0 : Nat) (bs : List Nat) (h0 : Reads w w.heap.size 1 A0 n0 (byts bs)) (hs : Small bs) (hc0 : n0 ≤ c0) (hb : n0 ≤ 1048576)
    (A1 : Option Addr) (n1 c1 : Nat) (R : Nat → List Value) (h1 : RowsAt w w.heap.size A1 n1 2 R) (hR : ∀ i, i < n1 → ∃ K M : Int, R i = [.int .i64 K, .int .i64 M] ∧ M ≤ 9223372036854775807) (hn1 : n1 ≤ 9223372036854775807) :
    Calls Try.prog 8 #[.slice A0 n0 c0, .slice A1 n1 c1] w fun e w' => e = .returned (.bool true) ∧ Below w.heap.size w w' := by
  obtain ⟨i0, hi, hz0, hz1, hz2⟩ := info_parts Try.info5w
  have hbl : bs.length = n0 := by have := h0.1; rw [byts_length] at this; omega
  have ho0 : w.ownsRow w.heap.size 5 1 (.slice none 0 0) 0 [] := World.ownsRow_nil _ _ _ _
  obtain ⟨L, hL⟩ : ∃ L, bs ++ [165] = L := ⟨_, rfl⟩
  have hLs : Small L := by rw [← hL]; exact hs.append (small_of rfl)
  obtain ⟨X, hX⟩ : ∃ X, strN bs ++ { data := #[165] } = X := ⟨_, rfl⟩
  have eX : strN L = X := by rw [← hL, ← hX]; exact strN_add bs [165]
  have hadd := fun W : World => run_string_add_sum (P := Try.prog) W (strN bs) { data := #[165] } (by rw [strN_sz, show ({ data := #[165] } : ByteArray).size = 1 from rfl, hbl]; omega)
  simp only [hX] at hadd
  obtain ⟨n2, hn2⟩ : ∃ n2, n0 + 1 = n2 := ⟨_, rfl⟩
  clear hX
  have z0 : (0 : Int) ≤ (n0 : Int) := by omega
  go_enter Try.func8, Try.ntmps8
  go_wp2_with (first
    | (at_builtin; refine wpList_append_any _ rfl _ _ 24 rfl w.heap.size 5 i0 (.int .u8 0) 1 1 Try.underlying24 hi hz0 hz1 hz2 rfl (by decide) _ _ _ rfl ho0 w.heap.size A0 n0 _ _ rfl h0 (byts_one _) (by unfold maxLen; omega) (by omega) (Nat.le_refl _) ?_; intro v1 w1 p1 g1 _; clear ho0; rw [Nat.zero_add, List.nil_append] at p1; obtain ⟨B1, b1, rfl⟩ := own_shape p1; have g1' : Below w.heap.size w w1 := (Below.refl _ w).grown g1 (Nat.le_refl _) (fun k hk => by cases hk); clear g1; have p1' := p1.alloc (.cells #[.int .u8 165] 5); have r1 := reads_one w1 165; have s1 := g1'.size; have g1a := g1'.alloc s1 (.cells #[.int .u8 165] 5))
    | (at_builtin; refine wpList_append_any _ rfl _ _ 24 rfl w.heap.size 5 i0 (.int .u8 0) 1 1 Try.underlying24 hi hz0 hz1 hz2 rfl (by decide) _ _ _ rfl p1' _ _ 1 _ _ rfl r1 (byts_one _) (by unfold maxLen; omega) (by omega) (by first | omega | (simp; omega)) ?_; intro v2 w2 p2 g2 _; have g2' : Below w.heap.size w w2 := g1a.grown g2 g1a.size (fun k hk => own_base p1 k hk); clear g2 g1a g1'; obtain ⟨B2, b2, rfl⟩ := own_shape p2; have cp2 := (own_cap p2).1; have z2 : (n0 : Int) ≤ (b2 : Int) := (by omega); have pr : Reads w2 w2.heap.size 1 B2 n0 (byts bs) := (by have := (Reads.of_own p2).upto (k := n0) (by omega); rw [← byts_append, ← byts_take, Nat.mul_one, ← hbl, List.take_left] at this; rw [← hbl]; exact this); rw [← byts_append, hL, hn2] at p2; have r34 := open_any w2 w2.heap.size B2 n0 b2 bs pr hs (Nat.le_refl _) (by omega))
    | (go_at_call 34; go_must (refine r34.mono ?_); clear r34; rintro e w3 ⟨rg, RA, rc, rfl, hR3, hrg, hRA, m3⟩; have p3 := own_fr (S := noB) p2 (Fr.of_new m3) (fun _ _ h => h); have m3' := g2'.trans (m3.mono g2'.size); have t1 := run_str (P := Try.prog) (src := 24) (dst := 9) (c := b2) rfl rfl rfl (Reads.of_own p3) hLs; rw [eX] at t1; have t2 := run_str (P := Try.prog) (src := 24) (dst := 9) (c := c0) rfl rfl rfl (h0.below m3') hs; have sp := spoil_any w3 _ B2 n2 b2 L p3 (by have := m3'.size; omega) (by omega))
    | (go_at_call 32; go_must (refine sp.mono ?_); clear sp; rintro e w4 ⟨rfl, f4⟩))
  have hB2 : ∀ k, blkOf B2 = some k → w.heap.size ≤ k ∧ k < w2.heap.size := fun k hk => (p2.lt k (by rw [ownBlock_slice]; exact hk))
  have m4 : Below w.heap.size w w4 := m3'.trans (f4.below (fun k hk => (hB2 k hk).1) m3'.size)
  have m5 : Below w.heap.size w (w4.alloc (.cells #[.slice A0 n0 c0, .int .i64 0] 71)) := m4.alloc m4.size _
  have s4 := f4.size
  have hR4 : RdI w4 rg RA rc bs 0 := hR3.fr f4 (fun hh => by have := hB2 _ hh; omega) (fun hh => by have := hB2 _ hh; omega)
  have hR5 := hR4.fr (S := noB) (Fr.of_new ((Below.refl _ w4).alloc (Nat.le_refl _) (.cells #[.slice A0 n0 c0, .int .i64 0] 71))) (fun h => h) (fun h => h)
  have hrl := hR4.lt
  have ht0 : Two (w4.alloc (.cells #[.slice A0 n0 c0, .int .i64 0] 71)) w.heap.size rg w4.heap.size RA rc A0 c0 bs 0 :=
    ⟨hR5, ⟨by rw [hbl]; exact Blk.new w4 71 _, by rw [hbl]; exact h0.below m5, hs, Nat.zero_le _, by omega, m4.size, by omega⟩, by omega, by have := g2'.size; omega, fun h => by have := hR4.in_ h; omega⟩
  generalize hd : w4.heap.size = d at ht0 ⊢
  generalize hwa : w4.alloc (.cells #[.slice A0 n0 c0, .int .i64 0] 71) = wa at ht0 m5 ⊢
  have hrgs : w.heap.size ≤ rg := ht0.far
  have hds : w.heap.size ≤ d := by rw [← hd]; exact m4.size
  clear hwa hd hR5 hR4 hrl s4 m4 hB2 f4 t1 t2 p3 m3' m3 hR3 pr p2 g2' z2 cp2 p1 p1' r1 hadd eX s1
  go_loopw [8] (fun iv wr => ∃ i q : Nat, i ≤ n1 ∧ i ≤ 300 ∧ iv = .int .i64 i ∧ Two wr w.heap.size rg d RA rc A0 c0 bs q ∧ Below w.heap.size w wr) (fun iv _ => n1 - (intOf iv).toNat)
  case atStart => exact ⟨0, 0, by omega, by omega, rfl, ht0, m5⟩
  case round =>
    clear ht0 m5
    obtain ⟨i, q, hi1, hi2, rfl, hT, hB⟩ := hrel
    have z1 : (0 : Int) ≤ (i : Int) := by omega
    by_cases hlt : i < n1 ∧ i < 300
    · have y1 : (i : Int) < (n1 : Int) := by omega
      have y2 : (i : Int) < 300 := by omega
      have u1 : IntKind.i64.wrap ((i : Int) + 1) = (i : Int) + 1 := IntWalk.i64_in _ (by omega)
      obtain ⟨K, M, hRi, hM⟩ := hR i hlt.1
      obtain ⟨ad, rfl, _, _, hcl⟩ := (h1.below hB) i hlt.1
      rw [hRi] at hcl
      have k0 := hcl 0 _ rfl
      have k1 := hcl 1 _ rfl
      rw [show (ad.add (i * 2)).add 0 = ad.add (i * 2) by simp [Addr.add]] at k0
      rw [add_one_eq] at k1
      have hst := step_any wr w.heap.size rg d RA rc A0 c0 bs q M hT K hM (by omega)
      go_wp2_with (first
        | (go_at_call 46; go_must (refine hst.mono ?_); clear hst; rintro e w2 ⟨rfl, ⟨q2, hT2⟩, f2⟩; have hl := left_any w2 rg RA rc bs q2 hT2.own; obtain ⟨Z, hZ⟩ : ∃ Z, bs.length - q2 = Z := ⟨_, rfl⟩; rw [hZ] at hl; have hTm := fun m => hT2.fr (S := noB) ((Fr.refl noB w2).drewN m) (fun _ _ h => h); have hr := fun m => refleft_any _ w.heap.size d A0 c0 bs q2 (hTm m).ref; simp only [hZ] at hr; have he := fun m => end_any _ rg RA rc bs q2 (hTm m).own; obtain ⟨EE, hEE⟩ : ∃ EE : Int, (if q2 < bs.length then 4 else 0) = EE := ⟨_, rfl⟩; simp only [hEE] at he; have hee : (EE == 0) = ((Z : Int) == 0) := by (rw [Bool.eq_iff_iff, beq_iff_eq, beq_iff_eq, ← hEE, ← hZ]; have := hT2.own.le; split <;> omega))
        | (go_at_call 41; go_must (refine hl.mono ?_); clear hl; rintro e w3 ⟨rfl, m3, rfl⟩)
        | (go_at_call 47; go_must (refine (hr _).mono ?_); rintro e w4 ⟨rfl, m4, rfl⟩)
        | (go_at_call 40; go_must (refine (he _).mono ?_); clear he; rintro e w5 ⟨rfl, m5, rfl⟩)
        | (go_at_call 39; refine (num_any _ _).mono ?_; rintro e w' ⟨rfl, rfl⟩))
      have hB2 : Below w.heap.size w w2 := hB.trans (f2.below (fun k hk => by rcases hk with rfl | rfl <;> assumption) hB.size)
      refine ⟨⟨i + 1, q2, by omega, by omega, by go_num, hTm _, below_drewN hB2 _⟩, by simp [intOf]; omega⟩
    · have hkn := knownWire wr
      have hfin : ∀ w' : World, Below wr.heap.size wr w' → Below w.heap.size w w' := fun w' hb => hB.trans (hb.mono hB.size)
      by_cases hl1 : i < n1
      · have y1 : (i : Int) < (n1 : Int) := by omega
        have y2 : ¬ (i : Int) < 300 := by omega
        go_wp2_with (go_at_call 33; go_must (refine hkn.mono ?_); clear hkn; rintro e w2 ⟨rfl, hb2⟩)
        go_ret
        exact ⟨rfl, hfin _ hb2⟩
      · have y1 : ¬ (i : Int) < (n1 : Int) := by omega
        go_wp2_with (go_at_call 33; go_must (refine hkn.mono ?_); clear hkn; rintro e w2 ⟨rfl, hb2⟩)
        go_ret
        exact ⟨rfl, hfin _ hb2⟩
end Go.Proofs.Ytpnagblbhlglhaa
