/- frame.begin: the frame with which bytes begin. Conditions: those that each states. -/
import Derived.Test.YtpnagblbhlglhaaFrameBits
import Derived.Deep.RegionLaw
import Derived.Deep.RegionHeld3
import Derived.Deep.CutRange
import Derived.Deep.CutBlock
namespace Go.Proofs.Ytpnagblbhlglhaa
open Go.RowKit

def bgN (b : List Nat) : Nat := num4 (b.getD 1 0) (b.getD 2 0) (b.getD 3 0) (b.getD 4 0)
def bgS (b : List Nat) : Nat := num4 (b.getD 5 0) (b.getD 6 0) (b.getD 7 0) (b.getD 8 0)
def bodyN (b : List Nat) : List Nat := (b.drop 9).take (bgN b)
def beginE (b : List Nat) : Nat := if b.length < 9 then 140 else if 2147483647 < bgN b then 141 else if b.length < 9 + bgN b then 140 else if crcSum (b.take 5 ++ bodyN b) = bgS b then 0 else 141

theorem reads_byte {w : World} {B n : Nat} {ad : Addr} {l : List Nat} (h : Reads w B 1 (some ad) n (byts l)) (i : Nat) (hi : i < n) : w.cell? (ad.add i) = some (.int .u8 (l.getD i 0 : Nat)) := by
  have hl : l.length = n := by have := h.1; rw [byts_length] at this; omega
  obtain ⟨ad', e, _, hc⟩ := h.2 (by omega)
  injection e with e
  subst e
  refine hc i _ ?_
  simp [byts, List.getElem?_eq_getElem (show i < l.length by omega)]
theorem getD_small {l : List Nat} (h : Small l) (i : Nat) : l.getD i 0 < 256 := by
  by_cases hi : i < l.length
  · rw [List.getD_eq_getElem?_getD, List.getElem?_eq_getElem hi]
    exact h _ (List.getElem_mem hi)
  · rw [List.getD_eq_getElem?_getD, List.getElem?_eq_none (by omega)]
    decide

/-- What begin answers. -/
def BegPost (w : World) (b : List Nat) (e : Ending) (w' : World) : Prop := Below w.heap.size w w' ∧
  ((beginE b ≠ 0 ∧ e = .returned (.tuple #[.agg #[.int .i64 0, .slice none 0 0], .int .i64 0, .int .i64 (beginE b : Nat)])) ∨
    (beginE b = 0 ∧ ∃ A2 c2, e = .returned (.tuple #[.agg #[.int .i64 (b.getD 0 0 : Nat), .slice A2 (bgN b) c2], .int .i64 (9 + bgN b : Nat), .int .i64 0]) ∧ w'.ownsRow w.heap.size 5 1 (.slice A2 (bgN b) c2) (bgN b) (byts (bodyN b))))

set_option maxHeartbeats 8000000 in
set_option maxRecDepth 100000 in
theorem begin_any (w : World) (B : Nat) (A : Option Addr) (n c : Nat) (b : List Nat) (h : Reads w B 1 A n (byts b)) (hs : Small b) (hB : B ≤ w.heap.size) (hn : n ≤ 140737488355300) (hc : n ≤ c) :
    Calls Try.prog 82 #[.slice A n c] w (BegPost w b) := by
  have hlen : b.length = n := by have := h.1; rw [byts_length] at this; omega
  have hw1 : Below w.heap.size w (w.alloc (.cells #[.int .i64 0, .slice none 0 0] 94)) := (Below.refl _ w).alloc (Nat.le_refl _) _
  have kq : Blk (w.alloc (.cells #[.int .i64 0, .slice none 0 0] 94)) w.heap.size 94 #[.int .i64 0, .slice none 0 0] := Blk.new w 94 _
  have errs : ∀ (W : World) (E : Nat), beginE b = E → E ≠ 0 → Below w.heap.size w W → BegPost w b (.returned (.tuple #[.agg #[.int .i64 0, .slice none 0 0], .int .i64 0, .int .i64 (E : Nat)])) W := fun W E hE h0 hb => ⟨hb, .inl ⟨by rw [hE]; exact h0, by rw [hE]⟩⟩
  by_cases h9 : n < 9
  · have hE : beginE b = 140 := by unfold beginE; rw [if_pos (by omega)]
    have q1 : (n : Int) < 9 := by omega
    have H := Lib.hid (errs _ 140 hE (by decide) hw1)
    clear errs hE h
    have z0 := (kq.cell 0).trans rfl
    have z1 := (kq.cell 1).trans rfl
    go_enter Try.func82, Try.ntmps82
    go_wp2
    refine bodyPost_ret (v := .tuple #[.agg #[.int .i64 0, .slice none 0 0], .int .i64 0, .int .i64 140]) ?_ rfl H.out
    simp [results, Try.f82, go_sem]
  obtain ⟨ad, rfl, hab, _⟩ := h.2 (by omega)
  have q1 : ¬ (n : Int) < 9 := by omega
  obtain ⟨W1, hW1⟩ : ∃ W, w.alloc (.cells #[.int .i64 0, .slice none 0 0] 94) = W := ⟨_, rfl⟩
  rw [hW1] at hw1 kq
  have hr := (h.more hB).below hw1
  have y1 : W1.cell? ⟨ad.block, ad.off + 1, none⟩ = some (.int .u8 (b.getD 1 0 : Nat)) := reads_byte hr 1 (by omega)
  have y2 : W1.cell? ⟨ad.block, ad.off + 2, none⟩ = some (.int .u8 (b.getD 2 0 : Nat)) := reads_byte hr 2 (by omega)
  have y3 : W1.cell? ⟨ad.block, ad.off + 3, none⟩ = some (.int .u8 (b.getD 3 0 : Nat)) := reads_byte hr 3 (by omega)
  have y4 : W1.cell? ⟨ad.block, ad.off + 4, none⟩ = some (.int .u8 (b.getD 4 0 : Nat)) := reads_byte hr 4 (by omega)
  have y5 : W1.cell? ⟨ad.block, ad.off + 5, none⟩ = some (.int .u8 (b.getD 5 0 : Nat)) := reads_byte hr 5 (by omega)
  have y6 : W1.cell? ⟨ad.block, ad.off + 6, none⟩ = some (.int .u8 (b.getD 6 0 : Nat)) := reads_byte hr 6 (by omega)
  have y7 : W1.cell? ⟨ad.block, ad.off + 7, none⟩ = some (.int .u8 (b.getD 7 0 : Nat)) := reads_byte hr 7 (by omega)
  have y8 : W1.cell? ⟨ad.block, ad.off + 8, none⟩ = some (.int .u8 (b.getD 8 0 : Nat)) := reads_byte hr 8 (by omega)
  have o4 := or4_i64 _ _ _ _ (getD_small hs 1) (getD_small hs 2) (getD_small hs 3) (getD_small hs 4)
  have o8 := or4_u32 _ _ _ _ (getD_small hs 5) (getD_small hs 6) (getD_small hs 7) (getD_small hs 8)
  obtain ⟨N, hN⟩ : ∃ N, bgN b = N := ⟨_, rfl⟩
  obtain ⟨SS, hSS⟩ : ∃ S, bgS b = S := ⟨_, rfl⟩
  have hSlt : SS < 4294967296 := by rw [← hSS]; exact num4_lt _ _ _ _ (getD_small hs 5) (getD_small hs 6) (getD_small hs 7) (getD_small hs 8)
  have hNlt : N < 4294967296 := by rw [← hN]; exact num4_lt _ _ _ _ (getD_small hs 1) (getD_small hs 2) (getD_small hs 3) (getD_small hs 4)
  rw [show num4 (b.getD 1 0) (b.getD 2 0) (b.getD 3 0) (b.getD 4 0) = N from hN] at o4
  rw [show num4 (b.getD 5 0) (b.getD 6 0) (b.getD 7 0) (b.getD 8 0) = SS from hSS] at o8
  have sm := fun i => getD_small hs i
  have n1 : (1 : Int) < (n : Int) := by omega
  have n2 : (2 : Int) < (n : Int) := by omega
  have n3 : (3 : Int) < (n : Int) := by omega
  have n4 : (4 : Int) < (n : Int) := by omega
  have n5 : (5 : Int) < (n : Int) := by omega
  have n6 : (6 : Int) < (n : Int) := by omega
  have n7 : (7 : Int) < (n : Int) := by omega
  have n8 : (8 : Int) < (n : Int) := by omega
  have s1 := sm 1
  have s2 := sm 2
  have s3 := sm 3
  have s4 := sm 4
  have s5 := sm 5
  have s6 := sm 6
  have s7 := sm 7
  have s8 := sm 8
  have z0 := (kq.cell 0).trans rfl
  have z1 := (kq.cell 1).trans rfl
  have zf := kq.frozen
  have HB := Lib.hid hs
  have KQ := Lib.hid kq
  obtain ⟨q, hq⟩ : ∃ q, w.heap.size = q := ⟨_, rfl⟩
  rw [hq] at z0 z1 zf KQ
  by_cases hbig : 2147483647 < N
  · have hE : beginE b = 141 := by unfold beginE; rw [if_neg (by omega), if_pos (by omega)]
    have q2 : (2147483647 : Int) < (N : Int) := by omega
    have H := Lib.hid (fun W hb => errs W 141 hE (by decide) hb)
    have HW := Lib.hid hw1
    generalize b.getD 1 0 = b1 at *
    generalize b.getD 2 0 = b2 at *
    generalize b.getD 3 0 = b3 at *
    generalize b.getD 4 0 = b4 at *
    clear errs hE h hr kq hN hSS o8 y5 y6 y7 y8 s5 s6 s7 s8 sm hs hw1
    go_enter Try.func82, Try.ntmps82
    go_wp2
    go_quiet (fail)
    go_wp2
    have kV := ((KQ.out.drewN nq).set_ 0 (.int .i64 0)).set_ 1 (.slice none 0 0)
    have hV : Below w.heap.size w (((W1.drewN nq).setCell ⟨q, 0, none⟩ (.int .i64 0)).setCell ⟨q, 1, none⟩ (.slice none 0 0)) := ((below_drewN HW.out nq).setCell (p := ⟨q, 0, none⟩) (Nat.le_of_eq hq) _).setCell (p := ⟨q, 1, none⟩) (Nat.le_of_eq hq) _
    obtain ⟨V, hVV⟩ : ∃ V, ((W1.drewN nq).setCell ⟨q, 0, none⟩ (.int .i64 0)).setCell ⟨q, 1, none⟩ (.slice none 0 0) = V := ⟨_, rfl⟩
    rw [hVV] at kV hV ⊢
    have v0 : V.cell? ⟨q, 0, none⟩ = some (.int .i64 0) := (kV.cell 0).trans rfl
    have v1 : V.cell? ⟨q, 1, none⟩ = some (.slice none 0 0) := (kV.cell 1).trans rfl
    have hP := H.out _ hV
    clear hVV kV hV H z0 z1 zf y1 y2 y3 y4 o4
    refine bodyPost_ret (v := .tuple #[.agg #[.int .i64 0, .slice none 0 0], .int .i64 0, .int .i64 141]) ?_ rfl hP
    simp [results, Try.f82, go_sem, v0, v1]
  by_cases hshort : n < 9 + N
  · have hE : beginE b = 140 := by unfold beginE; rw [if_neg (by omega), if_neg (by omega), if_pos (by omega)]
    have q2 : ¬ (2147483647 : Int) < (N : Int) := by omega
    obtain ⟨M, hM⟩ : ∃ M, 9 + N = M := ⟨_, rfl⟩
    have q3 : (n : Int) < (M : Int) := by omega
    have q3' : n < M := by omega
    have u9 : IntKind.i64.wrap (9 + (N : Int)) = (M : Int) := by rw [IntWalk.i64_in _ (by omega)]; omega
    clear hM hshort hbig
    have H := Lib.hid (fun W hb => errs W 140 hE (by decide) hb)
    have HW := Lib.hid hw1
    generalize b.getD 1 0 = b1 at *
    generalize b.getD 2 0 = b2 at *
    generalize b.getD 3 0 = b3 at *
    generalize b.getD 4 0 = b4 at *
    clear errs hE h hr kq hN hSS o8 y5 y6 y7 y8 s5 s6 s7 s8 sm hs hw1
    go_enter Try.func82, Try.ntmps82
    go_wp2
    go_quiet (fail)
    clear o4 y1 y2 y3 y4 n1 n2 n3 n4 n5 n6 n7 n8 hNlt hSlt hlen h9 hn hc s1 s2 s3 s4 q1
    go_wp2
    have kV := ((KQ.out.drewN nq).set_ 0 (.int .i64 0)).set_ 1 (.slice none 0 0)
    have hV : Below w.heap.size w (((W1.drewN nq).setCell ⟨q, 0, none⟩ (.int .i64 0)).setCell ⟨q, 1, none⟩ (.slice none 0 0)) := ((below_drewN HW.out nq).setCell (p := ⟨q, 0, none⟩) (Nat.le_of_eq hq) _).setCell (p := ⟨q, 1, none⟩) (Nat.le_of_eq hq) _
    obtain ⟨V, hVV⟩ : ∃ V, ((W1.drewN nq).setCell ⟨q, 0, none⟩ (.int .i64 0)).setCell ⟨q, 1, none⟩ (.slice none 0 0) = V := ⟨_, rfl⟩
    rw [hVV] at kV hV ⊢
    have v0 : V.cell? ⟨q, 0, none⟩ = some (.int .i64 0) := (kV.cell 0).trans rfl
    have v1 : V.cell? ⟨q, 1, none⟩ = some (.slice none 0 0) := (kV.cell 1).trans rfl
    have hP := H.out _ hV
    clear hVV kV hV H z0 z1 zf
    refine bodyPost_ret (v := .tuple #[.agg #[.int .i64 0, .slice none 0 0], .int .i64 0, .int .i64 140]) ?_ rfl hP
    simp [results, Try.f82, go_sem, v0, v1]
  obtain ⟨M, hM⟩ : ∃ M, 9 + N = M := ⟨_, rfl⟩
  have q2 : ¬ (2147483647 : Int) < (N : Int) := by omega
  have q3 : ¬ (n : Int) < (M : Int) := by omega
  have q3' : ¬ n < M := by omega
  have u9 : IntKind.i64.wrap (9 + (N : Int)) = (M : Int) := by rw [IntWalk.i64_in _ (by omega)]; omega
  have HW := Lib.hid hw1
  have HM := Lib.hid (And.intro hM (And.intro hbig (And.intro hshort (And.intro hlen (And.intro hn (And.intro hc hSlt))))))
  have HE := Lib.hid (And.intro hN (And.intro hSS (And.intro errs h)))
  have H8 := Lib.hid (And.intro y5 (And.intro y6 (And.intro y7 (And.intro y8 (And.intro o8 (And.intro n5 (And.intro n6 (And.intro n7 (And.intro n8 (And.intro s5 (And.intro s6 (And.intro s7 s8))))))))))))
  have HS := Lib.hid sm
  clear errs h hr kq hN hSS hM hbig hshort y5 y6 y7 y8 o8 n5 n6 n7 n8 s5 s6 s7 s8 sm hs hw1 hSlt
  generalize b.getD 1 0 = b1 at o4 y1 s1
  generalize b.getD 2 0 = b2 at o4 y2 s2
  generalize b.getD 3 0 = b3 at o4 y3 s3
  generalize b.getD 4 0 = b4 at o4 y4 s4
  go_enter Try.func82, Try.ntmps82
  go_wp2
  go_quiet (fail)
  clear o4 y1 y2 y3 y4 n1 n2 n3 n4 hNlt hlen h9 hn hc s1 s2 s3 s4 q1
  go_wp2
  obtain ⟨y5, y6, y7, y8, o8, n5, n6, n7, n8, s5, s6, s7, s8⟩ := H8.out
  obtain ⟨W2, hW2⟩ : ∃ W, W1.drewN nq = W := ⟨_, rfl⟩
  have t5 : W2.cell? ⟨ad.block, ad.off + 5, none⟩ = some (.int .u8 (b.getD 5 0 : Nat)) := by rw [← hW2]; exact y5
  have t6 : W2.cell? ⟨ad.block, ad.off + 6, none⟩ = some (.int .u8 (b.getD 6 0 : Nat)) := by rw [← hW2]; exact y6
  have t7 : W2.cell? ⟨ad.block, ad.off + 7, none⟩ = some (.int .u8 (b.getD 7 0 : Nat)) := by rw [← hW2]; exact y7
  have t8 : W2.cell? ⟨ad.block, ad.off + 8, none⟩ = some (.int .u8 (b.getD 8 0 : Nat)) := by rw [← hW2]; exact y8
  have hW2b : Below w.heap.size w W2 := by rw [← hW2]; exact below_drewN HW.out nq
  have kq2 : Blk W2 q 94 #[.int .i64 0, .slice none 0 0] := by rw [← hW2]; exact KQ.out.drewN nq
  rw [hW2]
  clear y5 y6 y7 y8 z0 z1 zf
  generalize b.getD 5 0 = b5 at o8 t5 s5
  generalize b.getD 6 0 = b6 at o8 t6 s6
  generalize b.getD 7 0 = b7 at o8 t7 s7
  generalize b.getD 8 0 = b8 at o8 t8 s8
  go_quiet (fail)
  clear o8 t5 t6 t7 t8 n5 n6 n7 n8 s5 s6 s7 s8 H8
  go_wp2
  obtain ⟨W3, hW3⟩ : ∃ W, W2.drewN nq = W := ⟨_, rfl⟩
  have hW3b : Below w.heap.size w W3.drew := by rw [← hW3]; exact (below_drewN hW2b nq).drew
  have kq3 : Blk W3.drew q 94 #[.int .i64 0, .slice none 0 0] := by rw [← hW3]; exact kq2.drewN nq
  rw [hW3]
  -- region 9: the sum of what stands ahead of it and of the body
  have r5 : Reads W3.drew w.heap.size 1 (some ad) 5 (byts (b.take 5)) := by
    obtain ⟨hM, _, _, hlen, _, hc, _⟩ := HM.out
    have := ((HE.out.2.2.2.more hB).below hW3b).upto (k := 5) (by omega)
    rwa [Nat.mul_one, ← byts_take] at this
  have r9 : Reads W3.drew w.heap.size 1 (if c = 9 then some ad else some (ad.add 9)) N (byts (bodyN b)) := by
    obtain ⟨hM, _, _, hlen, _, hc, _⟩ := HM.out
    have := ((HE.out.2.2.2.more hB).below hW3b).sub (lo := 9) (hi := M) (cap := c) (by omega) (by omega) hc
    rw [show M - 9 = N by omega, ← byts_drop, ← byts_take] at this
    unfold bodyN
    rw [HE.out.1]
    exact this
  obtain ⟨CS, hCS⟩ : ∃ S, crcSum (b.take 5 ++ bodyN b) = S := ⟨_, rfl⟩
  have hbl : (bodyN b).length = N := by have := r9.1; rw [byts_length] at this; omega
  have C15 : ∀ A9 c9, (if c = 9 then some ad else some (ad.add 9)) = A9 → Calls Try.prog 15 #[.slice (some ⟨W3.heap.size, 0, none⟩) 2 2] (W3.drew.alloc (.cells #[.slice (some ad) 5 c, .slice A9 N c9] 24)) fun e w2 => e = .returned (.int .u32 CS) ∧ Below w.heap.size w w2 ∧ Blk w2 q 94 #[.int .i64 0, .slice none 0 0] := by
    rintro A9 c9 rfl
    have hk2 := Blk.new W3.drew 24 #[.slice (some ad) 5 c, .slice (if c = 9 then some ad else some (ad.add 9)) N c9]
    have hbb := hW3b.alloc hW3b.size (.cells #[.slice (some ad) 5 c, .slice (if c = 9 then some ad else some (ad.add 9)) N c9] 24)
    have hba : Below W3.drew.heap.size W3.drew (W3.drew.alloc (.cells #[.slice (some ad) 5 c, .slice (if c = 9 then some ad else some (ad.add 9)) N c9] 24)) := (Below.refl _ _).alloc (Nat.le_refl _) _
    obtain ⟨_, _, _, hlen, hn, _, _⟩ := HM.out
    have h2 := reads2_two hk2.lt hk2 (show (b.take 5).length = 5 by rw [List.length_take]; omega) hbl ((r5.more hW3b.size).below hba |>.more hba.size) (HB.out.take 5) (by omega) ((r9.more hW3b.size).below hba |>.more hba.size) ((HB.out.drop 9).take _) (by omega)
    refine (sum_any _ _ _ 2 2 _ h2 (Nat.le_refl _) (by omega)).mono ?_
    rintro e w2 ⟨rfl, m2⟩
    exact ⟨by rw [← hCS]; simp, hbb.trans (m2.mono hbb.size), (kq3.alloc _).below m2 (kq3.alloc _).lt⟩
  have C15' := Lib.hid C15
  have g1 : (5 : Int) ≤ (c : Int) := by obtain ⟨hM, _, _, _, _, hc, _⟩ := HM.out; omega
  have g2 : (9 : Int) ≤ (M : Int) := by obtain ⟨hM, _⟩ := HM.out; omega
  have g3 : (M : Int) ≤ (c : Int) := by obtain ⟨hM, _, _, _, _, hc, _⟩ := HM.out; omega
  have g4 : (M : Int) - 9 = (N : Int) := by obtain ⟨hM, _⟩ := HM.out; omega
  have g5 : M - 9 = N := by obtain ⟨hM, _⟩ := HM.out; omega
  have kq3' := Lib.hid kq3
  clear C15 r5 r9 kq3 kq2 hW3 hW2 hW1
  by_cases hc9 : c = 9
  · subst hc9
    have g3' : (M : Int) ≤ 9 := by omega
    have g6 : M ≤ 9 := by omega
    have g7 : 9 ≤ M := by omega
    have g8 : (5 : Int) ≤ 9 := by omega
    clear g1 g3
    have c15 := fun c9 => C15'.out (some ad) c9 (by rw [if_pos rfl])
    go_region_law (first | (go_simp; go_at_call 15; refine (c15 _).mono ?_; clear c15; rintro e w2 ⟨rfl, b2, k2⟩; have B2 := Lib.hid b2; have K2 := Lib.hid k2; clear b2 k2))
    all_goals
      by_cases hne : CS = SS
      · have hE : beginE b = 0 := by
          obtain ⟨hM, hbig, hshort, hlen, _, _, _⟩ := HM.out
          unfold beginE
          rw [if_neg (by omega), if_neg (by rw [HE.out.1]; exact hbig), if_neg (by rw [HE.out.1]; omega), if_pos (by rw [hCS, HE.out.2.1]; exact hne)]
        have qn : ((CS : Int) != (SS : Int)) = false := by rw [bne_eq_false_iff_eq]; omega
        obtain ⟨i0, hi, hz0, hz1, hz2⟩ := info_parts Try.info5w
        have hW4 : Below w.heap.size w (w2.drew.alloc (.cells #[] 5)) := (B2.out.drew).alloc (show w.heap.size ≤ w2.drew.heap.size from B2.out.size) _
        have r9 : Reads (w2.drew.alloc (.cells #[] 5)) w.heap.size 1 (some ad) N (byts (bodyN b)) := by
          obtain ⟨hM, _, _, hlen, _, hc, _⟩ := HM.out
          have := ((HE.out.2.2.2.more hB).below hW4).sub (lo := 9) (hi := M) (cap := 9) (by omega) (by omega) hc
          rw [show M - 9 = N by omega, ← byts_drop, ← byts_take, if_pos rfl] at this
          unfold bodyN
          rw [HE.out.1]
          exact this
        have yb : w2.drew.cell? ad = some (.int .u8 (b.getD 0 0 : Nat)) := reads_byte ((HE.out.2.2.2.more hB).below B2.out.drew) 0 (by obtain ⟨hM, _, hs, _⟩ := HM.out; omega)
        have sb := getD_small HB.out 0
        have ho : (w2.drew.alloc (.cells #[] 5)).ownsRow w.heap.size 5 1 (.slice (some ⟨w2.drew.heap.size, 0, none⟩) 0 0) 0 [] := World.ownsRow_made w2.drew #[] 0 (show w.heap.size ≤ w2.drew.heap.size from B2.out.size) (by unfold maxLen; omega) rfl
        have n0 : (0 : Int) < (n : Int) := by obtain ⟨hM, _, hs, _⟩ := HM.out; omega
        have n0' : 0 < n := by omega
        have hNm : N ≤ 2147483647 := by obtain ⟨_, hb, _⟩ := HM.out; omega
        generalize hb0 : b.getD 0 0 = b0 at *
        have fin : ∀ v2 w3, w3.ownsRow w.heap.size 5 1 v2 (0 + N) ([] ++ byts (bodyN b)) → (w2.drew.alloc (.cells #[] 5)).grownBy w3 (Value.slice (some ⟨w2.drew.heap.size, 0, none⟩) 0 0).ownBlock →
            ∃ A2 c2, v2 = .slice A2 N c2 ∧ w3.ownsRow w.heap.size 5 1 (.slice A2 N c2) N (byts (bodyN b)) ∧ Below w.heap.size w w3 ∧ Blk w3 q 94 #[.int .i64 0, .slice none 0 0] ∧ w3.cell? ad = some (.int .u8 b0) := by
          intro v2 w3 ho2 hg2
          rw [Nat.zero_add, List.nil_append] at ho2
          obtain ⟨A2, c2, rfl⟩ := own_shape ho2
          have ka : Blk (w2.drew.alloc (.cells #[] 5)) q 94 #[.int .i64 0, .slice none 0 0] := (show Blk w2.drew q 94 _ from K2.out).alloc _
          have hb3 := hW4.grown hg2 hW4.size (own_base ho)
          exact ⟨A2, c2, rfl, ho2, hb3, ka.grown hg2 (fun e => own_blk_ne ho ka (by decide) e.symm), by rw [← hb0]; exact reads_byte ((HE.out.2.2.2.more hB).below hb3) 0 (by obtain ⟨hM, _, hs, _⟩ := HM.out; omega)⟩
        have yb2 : (w2.alloc (.cells #[] 5)).drew.cell? ad = some (.int .u8 b0) := by
          rw [← hb0]
          exact reads_byte ((HE.out.2.2.2.more hB).below hW4) 0 (by obtain ⟨hM, _, hs, _⟩ := HM.out; omega)
        have FIN := Lib.hid fin
        have HRow := Lib.hid (And.intro r9 ho)
        clear hCS hbl fin
        go_wp2
        go_region_law (first | (refine step_append_any (w2.drew.alloc (.cells #[] 5)) rfl _ _ 24 rfl w.heap.size 5 i0 (.int .u8 0) 1 1 Try.underlying24 hi hz0 hz1 hz2 rfl (by decide) _ _ _ rfl HRow.out.2 w.heap.size (some ad) N _ _ rfl HRow.out.1 (byts_one _) (by unfold maxLen; omega) (by omega) (by simp; exact Nat.le_succ_of_le B2.out.size) ?_; intro v2 w3 ho2 hg2 _; obtain ⟨A2, c2, rfl, o3, b3, k3, yb3⟩ := FIN.out v2 w3 ho2 hg2; have z0 := (k3.cell 0).trans rfl; have z1 := (k3.cell 1).trans rfl; have zf := k3.frozen; have O3 := Lib.hid (And.intro o3 (And.intro b3 k3)); clear o3 b3 k3 ho2 hg2))
        all_goals
          go_wp2
          obtain ⟨o3, b3, k3⟩ := O3.out
          have hwb : IntKind.i64.wrap (b0 : Int) = (b0 : Int) := IntWalk.i64_in _ (by omega)
          rw [hwb]
          have kV := (k3.set_ 0 (.int .i64 b0)).set_ 1 (.slice A2 N c2)
          have hV : Below w.heap.size w ((w3.setCell ⟨q, 0, none⟩ (.int .i64 b0)).setCell ⟨q, 1, none⟩ (.slice A2 N c2)) := (b3.setCell (p := ⟨q, 0, none⟩) (Nat.le_of_eq hq) _).setCell (p := ⟨q, 1, none⟩) (Nat.le_of_eq hq) _
          have oV := own_setCell (own_setCell o3 (p := ⟨q, 0, none⟩) (fun e => own_blk_ne o3 k3 (by decide) e) (.int .i64 b0)) (p := ⟨q, 1, none⟩) (fun e => own_blk_ne o3 k3 (by decide) e) (.slice A2 N c2)
          obtain ⟨V, hVV⟩ : ∃ V, (w3.setCell ⟨q, 0, none⟩ (.int .i64 b0)).setCell ⟨q, 1, none⟩ (.slice A2 N c2) = V := ⟨_, rfl⟩
          rw [hVV] at kV hV oV ⊢
          have v0 : V.cell? ⟨q, 0, none⟩ = some (.int .i64 b0) := (kV.cell 0).trans rfl
          have v1 : V.cell? ⟨q, 1, none⟩ = some (.slice A2 N c2) := (kV.cell 1).trans rfl
          have hP : BegPost w b (.returned (.tuple #[.agg #[.int .i64 b0, .slice A2 N c2], .int .i64 M, .int .i64 0])) V := ⟨hV, .inr ⟨hE, A2, c2, by rw [hb0, HE.out.1, HM.out.1], by rw [HE.out.1]; exact oV⟩⟩
          clear hVV kV hV oV o3 b3 k3 z0 z1 zf
          refine bodyPost_ret (v := .tuple #[.agg #[.int .i64 b0, .slice A2 N c2], .int .i64 M, .int .i64 0]) ?_ rfl hP
          simp [results, Try.f82, go_sem, v0, v1]
      · have hE : beginE b = 141 := by
          obtain ⟨hM, hbig, hshort, hlen, _, _, _⟩ := HM.out
          unfold beginE
          rw [if_neg (by omega), if_neg (by rw [HE.out.1]; exact hbig), if_neg (by rw [HE.out.1]; omega), if_neg (by rw [hCS, HE.out.2.1]; exact hne)]
        have qn : ((CS : Int) != (SS : Int)) = true := by rw [bne_iff_ne]; omega
        have qn' : ¬ (CS : Int) = (SS : Int) := by omega
        have HP := Lib.hid (fun W hb => HE.out.2.2.1 W 141 hE (by decide) hb)
        have z0 := (K2.out.cell 0).trans rfl
        have z1 := (K2.out.cell 1).trans rfl
        have zf := K2.out.frozen
        clear hE hCS hbl
        go_wp2
        have kV := (K2.out.set_ 0 (.int .i64 0)).set_ 1 (.slice none 0 0)
        have hV : Below w.heap.size w ((w2.setCell ⟨q, 0, none⟩ (.int .i64 0)).setCell ⟨q, 1, none⟩ (.slice none 0 0)) := (B2.out.setCell (p := ⟨q, 0, none⟩) (Nat.le_of_eq hq) _).setCell (p := ⟨q, 1, none⟩) (Nat.le_of_eq hq) _
        obtain ⟨V, hVV⟩ : ∃ V, (w2.setCell ⟨q, 0, none⟩ (.int .i64 0)).setCell ⟨q, 1, none⟩ (.slice none 0 0) = V := ⟨_, rfl⟩
        rw [hVV] at kV hV ⊢
        have v0 : V.cell? ⟨q, 0, none⟩ = some (.int .i64 0) := (kV.cell 0).trans rfl
        have v1 : V.cell? ⟨q, 1, none⟩ = some (.slice none 0 0) := (kV.cell 1).trans rfl
        have hP := HP.out _ hV
        clear hVV kV hV HP z0 z1 zf
        refine bodyPost_ret (v := .tuple #[.agg #[.int .i64 0, .slice none 0 0], .int .i64 0, .int .i64 141]) ?_ rfl hP
        simp [results, Try.f82, go_sem, v0, v1]
  · have c15 := fun c9 => C15'.out (some ⟨ad.block, ad.off + 9, none⟩) c9 (by rw [if_neg hc9]; rfl)
    go_region_law (first | (go_simp; go_at_call 15; refine (c15 _).mono ?_; clear c15; rintro e w2 ⟨rfl, b2, k2⟩; have B2 := Lib.hid b2; have K2 := Lib.hid k2; clear b2 k2))
    all_goals
      by_cases hne : CS = SS
      · have hE : beginE b = 0 := by
          obtain ⟨hM, hbig, hshort, hlen, _, _, _⟩ := HM.out
          unfold beginE
          rw [if_neg (by omega), if_neg (by rw [HE.out.1]; exact hbig), if_neg (by rw [HE.out.1]; omega), if_pos (by rw [hCS, HE.out.2.1]; exact hne)]
        have qn : ((CS : Int) != (SS : Int)) = false := by rw [bne_eq_false_iff_eq]; omega
        obtain ⟨i0, hi, hz0, hz1, hz2⟩ := info_parts Try.info5w
        have hW4 : Below w.heap.size w (w2.drew.alloc (.cells #[] 5)) := (B2.out.drew).alloc (show w.heap.size ≤ w2.drew.heap.size from B2.out.size) _
        have r9 : Reads (w2.drew.alloc (.cells #[] 5)) w.heap.size 1 (some ⟨ad.block, ad.off + 9, none⟩) N (byts (bodyN b)) := by
          obtain ⟨hM, _, _, hlen, _, hc, _⟩ := HM.out
          have := ((HE.out.2.2.2.more hB).below hW4).sub (lo := 9) (hi := M) (cap := c) (by omega) (by omega) hc
          rw [show M - 9 = N by omega, ← byts_drop, ← byts_take, if_neg hc9] at this
          unfold bodyN
          rw [HE.out.1]
          exact this
        have yb : w2.drew.cell? ad = some (.int .u8 (b.getD 0 0 : Nat)) := reads_byte ((HE.out.2.2.2.more hB).below B2.out.drew) 0 (by obtain ⟨hM, _, hs, _⟩ := HM.out; omega)
        have sb := getD_small HB.out 0
        have ho : (w2.drew.alloc (.cells #[] 5)).ownsRow w.heap.size 5 1 (.slice (some ⟨w2.drew.heap.size, 0, none⟩) 0 0) 0 [] := World.ownsRow_made w2.drew #[] 0 (show w.heap.size ≤ w2.drew.heap.size from B2.out.size) (by unfold maxLen; omega) rfl
        have n0 : (0 : Int) < (n : Int) := by obtain ⟨hM, _, hs, _⟩ := HM.out; omega
        have n0' : 0 < n := by omega
        have hNm : N ≤ 2147483647 := by obtain ⟨_, hb, _⟩ := HM.out; omega
        generalize hb0 : b.getD 0 0 = b0 at *
        have fin : ∀ v2 w3, w3.ownsRow w.heap.size 5 1 v2 (0 + N) ([] ++ byts (bodyN b)) → (w2.drew.alloc (.cells #[] 5)).grownBy w3 (Value.slice (some ⟨w2.drew.heap.size, 0, none⟩) 0 0).ownBlock →
            ∃ A2 c2, v2 = .slice A2 N c2 ∧ w3.ownsRow w.heap.size 5 1 (.slice A2 N c2) N (byts (bodyN b)) ∧ Below w.heap.size w w3 ∧ Blk w3 q 94 #[.int .i64 0, .slice none 0 0] ∧ w3.cell? ad = some (.int .u8 b0) := by
          intro v2 w3 ho2 hg2
          rw [Nat.zero_add, List.nil_append] at ho2
          obtain ⟨A2, c2, rfl⟩ := own_shape ho2
          have ka : Blk (w2.drew.alloc (.cells #[] 5)) q 94 #[.int .i64 0, .slice none 0 0] := (show Blk w2.drew q 94 _ from K2.out).alloc _
          have hb3 := hW4.grown hg2 hW4.size (own_base ho)
          exact ⟨A2, c2, rfl, ho2, hb3, ka.grown hg2 (fun e => own_blk_ne ho ka (by decide) e.symm), by rw [← hb0]; exact reads_byte ((HE.out.2.2.2.more hB).below hb3) 0 (by obtain ⟨hM, _, hs, _⟩ := HM.out; omega)⟩
        have yb2 : (w2.alloc (.cells #[] 5)).drew.cell? ad = some (.int .u8 b0) := by
          rw [← hb0]
          exact reads_byte ((HE.out.2.2.2.more hB).below hW4) 0 (by obtain ⟨hM, _, hs, _⟩ := HM.out; omega)
        have FIN := Lib.hid fin
        have HRow := Lib.hid (And.intro r9 ho)
        clear hCS hbl fin
        go_wp2
        go_region_law (first | (refine step_append_any (w2.drew.alloc (.cells #[] 5)) rfl _ _ 24 rfl w.heap.size 5 i0 (.int .u8 0) 1 1 Try.underlying24 hi hz0 hz1 hz2 rfl (by decide) _ _ _ rfl HRow.out.2 w.heap.size (some ⟨ad.block, ad.off + 9, none⟩) N _ _ rfl HRow.out.1 (byts_one _) (by unfold maxLen; omega) (by omega) (by simp; exact Nat.le_succ_of_le B2.out.size) ?_; intro v2 w3 ho2 hg2 _; obtain ⟨A2, c2, rfl, o3, b3, k3, yb3⟩ := FIN.out v2 w3 ho2 hg2; have z0 := (k3.cell 0).trans rfl; have z1 := (k3.cell 1).trans rfl; have zf := k3.frozen; have O3 := Lib.hid (And.intro o3 (And.intro b3 k3)); clear o3 b3 k3 ho2 hg2))
        all_goals
          go_wp2
          obtain ⟨o3, b3, k3⟩ := O3.out
          have hwb : IntKind.i64.wrap (b0 : Int) = (b0 : Int) := IntWalk.i64_in _ (by omega)
          rw [hwb]
          have kV := (k3.set_ 0 (.int .i64 b0)).set_ 1 (.slice A2 N c2)
          have hV : Below w.heap.size w ((w3.setCell ⟨q, 0, none⟩ (.int .i64 b0)).setCell ⟨q, 1, none⟩ (.slice A2 N c2)) := (b3.setCell (p := ⟨q, 0, none⟩) (Nat.le_of_eq hq) _).setCell (p := ⟨q, 1, none⟩) (Nat.le_of_eq hq) _
          have oV := own_setCell (own_setCell o3 (p := ⟨q, 0, none⟩) (fun e => own_blk_ne o3 k3 (by decide) e) (.int .i64 b0)) (p := ⟨q, 1, none⟩) (fun e => own_blk_ne o3 k3 (by decide) e) (.slice A2 N c2)
          obtain ⟨V, hVV⟩ : ∃ V, (w3.setCell ⟨q, 0, none⟩ (.int .i64 b0)).setCell ⟨q, 1, none⟩ (.slice A2 N c2) = V := ⟨_, rfl⟩
          rw [hVV] at kV hV oV ⊢
          have v0 : V.cell? ⟨q, 0, none⟩ = some (.int .i64 b0) := (kV.cell 0).trans rfl
          have v1 : V.cell? ⟨q, 1, none⟩ = some (.slice A2 N c2) := (kV.cell 1).trans rfl
          have hP : BegPost w b (.returned (.tuple #[.agg #[.int .i64 b0, .slice A2 N c2], .int .i64 M, .int .i64 0])) V := ⟨hV, .inr ⟨hE, A2, c2, by rw [hb0, HE.out.1, HM.out.1], by rw [HE.out.1]; exact oV⟩⟩
          clear hVV kV hV oV o3 b3 k3 z0 z1 zf
          refine bodyPost_ret (v := .tuple #[.agg #[.int .i64 b0, .slice A2 N c2], .int .i64 M, .int .i64 0]) ?_ rfl hP
          simp [results, Try.f82, go_sem, v0, v1]
      · have hE : beginE b = 141 := by
          obtain ⟨hM, hbig, hshort, hlen, _, _, _⟩ := HM.out
          unfold beginE
          rw [if_neg (by omega), if_neg (by rw [HE.out.1]; exact hbig), if_neg (by rw [HE.out.1]; omega), if_neg (by rw [hCS, HE.out.2.1]; exact hne)]
        have qn : ((CS : Int) != (SS : Int)) = true := by rw [bne_iff_ne]; omega
        have qn' : ¬ (CS : Int) = (SS : Int) := by omega
        have HP := Lib.hid (fun W hb => HE.out.2.2.1 W 141 hE (by decide) hb)
        have z0 := (K2.out.cell 0).trans rfl
        have z1 := (K2.out.cell 1).trans rfl
        have zf := K2.out.frozen
        clear hE hCS hbl
        go_wp2
        have kV := (K2.out.set_ 0 (.int .i64 0)).set_ 1 (.slice none 0 0)
        have hV : Below w.heap.size w ((w2.setCell ⟨q, 0, none⟩ (.int .i64 0)).setCell ⟨q, 1, none⟩ (.slice none 0 0)) := (B2.out.setCell (p := ⟨q, 0, none⟩) (Nat.le_of_eq hq) _).setCell (p := ⟨q, 1, none⟩) (Nat.le_of_eq hq) _
        obtain ⟨V, hVV⟩ : ∃ V, (w2.setCell ⟨q, 0, none⟩ (.int .i64 0)).setCell ⟨q, 1, none⟩ (.slice none 0 0) = V := ⟨_, rfl⟩
        rw [hVV] at kV hV ⊢
        have v0 : V.cell? ⟨q, 0, none⟩ = some (.int .i64 0) := (kV.cell 0).trans rfl
        have v1 : V.cell? ⟨q, 1, none⟩ = some (.slice none 0 0) := (kV.cell 1).trans rfl
        have hP := HP.out _ hV
        clear hVV kV hV HP z0 z1 zf
        refine bodyPost_ret (v := .tuple #[.agg #[.int .i64 0, .slice none 0 0], .int .i64 0, .int .i64 141]) ?_ rfl hP
        simp [results, Try.f82, go_sem, v0, v1]
end Go.Proofs.Ytpnagblbhlglhaa
