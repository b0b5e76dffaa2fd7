/- The document's Begin, of bytes whose capacity is nine. Conditions: those that it states. -/
import Derived.Test.YtpnagblbhlglhaaFrameRefBegin1
namespace Go.Proofs.Ytpnagblbhlglhaa
open Go.RowKit
set_option maxHeartbeats 8000000 in
set_option maxRecDepth 100000 in
theorem refBegin_nine (w : World) (B : Nat) (A : Option Addr) (n c : Nat) (b : List Nat) (h : Reads w B 1 A n (byts b)) (hs : Small b) (hB : B ≤ w.heap.size) (hn : n ≤ 100000) (hc : n ≤ c) (hc9 : c = 9) :
    Calls Try.prog 80 #[.slice A n c] w (BegPost w b) := by
  have hlen : b.length = n := by have := h.1; rw [byts_length] at this; omega
  have hw1 : Below w.heap.size w (w.alloc (.cells #[.int .i64 0, .slice none 0 0] 94)) := (Below.refl _ w).alloc (Nat.le_refl _) _
  have kq : Blk (w.alloc (.cells #[.int .i64 0, .slice none 0 0] 94)) w.heap.size 94 #[.int .i64 0, .slice none 0 0] := Blk.new w 94 _
  have errs : ∀ (W : World) (E : Nat), beginE b = E → E ≠ 0 → Below w.heap.size w W → BegPost w b (.returned (.tuple #[.agg #[.int .i64 0, .slice none 0 0], .int .i64 0, .int .i64 (E : Nat)])) W := fun W E hE h0 hb => ⟨hb, .inl ⟨by rw [hE]; exact h0, by rw [hE]⟩⟩
  by_cases h9 : n < 9
  · have hE : beginE b = 140 := by unfold beginE; rw [if_pos (by omega)]
    have q1 : (n : Int) < 9 := by omega
    have H := Lib.hid (errs _ 140 hE (by decide) hw1)
    clear errs hE h
    have z0 := (kq.cell 0).trans rfl
    have z1 := (kq.cell 1).trans rfl
    go_enter Try.func80, Try.ntmps80
    go_wp2
    refine bodyPost_ret (v := .tuple #[.agg #[.int .i64 0, .slice none 0 0], .int .i64 0, .int .i64 140]) ?_ rfl H.out
    simp [results, Try.f80, go_sem]
  obtain ⟨ad, rfl, hab, _⟩ := h.2 (by omega)
  have q1 : ¬ (n : Int) < 9 := by omega
  obtain ⟨W1, hW1⟩ : ∃ W, w.alloc (.cells #[.int .i64 0, .slice none 0 0] 94) = W := ⟨_, rfl⟩
  rw [hW1] at hw1 kq
  have hr := (h.more hB).below hw1
  have y1 : W1.cell? ⟨ad.block, ad.off + 1, none⟩ = some (.int .u8 (b.getD 1 0 : Nat)) := reads_byte hr 1 (by omega)
  have y2 : W1.cell? ⟨ad.block, ad.off + 2, none⟩ = some (.int .u8 (b.getD 2 0 : Nat)) := reads_byte hr 2 (by omega)
  have y3 : W1.cell? ⟨ad.block, ad.off + 3, none⟩ = some (.int .u8 (b.getD 3 0 : Nat)) := reads_byte hr 3 (by omega)
  have y4 : W1.cell? ⟨ad.block, ad.off + 4, none⟩ = some (.int .u8 (b.getD 4 0 : Nat)) := reads_byte hr 4 (by omega)
  obtain ⟨N, hN⟩ : ∃ N, bgN b = N := ⟨_, rfl⟩
  have hNlt : N < 4294967296 := by rw [← hN]; exact num4_lt _ _ _ _ (getD_small hs 1) (getD_small hs 2) (getD_small hs 3) (getD_small hs 4)
  have hsum : ((b.getD 1 0 : Nat) : Int) * 16777216 + ((b.getD 2 0 : Nat) : Int) * 65536 + ((b.getD 3 0 : Nat) : Int) * 256 + ((b.getD 4 0 : Nat) : Int) = (N : Int) := by
    have e : num4 (b.getD 1 0) (b.getD 2 0) (b.getD 3 0) (b.getD 4 0) = N := hN
    unfold num4 at e
    generalize b.getD 1 0 = x1 at e ⊢
    generalize b.getD 2 0 = x2 at e ⊢
    generalize b.getD 3 0 = x3 at e ⊢
    generalize b.getD 4 0 = x4 at e ⊢
    omega
  have s1 := getD_small hs 1
  have s2 := getD_small hs 2
  have s3 := getD_small hs 3
  have s4 := getD_small hs 4
  have n1 : (1 : Int) < (n : Int) := by omega
  have n2 : (2 : Int) < (n : Int) := by omega
  have n3 : (3 : Int) < (n : Int) := by omega
  have n4 : (4 : Int) < (n : Int) := by omega
  have z0 := (kq.cell 0).trans rfl
  have z1 := (kq.cell 1).trans rfl
  have zf := kq.frozen
  have KQ := Lib.hid kq
  have HW := Lib.hid hw1
  have HE := Lib.hid (And.intro hN (And.intro hs (And.intro errs (And.intro h hlen))))
  obtain ⟨q, hq⟩ : ∃ q, w.heap.size = q := ⟨_, rfl⟩
  rw [hq] at z0 z1 zf KQ
  clear errs h hr kq hN hs hw1
  generalize b.getD 1 0 = b1 at hsum y1 s1
  generalize b.getD 2 0 = b2 at hsum y2 s2
  generalize b.getD 3 0 = b3 at hsum y3 s3
  generalize b.getD 4 0 = b4 at hsum y4 s4
  go_enter Try.func80, Try.ntmps80
  go_wp2
  go_quiet (fail)
  clear y1 y2 y3 y4 s1 s2 s3 s4 n1 n2 n3 n4 hsum
  have w9 : IntKind.i64.wrap (9 + (N : Int)) = 9 + (N : Int) := IntWalk.i64_in _ (by omega)
  obtain ⟨W2, hW2⟩ : ∃ W, W1.drewN nq = W := ⟨_, rfl⟩
  have hW2b : Below w.heap.size w W2 := by rw [← hW2]; exact below_drewN HW.out nq
  have kq2 : Blk W2 q 94 #[.int .i64 0, .slice none 0 0] := by rw [← hW2]; exact KQ.out.drewN nq
  have x0 := (kq2.cell 0).trans rfl
  have x1 := (kq2.cell 1).trans rfl
  have xf := kq2.frozen
  rw [hW2]
  clear hW2 z0 z1 zf KQ
  by_cases hbig : 2147483647 < N
  · have hE : beginE b = 141 := by unfold beginE; rw [if_neg (by rw [HE.out.2.2.2.2]; exact h9), if_pos (by rw [HE.out.1]; exact hbig)]
    have q2 : ¬ (N : Int) ≤ 2147483647 := by omega
    have q3 : (2147483647 : Int) < (N : Int) := by omega
    have H := Lib.hid (fun W hb => HE.out.2.2.1 W 141 hE (by decide) hb)
    go_wp2
    have kV := (kq2.set_ 0 (.int .i64 0)).set_ 1 (.slice none 0 0)
    have hV : Below w.heap.size w ((W2.setCell ⟨q, 0, none⟩ (.int .i64 0)).setCell ⟨q, 1, none⟩ (.slice none 0 0)) := (hW2b.setCell (p := ⟨q, 0, none⟩) (Nat.le_of_eq hq) _).setCell (p := ⟨q, 1, none⟩) (Nat.le_of_eq hq) _
    obtain ⟨V, hVV⟩ : ∃ V, (W2.setCell ⟨q, 0, none⟩ (.int .i64 0)).setCell ⟨q, 1, none⟩ (.slice none 0 0) = V := ⟨_, rfl⟩
    rw [hVV] at kV hV ⊢
    have v0 : V.cell? ⟨q, 0, none⟩ = some (.int .i64 0) := (kV.cell 0).trans rfl
    have v1 : V.cell? ⟨q, 1, none⟩ = some (.slice none 0 0) := (kV.cell 1).trans rfl
    have hP := H.out _ hV
    clear hVV kV hV H x0 x1 xf
    refine bodyPost_ret (v := .tuple #[.agg #[.int .i64 0, .slice none 0 0], .int .i64 0, .int .i64 141]) ?_ rfl hP
    simp [results, Try.f80, go_sem, v0, v1]
  by_cases hshort : n < 9 + N
  · have hE : beginE b = 140 := by unfold beginE; rw [if_neg (by rw [HE.out.2.2.2.2]; exact h9), if_neg (by rw [HE.out.1]; exact hbig), if_pos (by rw [HE.out.1, HE.out.2.2.2.2]; exact hshort)]
    have q2 : (N : Int) ≤ 2147483647 := by omega
    have q3 : (n : Int) < 9 + (N : Int) := by omega
    have H := Lib.hid (fun W hb => HE.out.2.2.1 W 140 hE (by decide) hb)
    go_wp2
    have kV := (kq2.set_ 0 (.int .i64 0)).set_ 1 (.slice none 0 0)
    have hV : Below w.heap.size w ((W2.setCell ⟨q, 0, none⟩ (.int .i64 0)).setCell ⟨q, 1, none⟩ (.slice none 0 0)) := (hW2b.setCell (p := ⟨q, 0, none⟩) (Nat.le_of_eq hq) _).setCell (p := ⟨q, 1, none⟩) (Nat.le_of_eq hq) _
    obtain ⟨V, hVV⟩ : ∃ V, (W2.setCell ⟨q, 0, none⟩ (.int .i64 0)).setCell ⟨q, 1, none⟩ (.slice none 0 0) = V := ⟨_, rfl⟩
    rw [hVV] at kV hV ⊢
    have v0 : V.cell? ⟨q, 0, none⟩ = some (.int .i64 0) := (kV.cell 0).trans rfl
    have v1 : V.cell? ⟨q, 1, none⟩ = some (.slice none 0 0) := (kV.cell 1).trans rfl
    have hP := H.out _ hV
    clear hVV kV hV H x0 x1 xf
    refine bodyPost_ret (v := .tuple #[.agg #[.int .i64 0, .slice none 0 0], .int .i64 0, .int .i64 140]) ?_ rfl hP
    simp [results, Try.f80, go_sem, v0, v1]
  obtain ⟨M, hM⟩ : ∃ M, 9 + N = M := ⟨_, rfl⟩
  have q2 : (N : Int) ≤ 2147483647 := by omega
  have q3 : ¬ (n : Int) < (M : Int) := by omega
  have q4 : ¬ (2147483647 : Int) < (N : Int) := by omega
  have w10 : IntKind.i64.wrap (9 + (N : Int)) = (M : Int) := by rw [w9]; omega
  have g1 : (9 : Int) ≤ (M : Int) := by omega
  have g2 : (M : Int) ≤ (c : Int) := by omega
  have g4 : (M : Int) - 9 = (N : Int) := by omega
  have g5 : M - 9 = N := by omega
  have g6 : (0 : Int) ≤ (M : Int) := by omega
  have g7 : (0 : Int) < (n : Int) := by omega
  clear w9
  obtain ⟨i0, hi, hz0, hz1, hz2⟩ := info_parts Try.info5w
  have hr2 := (HE.out.2.2.2.1.more hB).below hW2b
  have r9 : Reads W2 w.heap.size 1 (if c = 9 then some ad else some (ad.add 9)) N (byts (bodyN b)) := by
    have := hr2.sub (lo := 9) (hi := M) (cap := c) (by omega) (by omega) hc
    rw [show M - 9 = N by omega, ← byts_drop, ← byts_take] at this
    unfold bodyN
    rw [HE.out.1]
    exact this
  have hbl : (bodyN b).length = N := by have := r9.1; rw [byts_length] at this; omega
  have hsb : Small (bodyN b) := small_body HE.out.2.1
  have hb0 := getD_small HE.out.2.1 0
  have hiff := frame_is HE.out.2.1 HE.out.1 (by rw [HE.out.2.2.2.2]; omega)
  rw [hM] at hiff
  have hE : beginE b = if crcSum (b.take 5 ++ bodyN b) = bgS b then 0 else 141 := beginE_eq (by rw [HE.out.2.2.2.2]; omega) (by rw [HE.out.1]; omega) (by rw [HE.out.1, HE.out.2.2.2.2]; omega)
  obtain ⟨BD, hBD⟩ : ∃ L, bodyN b = L := ⟨_, rfl⟩
  rw [hBD] at r9 hbl hsb hiff hE
  obtain ⟨b0, hbb⟩ : ∃ x, b.getD 0 0 = x := ⟨_, rfl⟩
  rw [hbb] at hiff hb0
  obtain ⟨FB, hFB⟩ : ∃ L, frameN b0 (BD) = L := ⟨_, rfl⟩
  have hsF : Small FB := by
    rw [← hFB]
    exact small_append (small_append (headN_small hb0) (word4_small _)) hsb
  rw [hFB] at hiff
  have hsT : Small (b.take M) := small_take HE.out.2.1 M
  have FIN : ∀ (v3 : Value) (w3 : World), w3.ownsRow q 5 1 v3 N (byts (BD)) → W2.grownBy w3 (Value.slice none 0 0).ownBlock → ∃ A3 c3, v3 = .slice A3 N c3 ∧
      Hid (w3.ownsRow w.heap.size 5 1 (.slice A3 N c3) N (byts (BD)) ∧ Below w.heap.size w w3 ∧ Blk w3 q 94 #[.int .i64 0, .slice none 0 0]) := by
    intro v3 w3 ho hg
    rw [← hq] at ho
    obtain ⟨A3, c3, rfl⟩ := own_shape ho
    exact ⟨A3, c3, rfl, Lib.hid ⟨ho, hW2b.grown hg hW2b.size (fun k hk => by cases hk), kq2.grown hg (fun e => by cases e)⟩⟩
  have HFIN := Lib.hid FIN
  have hsz2 := hW2b.size
  clear FIN x0 x1 xf kq2 hr2 hb0
  obtain ⟨A9, hA9⟩ : ∃ a, (if c = 9 then some ad else some (ad.add 9)) = a := ⟨_, rfl⟩
  rw [hA9] at r9
  subst hc9
  · rw [if_pos rfl] at hA9
    subst hA9
    have g2' : (M : Int) ≤ 9 := by omega
    have g8 : M ≤ 9 := by omega
    have HX := Lib.hid (And.intro hE (And.intro hiff (And.intro hFB (And.intro hsF (And.intro hsT (And.intro hsb (And.intro hbl (And.intro hBD hbb))))))))
    clear hE hiff hFB hsF hsT hsb hbl hBD hbb
    go_wp2_with (at_builtin; refine wpList_append_any _ rfl _ _ 24 rfl w.heap.size 5 i0 (.int .u8 0) 1 1 Try.underlying24 hi hz0 hz1 hz2 rfl (by decide) _ _ _ rfl (World.ownsRow_nil _ _ _ _) w.heap.size _ N _ _ rfl r9 (byts_one _) (by unfold maxLen; omega) (by omega) hsz2 ?_)
    intro v3 w3 ho3 hg3 _
    obtain ⟨A3, c3, rfl, H3⟩ := HFIN.out v3 w3 ho3 hg3
    clear ho3 hg3 HFIN r9
    obtain ⟨hE, hiff, hFB, hsF, hsT, hsb, hbl, hBD, hbb⟩ := HX.out
    clear HX
    have rT := fun (W : World) (hW : Below w3.heap.size w3 W) => run_str (P := Try.prog) (src := 24) (dst := 9) (c := 9) rfl rfl rfl (by
      have := ((HE.out.2.2.2.1.more hB).below (H3.out.2.1.trans (hW.mono H3.out.2.1.size))).upto (k := M) (by omega)
      rw [Nat.mul_one, ← byts_take] at this
      exact this) hsT
    have rY := fun (W : World) (hW : Below w3.heap.size w3 W) => reads_byte ((HE.out.2.2.2.1.more hB).below (H3.out.2.1.trans (hW.mono H3.out.2.1.size))) 0 (by omega)
    simp only [hbb] at rY
    have c62 : ∀ W, Below w3.heap.size w3 W → Calls Try.prog 62 #[.int .i64 (b0 : Nat), .slice A3 N c3] W fun e w' => ∃ A6 c6, e = .returned (.slice A6 (9 + N) c6) ∧ (convert 24 9 (.slice A6 (9 + N) c6)).run Try.prog w' = .ok (.string (strN FB)) w' ∧ Below w3.heap.size w3 w' := by
      intro W hW
      refine (refPut_any W w3.heap.size b0 A3 N c3 (BD) (by rw [← hbb]; exact getD_small HE.out.2.1 0) ((Reads.of_own H3.out.1).below hW) hsb hW.size (by omega)).mono ?_
      rintro e w' ⟨A6, c6, rfl, ho, hb⟩
      rw [hFB] at ho
      exact ⟨A6, c6, rfl, run_str rfl rfl rfl (Reads.of_own ho) hsF, hW.trans (hb.mono hW.size)⟩
    simp only [hM] at c62
    have bel := (Below.refl w3.heap.size w3).drew
    have f0 := rT _ bel
    have f1 := rY _ bel
    have hwb : IntKind.i64.wrap (b0 : Int) = (b0 : Int) := IntWalk.i64_in _ (by have := getD_small HE.out.2.1 0; omega)
    have k8 : ∀ W, Below w3.heap.size w3 W → Below w.heap.size w W ∧ Blk W q 94 #[.int .i64 0, .slice none 0 0] := fun W hW => ⟨H3.out.2.1.trans (hW.mono H3.out.2.1.size), H3.out.2.2.below hW H3.out.2.2.lt⟩
    have o8 : ∀ W, Below w3.heap.size w3 W → W.ownsRow w.heap.size 5 1 (.slice A3 N c3) N (byts (BD)) := fun W hW => own_fr H3.out.1 (Fr.of_new (S := noB) hW) (fun _ _ e => e)
    by_cases hcrc : crcSum (b.take 5 ++ BD) = bgS b
    · have hTF : b.take M = FB := (hiff.2 hcrc).symm
      rw [if_pos hcrc] at hE
      obtain ⟨Z, hZ⟩ : ∃ Z, strN FB = Z := ⟨_, rfl⟩
      rw [hTF] at f0
      simp only [hTF, hZ] at rT c62 f0
      have HQ := Lib.hid (And.intro hE (And.intro hbb hBD))
      clear hiff hcrc hE hTF hZ hFB hsF hsT hsb hbl hBD
      go_wp2
      go_region_held (fun w' => w'.cell? ad = some (.int .u8 (b0 : Nat)) ∧ (convert 24 9 (.slice (some ad) M 9)).run Try.prog w' = .ok (.string Z) w') (first | (refine ⟨?_, ?_⟩ <;> assumption) | go_keep) (first
        | (go_at_call 62; refine (c62 _ (by assumption)).mono ?_; rintro e w7 ⟨A7, c7, rfl, t7, g7⟩; have a0 := rT _ g7; have a1 := rY _ g7))
      all_goals
        have K8 := Lib.hid (k8 _ g7)
        have O8 := Lib.hid (o8 _ g7)
        have z0 := (K8.out.2.cell 0).trans rfl
        have z1 := (K8.out.2.cell 1).trans rfl
        have zf := K8.out.2.frozen
        clear k8 o8 c62 rT rY t7 f0 f1
        go_wp2
        have kV := (K8.out.2.set_ 0 (.int .i64 b0)).set_ 1 (.slice A3 N c3)
        have hV : Below w.heap.size w ((w7.setCell ⟨q, 0, none⟩ (.int .i64 b0)).setCell ⟨q, 1, none⟩ (.slice A3 N c3)) := (K8.out.1.setCell (p := ⟨q, 0, none⟩) (Nat.le_of_eq hq) _).setCell (p := ⟨q, 1, none⟩) (Nat.le_of_eq hq) _
        have o7 := O8.out
        have oV := own_setCell (own_setCell o7 (p := ⟨q, 0, none⟩) (fun e => own_blk_ne o7 K8.out.2 (by decide) e) (.int .i64 b0)) (p := ⟨q, 1, none⟩) (fun e => own_blk_ne o7 K8.out.2 (by decide) e) (.slice A3 N c3)
        obtain ⟨V, hVV⟩ : ∃ V, (w7.setCell ⟨q, 0, none⟩ (.int .i64 b0)).setCell ⟨q, 1, none⟩ (.slice A3 N c3) = V := ⟨_, rfl⟩
        rw [hVV] at kV hV oV ⊢
        have v0 : V.cell? ⟨q, 0, none⟩ = some (.int .i64 b0) := (kV.cell 0).trans rfl
        have v1 : V.cell? ⟨q, 1, none⟩ = some (.slice A3 N c3) := (kV.cell 1).trans rfl
        have hP : BegPost w b (.returned (.tuple #[.agg #[.int .i64 b0, .slice A3 N c3], .int .i64 M, .int .i64 0])) V := ⟨hV, .inr ⟨HQ.out.1, A3, c3, by rw [HQ.out.2.1, HE.out.1, hM], by rw [HE.out.1, HQ.out.2.2]; exact oV⟩⟩
        clear hVV kV hV oV o7 z0 z1 zf
        refine bodyPost_ret (v := .tuple #[.agg #[.int .i64 b0, .slice A3 N c3], .int .i64 M, .int .i64 0]) ?_ rfl hP
        simp [results, Try.f80, go_sem, v0, v1]
    · have hTF : ¬ FB = b.take M := fun e => hcrc (hiff.1 e)
      rw [if_neg hcrc] at hE
      have hne := strN_neF hsF hsT hTF
      obtain ⟨Z, hZ⟩ : ∃ Z, strN FB = Z := ⟨_, rfl⟩
      obtain ⟨Z2, hZ2⟩ : ∃ Z, strN (b.take M) = Z := ⟨_, rfl⟩
      rw [hZ, hZ2] at hne
      have hne2 : ¬ Z = Z2 := fun e => hne (by rw [e])
      have hne3 : (Z.toList == Z2.toList) = false := by rw [beq_eq_false_iff_ne]; exact hne
      simp only [hZ, hZ2] at rT c62 f0
      have HQ := Lib.hid (fun W hb => HE.out.2.2.1 W 141 hE (by decide) hb)
      clear hiff hcrc hE hTF hZ hZ2 hFB hsF hsT hsb hbl hBD
      go_wp2
      go_region_held (fun w' => w'.cell? ad = some (.int .u8 (b0 : Nat)) ∧ (convert 24 9 (.slice (some ad) M 9)).run Try.prog w' = .ok (.string Z2) w') (first | (refine ⟨?_, ?_⟩ <;> assumption) | go_keep) (first
        | (go_at_call 62; refine (c62 _ (by assumption)).mono ?_; rintro e w7 ⟨A7, c7, rfl, t7, g7⟩; have a0 := rT _ g7; have a1 := rY _ g7))
      all_goals
        have K8 := Lib.hid (k8 _ g7)
        have z0 := (K8.out.2.cell 0).trans rfl
        have z1 := (K8.out.2.cell 1).trans rfl
        have zf := K8.out.2.frozen
        clear k8 o8 c62 rT rY t7 f0 f1
        go_wp2
        have kV := (K8.out.2.set_ 0 (.int .i64 0)).set_ 1 (.slice none 0 0)
        have hV : Below w.heap.size w ((w7.setCell ⟨q, 0, none⟩ (.int .i64 0)).setCell ⟨q, 1, none⟩ (.slice none 0 0)) := (K8.out.1.setCell (p := ⟨q, 0, none⟩) (Nat.le_of_eq hq) _).setCell (p := ⟨q, 1, none⟩) (Nat.le_of_eq hq) _
        obtain ⟨V, hVV⟩ : ∃ V, (w7.setCell ⟨q, 0, none⟩ (.int .i64 0)).setCell ⟨q, 1, none⟩ (.slice none 0 0) = V := ⟨_, rfl⟩
        rw [hVV] at kV hV ⊢
        have v0 : V.cell? ⟨q, 0, none⟩ = some (.int .i64 0) := (kV.cell 0).trans rfl
        have v1 : V.cell? ⟨q, 1, none⟩ = some (.slice none 0 0) := (kV.cell 1).trans rfl
        have hP := HQ.out _ hV
        clear hVV kV hV z0 z1 zf
        refine bodyPost_ret (v := .tuple #[.agg #[.int .i64 0, .slice none 0 0], .int .i64 0, .int .i64 141]) ?_ rfl hP
        simp [results, Try.f80, go_sem, v0, v1]
end Go.Proofs.Ytpnagblbhlglhaa
