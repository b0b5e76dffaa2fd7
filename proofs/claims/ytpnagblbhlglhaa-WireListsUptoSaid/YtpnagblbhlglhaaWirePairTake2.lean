/- wire.Take of pairs. Conditions: those that it states. -/
import Derived.Test.YtpnagblbhlglhaaWirePairTake
namespace Go.Proofs.Ytpnagblbhlglhaa
open Go.RowKit

theorem func_not_nil2 (w : World) : Sem.run Try.prog (binOp BinOp.eql 66 (Value.func (.func 45) #[] #[]) Value.nilFunc) w = .ok (.bool false) w := by kernel_rfl
theorem setCell_size (w : World) (p : Addr) (v : Value) : (w.setCell p v).heap.size = w.heap.size := by simp [World.setCell]

set_option maxHeartbeats 4000000 in
set_option maxRecDepth 100000 in
theorem takeP_any (w : World) (r : Nat) (A : Addr) (c : Nat) (bs : List Nat) (at_ : Nat) (M : Nat) (hM : M ≤ 9223372036854775807) (h : RdI w r A c bs at_) (hb : bs.length ≤ 104857700) :
    Calls Try.prog 44 #[.pointer (some ⟨r, 0, none⟩), .int .i64 M, .func (.func 45) #[] #[]] w fun e w' =>
      ∃ A2 n2 c2, e = .returned (.tuple #[.slice A2 n2 c2, .int .i64 (lstPE (bs.drop at_) M)]) ∧ 2 * n2 = ((lstP (bs.drop at_) M).getD ([], 0)).1.length ∧
      w'.ownsRow w.heap.size 61 2 (.slice A2 n2 c2) n2 (wrds ((lstP (bs.drop at_) M).getD ([], 0)).1) ∧
      RdI w' r A c bs (at_ + ((lstP (bs.drop at_) M).getD ([], 0)).2) ∧ Fr (fun k => k = r) w w' := by
  obtain ⟨i0, hi, hz0, hz1, hz2⟩ := info_parts Try.info61w
  have hc := count_any w r A c bs at_ M hM h
  have ht := there_any w r A c bs at_ h
  have c1 : w.cell? ⟨r, 1, none⟩ = some (.int .i64 at_) := (h.blk.cell 1).trans rfl
  have hle := h.le
  have hlt0 := h.lt
  have hnf := func_not_nil2
  obtain ⟨hv, hK2, _, _, hz⟩ := rd_bounds (bs.drop at_) (h.small.drop at_)
  rw [List.length_drop] at hK2
  have hcE : cntE (bs.drop at_) M = 0 ∨ cntE (bs.drop at_) M = 3 ∨ cntE (bs.drop at_) M = 4 := by unfold cntE; split <;> (try split) <;> simp
  have hcV : cntE (bs.drop at_) M = 0 → cntV (bs.drop at_) M = rdV (bs.drop at_) ∧ rdV (bs.drop at_) ≤ M := fun h => by
    refine ⟨by unfold cntV; rw [if_pos h], ?_⟩
    unfold cntE at h
    split at h
    · split at h
      · cases h
      · omega
    · cases h
  unfold lstP lstPE
  obtain ⟨V, hV⟩ : ∃ V, cntV (bs.drop at_) M = V := ⟨_, rfl⟩
  obtain ⟨E, hE⟩ : ∃ E, cntE (bs.drop at_) M = E := ⟨_, rfl⟩
  obtain ⟨P, hP⟩ : ∃ P, at_ + rdK (bs.drop at_) = P := ⟨_, rfl⟩
  rw [hV, hE, hP] at hc
  rw [hE, hV] at hcV
  rw [hE] at hcE ⊢
  have hPle : P ≤ bs.length := by omega
  have hdr : (bs.drop at_).drop (rdK (bs.drop at_)) = bs.drop P := by rw [List.drop_drop, hP]
  rw [hdr]
  by_cases hE0 : E = 0
  · subst hE0
    obtain ⟨e1, e2⟩ := hcV rfl
    simp only [if_true]
    rw [show (((0 : Nat) : Nat) : Int) = 0 from rfl] at hc
    rw [← e1] at e2 ⊢
    have hVM : V ≤ 9223372036854775807 := by omega
    have hfin : ∀ (x : Option (List Nat × Nat)), at_ + ((x.map fun p => (p.1, rdK (bs.drop at_) + p.2)).getD ([], 0)).2 = match x with | some p => P + p.2 | none => at_ := by
      intro x
      cases x <;> simp <;> omega
    rw [hfin]
    have hfin2 : ∀ (x : Option (List Nat × Nat)), ((x.map fun p => (p.1, rdK (bs.drop at_) + p.2)).getD ([], 0)).1 = match x with | some p => p.1 | none => [] := by
      intro x
      cases x <;> simp
    rw [hfin2]
    clear hfin hfin2 hz hK2 hcE hcV hE hV hdr e1 hv
    obtain ⟨X, hX⟩ : ∃ X, numsN (2 * V) (bs.drop P) = X := ⟨_, rfl⟩
    rw [hX]
    have H := Lib.hid h
    clear h hP
    go_enter Try.func44, Try.ntmps44
    go_wp2_with (first
      | (go_at_call 71; refine ht.mono ?_; clear ht; rintro e w' ⟨rfl, rfl⟩)
      | (go_at_call 72; refine hc.mono ?_; clear hc; rintro e w1 ⟨rfl, h1, f1⟩; have ow1 : (w1.alloc (.cells #[] 61)).ownsRow w.heap.size 61 2 (.slice (some ⟨w1.heap.size, 0, none⟩) 0 0) 0 (wrds []) := World.ownsRow_made w1 _ _ f1.size (by decide) rfl))
    go_loopw [10, 11, 12] (fun ev lv iv wr => ∃ (E i n2 c2 p : Nat) (A2 : Option Addr) (vs : List Nat), ev = .int .i64 E ∧ lv = .slice A2 n2 c2 ∧ iv = .int .i64 i ∧ i ≤ V ∧ n2 = i ∧ vs.length = 2 * n2 ∧ i ≤ p + 1 ∧ p ≤ bs.length ∧
      (E = 0 ∧ P ≤ p ∧ i ≤ p ∧ X = (numsN (2 * (V - i)) (bs.drop p)).map (fun q => (vs ++ q.1, (p - P) + q.2)) ∨ E = 4 ∧ X = none) ∧ wr.ownsRow w.heap.size 61 2 (.slice A2 n2 c2) n2 (wrds vs) ∧ RdI wr r A c bs p ∧ Fr (fun k => k = r) w wr) (fun _ _ iv _ => V - (intOf iv).toNat)
    case atStart =>
      refine ⟨0, 0, 0, 0, P, _, [], rfl, rfl, rfl, by omega, rfl, rfl, by omega, hPle, .inl ⟨rfl, by omega, by omega, ?_⟩, ow1, h1.fr (Fr.of_new (S := noB) ((Below.refl _ w1).alloc (Nat.le_refl _) _)) (fun h => h) (fun h => h), f1.alloc _⟩
      rw [← hX]
      cases numsN (2 * V) (bs.drop P) <;> simp
    case round =>
      clear h1 ow1 f1
      obtain ⟨E, i, n2, c2, p, A2, vs, rfl, rfl, rfl, hiV, rfl, hvs, hip, hp, hcase, ho, hR, hf⟩ := hrel
      have hszr := hf.size
      rcases hcase with ⟨rfl, hPp, hip2, hX2⟩ | ⟨rfl, hXn⟩
      · rw [show (((0 : Nat) : Nat) : Int) = 0 from rfl]
        by_cases hlt : n2 < V
        · have q1 : (n2 : Int) < (V : Int) := by omega
          have hbz : Below wr.heap.size wr (wr.alloc (.cells #[.int .u64 0, .int .u64 0] 61)) := (Below.refl _ wr).alloc (Nat.le_refl _) _
          have hRz := hR.fr2 (Fr.of_new (S := noB) hbz) (fun h => h) (fun _ h => h)
          have hkz : Blk (wr.alloc (.cells #[.int .u64 0, .int .u64 0] 61)) wr.heap.size 61 #[.int .u64 0, .int .u64 0] := Blk.new wr 61 _
          have hn := pair_any _ r A c bs p hRz
          have hrl := hR.lt
          have hoz := own_fr ho (Fr.of_new (S := noB) hbz) (fun _ _ h => h)
          obtain ⟨hE1, hK1, hv1, hv2, hz1', hz4'⟩ := pair_law (bs.drop p) (hR.small.drop p)
          rw [List.length_drop] at hK1
          obtain ⟨V1, hV1⟩ : ∃ V, rdV (bs.drop p) = V := ⟨_, rfl⟩
          obtain ⟨V2, hV2⟩ : ∃ V, pB (bs.drop p) = V := ⟨_, rfl⟩
          obtain ⟨E1, hE1'⟩ : ∃ E, pE (bs.drop p) = E := ⟨_, rfl⟩
          obtain ⟨K1, hK1'⟩ : ∃ K, pK (bs.drop p) = K := ⟨_, rfl⟩
          rw [hE1'] at hE1 hz1' hz4'
          rw [hK1'] at hz1' hK1
          have hnext : (E1 = 0 ∧ P ≤ p + K1 ∧ n2 + 1 ≤ p + K1 ∧ X = (numsN (2 * (V - (n2 + 1))) (bs.drop (p + K1))).map (fun q => ((vs ++ [V1, V2]) ++ q.1, (p + K1 - P) + q.2)) ∨ E1 = 4 ∧ X = none) := by
            obtain ⟨j, hj⟩ : ∃ j, V - n2 = j + 1 := ⟨V - n2 - 1, by omega⟩
            have hj2 : V - (n2 + 1) = j := by omega
            rw [hj] at hX2
            rw [hj2]
            rcases hE1 with e0 | e4
            · left
              obtain ⟨t1, t2⟩ := hz1' e0
              refine ⟨e0, by omega, by omega, ?_⟩
              rw [hX2, t2 j, List.drop_drop, hV1, hV2]
              cases numsN (2 * j) (bs.drop (p + K1)) with
              | none => rfl
              | some y =>
                simp only [Option.map_some, Option.some.injEq, Prod.mk.injEq, List.append_assoc, List.cons_append, List.nil_append, true_and]
                omega
            · right
              refine ⟨e4, ?_⟩
              rw [hX2, hz4' e4 j]
              rfl
          rw [hV1, hV2, hE1', hK1'] at hn
          have hpK : p + K1 ≤ bs.length := by omega
          clear hV1 hV2 hE1' hX2 hz1' hz4' hv1 hv2 hK1'
          have hoA := fun k (hk : (Value.slice A2 n2 c2).ownBlock = some k) => own_base ho k hk
          have hoB := fun k (hk : (Value.slice A2 n2 c2).ownBlock = some k) => (ho.lt k hk).2
          have hAin := fun h0 => hR.in_ h0
          go_wp2_with (first
            | (go_at_call 45; go_must (refine hn.mono ?_); clear hn; go_must (rintro e w2 ⟨rfl, h2, f2⟩); have hk2 := hkz.fr f2 (by omega); have k0 := (hk2.cell 0).trans rfl; have k1 := (hk2.cell 1).trans rfl; have g0 := hk2.frozen 0; have g1 := hk2.frozen 1; have s2 := f2.size; rw [World.size_alloc] at s2; obtain ⟨w3, hw3⟩ : ∃ w3, (w2.setCell ⟨wr.heap.size, 0, none⟩ (.int .u64 (V1 : Int))).setCell ⟨wr.heap.size, 1, none⟩ (.int .u64 (V2 : Int)) = w3 := ⟨_, rfl⟩; have hk3 : Blk w3 wr.heap.size 61 #[.int .u64 (V1 : Int), .int .u64 (V2 : Int)] := (by rw [← hw3]; exact (hk2.set_ 0 (.int .u64 (V1 : Int))).set_ 1 (.int .u64 (V2 : Int))); have m0 := (hk3.cell 0).trans rfl; have m1 := (hk3.cell 1).trans rfl; have f3 : Fr (fun k => k = wr.heap.size) w2 w3 := (by rw [← hw3]; exact ((Fr.refl (fun k => k = wr.heap.size) w2).setCell (p := ⟨wr.heap.size, 0, none⟩) (fun _ => rfl) _).setCell (p := ⟨wr.heap.size, 1, none⟩) (fun _ => rfl) _); have s3 := f3.size; have ho3 := (own_fr (own_fr hoz f2 (fun k hk => by have := hoA k hk; omega)) f3 (fun k hk => by have := hoB k hk; omega)).alloc (.cells #[.int .u64 (V1 : Int), .int .u64 (V2 : Int)] 61); have hr3 := reads_pair w3 V1 V2)
            | (at_builtin; refine wpList_append_any _ rfl _ _ 60 rfl w.heap.size 61 i0 (.agg #[.int .u64 0, .int .u64 0]) 2 16 Try.underlying60 hi hz0 hz1 hz2 rfl (by decide) _ _ _ rfl ho3 _ _ 1 _ _ rfl hr3 ?c1 ?c2 ?c3 ?c4 ?_))
          case c1 => exact wrds_one _
          case c2 => unfold maxLen; omega
          case c3 => omega
          case c4 => first | omega | (simp; omega)
          intro v4 w4 ho4 hg4 _
          obtain ⟨A4, c4, rfl⟩ := own_shape ho4
          rw [← wrds_append] at ho4
          have hb4 : Below w3.heap.size w3 (w3.alloc (.cells #[.int .u64 (V1 : Int), .int .u64 (V2 : Int)] 61)) := (Below.refl _ w3).alloc (Nat.le_refl _) _
          have hf4 : Fr (fun k => blkOf A2 = some k) w3 w4 := (Fr.of_new hb4).grown hg4 (fun k _ hk => by rw [ownBlock_slice] at hk; exact hk)
          have hA2 : ∀ k, blkOf A2 = some k → w.heap.size ≤ k := fun k hk => hoA k (by rw [ownBlock_slice]; exact hk)
          have h3 : RdI w3 r A c bs (p + K1) := h2.fr2 f3 (fun h => by omega) (fun h0 h => by have := hAin h0; omega)
          have h4 : RdI w4 r A c bs (p + K1) := h3.fr2 hf4 (fun h => by have := hA2 _ h; omega) (fun h0 h => by have := hA2 _ h; have := H.out.in_ h0; omega)
          have hwz : Fr (fun k => k = r) w w2 := (hf.trans' (Fr.of_new hbz)).trans' f2
          have hw3' : Fr (fun k => k = r) w w3 := hwz.trans f3 (fun k hk h => by omega)
          have hw4 : Fr (fun k => k = r) w w4 := hw3'.trans hf4 (fun k hk h => by have := hA2 _ h; omega)
          have HS := Lib.hid (And.intro hnext (And.intro ho4 (And.intro h4 hw4)))
          clear hnext ho4 h4 hw4 hb4 hf4 hg4 ho3 hr3 h3 h2 f2 hw3' hwz hw3 hk3 m0 m1 k0 k1 g0 g1
          go_wp2
          go_roundw
          case rel => exact ⟨E1, n2 + 1, _, c4, p + K1, A4, vs ++ [V1, V2], rfl, rfl, by go_num, by omega, by omega, by simp; omega, by omega, by omega, HS.out.1, HS.out.2.1, HS.out.2.2.1, HS.out.2.2.2⟩
          case measure => simp [intOf]; omega
        · have q1 : ¬ (n2 : Int) < (V : Int) := by omega
          have hiV2 : V - n2 = 0 := by omega
          rw [hiV2, Nat.mul_zero, numsN_zero] at hX2
          go_wp2
          go_ret2
          subst hX2
          refine ⟨A2, n2, c2, rfl, by simp [hvs], by simpa using ho, ?_, hf⟩
          have : P + ((p - P) + 0) = p := by omega
          first | exact hR | (rw [this]; exact hR)
      · have g1 := hR.blk.frozen 1
        have d1 : wr.cell? ⟨r, 1, none⟩ = some (.int .i64 p) := (hR.blk.cell 1).trans rfl
        rw [show (((4 : Nat) : Nat) : Int) = 4 from rfl]
        subst hXn
        go_wp2
        all_goals
          go_ret2
          exact ⟨none, 0, 0, rfl, rfl, World.ownsRow_nil _ _ _ _, hR.set_ (a' := at_) hle, hf.setCell (p := ⟨r, 1, none⟩) (fun _ => rfl) _⟩
  · have hEb : (E : Int) ≠ 0 := by omega
    have hEb2 : ((E : Int) == 0) = false := by rw [beq_eq_false_iff_ne]; exact hEb
    rw [if_neg hE0, if_neg hE0]
    go_enter Try.func44, Try.ntmps44
    go_wp2_with (first
      | (go_at_call 71; refine ht.mono ?_; clear ht; rintro e w' ⟨rfl, rfl⟩)
      | (go_at_call 72; refine hc.mono ?_; clear hc; rintro e w1 ⟨rfl, h1, f1⟩; have h2 := h1.fr (Fr.of_new (S := noB) ((Below.refl _ w1).alloc (Nat.le_refl _) (.cells #[] 61))) (fun h => h) (fun h => h); have f2 := f1.alloc (.cells #[] 61); have g2 := h2.blk.frozen 1; have d2 : (w1.alloc (.cells #[] 61)).cell? ⟨r, 1, none⟩ = some (.int .i64 P) := (h2.blk.cell 1).trans rfl))
    go_loopw [10, 11, 12] (fun ev lv iv wr => ev = .int .i64 E ∧ iv = .int .i64 0 ∧ wr = w1.alloc (.cells #[] 61)) (fun _ _ iv _ => 0)
    case atStart => exact ⟨rfl, rfl, rfl⟩
    case round =>
      obtain ⟨rfl, rfl, rfl⟩ := hrel
      go_wp2
      go_ret2
      exact ⟨_, _, _, rfl, rfl, World.ownsRow_nil _ _ _ _, h2.set_ (a' := at_) hle, f2.setCell (p := ⟨r, 1, none⟩) (fun _ => rfl) _⟩
end Go.Proofs.Ytpnagblbhlglhaa
