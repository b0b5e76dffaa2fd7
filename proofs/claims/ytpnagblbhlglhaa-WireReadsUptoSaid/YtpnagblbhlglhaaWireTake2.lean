/- wire.Take below zero; the document's Numbers. Conditions: those that each states. -/
import Derived.Test.YtpnagblbhlglhaaWireTake
namespace Go.Proofs.Ytpnagblbhlglhaa
open Go.RowKit

set_option maxHeartbeats 4000000 in
set_option maxRecDepth 100000 in
theorem take_neg (w : World) (r : Nat) (A : Addr) (c : Nat) (bs : List Nat) (at_ : Nat) (M : Int) (hM : M < 0) (h : RdI w r A c bs at_) :
    Calls Try.prog 77 #[.pointer (some ⟨r, 0, none⟩), .int .i64 M, .func (.func 35) #[] #[]] w fun e w' => e = .returned (.tuple #[.slice none 0 0, .int .i64 2]) ∧ RdI w' r A c bs at_ ∧ Fr (fun k => k = r) w w' := by
  have hc := count_neg M hM w r
  have ht := there_any w r A c bs at_ h
  have c1 : w.cell? ⟨r, 1, none⟩ = some (.int .i64 at_) := (h.blk.cell 1).trans rfl
  have hle := h.le
  have hnf := func_not_nil
  have h2 := h.fr (Fr.of_new (S := noB) ((Below.refl _ w).alloc (Nat.le_refl _) (.cells #[] 35))) (fun h => h) (fun h => h)
  have f2 := (Fr.refl (fun k => k = r) w).alloc (.cells #[] 35)
  have g2 := h2.blk.frozen 1
  have d2 : (w.alloc (.cells #[] 35)).cell? ⟨r, 1, none⟩ = some (.int .i64 at_) := (h2.blk.cell 1).trans rfl
  go_enter Try.func77, Try.ntmps77
  go_wp2_with (first
    | (go_at_call 71; refine ht.mono ?_; clear ht; rintro e w' ⟨rfl, rfl⟩)
    | (go_at_call 72; refine hc.mono ?_; clear hc; rintro e w1 ⟨rfl, rfl⟩))
  go_loopw [10, 11, 12] (fun ev lv iv wr => ev = .int .i64 2 ∧ iv = .int .i64 0 ∧ wr = w.alloc (.cells #[] 35)) (fun _ _ iv _ => 0)
  case atStart => exact ⟨rfl, rfl, rfl⟩
  case round =>
    obtain ⟨rfl, rfl, rfl⟩ := hrel
    go_wp2
    all_goals
      go_ret2
      exact ⟨rfl, h2.set_ (a' := at_) hle, f2.setCell (p := ⟨r, 1, none⟩) (fun _ => rfl) _⟩

set_option maxHeartbeats 4000000 in
set_option maxRecDepth 100000 in
theorem refnumbers_any (w : World) (B r : Nat) (A : Option Addr) (c : Nat) (bs : List Nat) (at_ : Nat) (M : Nat) (hM : M ≤ 9223372036854775807) (h : RdR w B r A c bs at_) (hb : bs.length ≤ 1048576) :
    Calls Try.prog 78 #[.pointer (some ⟨r, 0, none⟩), .int .i64 M] w fun e w' =>
      ∃ A2 n2 c2, e = .returned (.tuple #[.slice A2 n2 c2, .int .i64 (lstE (bs.drop at_) M)]) ∧ n2 = ((lstN (bs.drop at_) M).getD ([], 0)).1.length ∧
      w'.ownsRow w.heap.size 35 1 (.slice A2 n2 c2) n2 (wrds ((lstN (bs.drop at_) M).getD ([], 0)).1) ∧
      RdR w' B r A c bs (at_ + ((lstN (bs.drop at_) M).getD ([], 0)).2) ∧ Fr (fun k => k = r) w w' := by
  obtain ⟨i0, hi, hz0, hz1, hz2⟩ := info_parts Try.info35w
  have hn := refnum_any w B r A c bs at_ h
  have c1 : w.cell? ⟨r, 1, none⟩ = some (.int .i64 at_) := (h.blk.cell 1).trans rfl
  have hle := h.le
  have hfar := h.far
  have hlt0 : r < w.heap.size := h.blk.lt
  obtain ⟨hv, hK2, hE4, _, hz⟩ := rd_bounds (bs.drop at_) (h.small.drop at_)
  rw [List.length_drop] at hK2
  have wM : IntKind.u64.wrap (M : Int) = (M : Int) := by rw [IntKind.wrap_u64]; omega
  unfold lstN lstE
  obtain ⟨V, hV⟩ : ∃ V, rdV (bs.drop at_) = V := ⟨_, rfl⟩
  obtain ⟨E, hE⟩ : ∃ E, rdE (bs.drop at_) = E := ⟨_, rfl⟩
  obtain ⟨P, hP⟩ : ∃ P, at_ + rdK (bs.drop at_) = P := ⟨_, rfl⟩
  rw [hV, hE, hP] at hn
  have hPle : P ≤ bs.length := by omega
  have hdr : (bs.drop at_).drop (rdK (bs.drop at_)) = bs.drop P := by rw [List.drop_drop, hP]
  rw [hdr, hV]
  rw [hV] at hv
  rw [hE] at hE4
  unfold cntE
  rw [hV, hE]
  have hbad : ∀ (E2 : Nat), (E2 = 3 ∨ E2 = 4) → (∀ w1, RdR w1 B r A c bs P → Fr (fun k => k = r) w w1 → True) → True := fun _ _ _ => trivial
  rcases hE4 with e0 | e4
  · subst e0
    simp only [if_true]
    rw [show (((0 : Nat) : Nat) : Int) = 0 from rfl] at hn
    by_cases hMV : M < V
    · have q1 : (M : Int) < (V : Int) := by omega
      simp only [if_pos hMV, show ((3 : Nat) = 0) = False by simp, if_false]
      clear hbad hz hv hdr
      go_enter Try.func78, Try.ntmps78
      go_wp2_with (go_at_call 73; refine hn.mono ?_; clear hn; rintro e w1 ⟨rfl, h1, f1⟩; have d1 : w1.cell? ⟨r, 1, none⟩ = some (.int .i64 P) := (h1.blk.cell 1).trans rfl; have g1 := h1.blk.frozen 1)
      go_loopw [8, 9, 10] (fun ev lv iv wr => ev = .int .i64 3 ∧ iv = .int .u64 0 ∧ wr = w1) (fun _ _ iv _ => 0)
      case atStart => exact ⟨rfl, rfl, rfl⟩
      case round =>
        obtain ⟨rfl, rfl, rfl⟩ := hrel
        go_wp2
        all_goals
          go_ret2
          exact ⟨none, 0, 0, rfl, rfl, World.ownsRow_nil _ _ _ _, h1.set_ (a' := at_) hle, f1.setCell (p := ⟨r, 1, none⟩) (fun _ => rfl) _⟩
    · have q1 : ¬ (M : Int) < (V : Int) := by omega
      have q1' : decide ((M : Int) < (V : Int)) = false := decide_eq_false (by omega)
      simp only [if_neg hMV, if_true]
      have hfin : ∀ (x : Option (List Nat × Nat)), at_ + ((x.map fun p => (p.1, rdK (bs.drop at_) + p.2)).getD ([], 0)).2 = match x with | some p => P + p.2 | none => at_ := by
        intro x
        cases x <;> simp <;> omega
      rw [hfin]
      have hfin2 : ∀ (x : Option (List Nat × Nat)), ((x.map fun p => (p.1, rdK (bs.drop at_) + p.2)).getD ([], 0)).1 = match x with | some p => p.1 | none => [] := by
        intro x
        cases x <;> simp
      rw [hfin2]
      clear hfin hfin2 hz hK2 hE hV hdr hbad
      obtain ⟨X, hX⟩ : ∃ X, numsN V (bs.drop P) = X := ⟨_, rfl⟩
      rw [hX]
      have H := Lib.hid h
      clear h hP
      go_enter Try.func78, Try.ntmps78
      go_wp2_with (go_at_call 73; refine hn.mono ?_; clear hn; rintro e w1 ⟨rfl, h1, f1⟩)
      go_loopw [8, 9, 10] (fun ev lv iv wr => ∃ (E i n2 c2 p : Nat) (A2 : Option Addr) (vs : List Nat), ev = .int .i64 E ∧ lv = .slice A2 n2 c2 ∧ iv = .int .u64 i ∧ i ≤ V ∧ n2 = i ∧ vs.length = n2 ∧ i ≤ p + 1 ∧ p ≤ bs.length ∧
        (E = 0 ∧ P ≤ p ∧ i ≤ p ∧ X = (numsN (V - i) (bs.drop p)).map (fun q => (vs ++ q.1, (p - P) + q.2)) ∨ E = 4 ∧ X = none) ∧ wr.ownsRow w.heap.size 35 1 (.slice A2 n2 c2) n2 (wrds vs) ∧ RdR wr B r A c bs p ∧ Fr (fun k => k = r) w wr) (fun _ _ iv _ => V - (intOf iv).toNat)
      case atStart =>
        refine ⟨0, 0, 0, 0, P, none, [], rfl, rfl, rfl, by omega, rfl, rfl, by omega, hPle, .inl ⟨rfl, by omega, by omega, ?_⟩, World.ownsRow_nil _ _ _ _, h1, f1⟩
        rw [← hX]
        cases numsN V (bs.drop P) <;> simp
      case round =>
        clear h1 f1
        obtain ⟨E, i, n2, c2, p, A2, vs, rfl, rfl, rfl, hiV, rfl, hvs, hip, hp, hcase, ho, hR, hf⟩ := hrel
        have hszr := hf.size
        rcases hcase with ⟨rfl, hPp, hip2, hX2⟩ | ⟨rfl, hXn⟩
        · rw [show (((0 : Nat) : Nat) : Int) = 0 from rfl]
          by_cases hlt : n2 < V
          · have q1 : (n2 : Int) < (V : Int) := by omega
            have hn := refnum_any wr B r A c bs p hR
            obtain ⟨hv1, hK1, hE1, hz1', _⟩ := rd_bounds (bs.drop p) (hR.small.drop p)
            rw [List.length_drop] at hK1
            obtain ⟨V1, hV1⟩ : ∃ V, rdV (bs.drop p) = V := ⟨_, rfl⟩
            obtain ⟨E1, hE1'⟩ : ∃ E, rdE (bs.drop p) = E := ⟨_, rfl⟩
            obtain ⟨K1, hK1'⟩ : ∃ K, rdK (bs.drop p) = K := ⟨_, rfl⟩
            have hnext : (E1 = 0 ∧ P ≤ p + K1 ∧ n2 + 1 ≤ p + K1 ∧ X = (numsN (V - (n2 + 1)) (bs.drop (p + K1))).map (fun q => ((vs ++ [V1]) ++ q.1, (p + K1 - P) + q.2)) ∨ E1 = 4 ∧ X = none) := by
              obtain ⟨j, hj⟩ : ∃ j, V - n2 = j + 1 := ⟨V - n2 - 1, by omega⟩
              have hj2 : V - (n2 + 1) = j := by omega
              rw [hj] at hX2
              rw [hj2]
              cases hr : rdNum (bs.drop p) with
              | none =>
                have := rd_none hr
                right
                exact ⟨by rw [← hE1']; exact this.2.2, by rw [hX2, numsN_none hr]; rfl⟩
              | some q =>
                obtain ⟨v, k⟩ := q
                have hsm := rd_some hr
                left
                rw [hsm.1] at hV1
                rw [hsm.2.1] at hK1'
                rw [hsm.2.2] at hE1'
                subst hV1 hK1'
                refine ⟨hE1'.symm, by omega, by have := hz1' (by rw [hsm.2.2]); rw [hsm.2.1] at this; omega, ?_⟩
                rw [hX2, numsN_some hr, List.drop_drop]
                cases numsN j (bs.drop (p + k)) with
                | none => rfl
                | some y =>
                  simp only [Option.map_some, Option.some.injEq, Prod.mk.injEq, List.append_assoc, List.cons_append, List.nil_append, true_and]
                  omega
            rw [hV1, hE1', hK1'] at hn
            have hpK : p + K1 ≤ bs.length := by omega
            have u1 : IntKind.u64.wrap ((n2 : Int) + 1) = (n2 : Int) + 1 := by rw [IntKind.wrap_u64]; omega
            clear hV1 hE1' hX2 hz1' hv1
            go_wp2_with (first
              | (go_at_call 73; go_must (refine hn.mono ?_); clear hn; go_must (rintro e w2 ⟨rfl, h2, f2⟩); have ho2 := (own_fr ho f2 (fun k hk => by have := own_base ho k hk; omega)).alloc (.cells #[.int .u64 (V1 : Int)] 35); have hr2 := reads_word w2 V1; have hw2 := hf.trans' f2; have hs2 := hw2.size)
              | (at_builtin; refine wpList_append_any _ rfl _ _ 124 rfl w.heap.size 35 i0 (.int .u64 0) 1 8 Try.underlying124 hi hz0 hz1 hz2 rfl (by decide) _ _ _ rfl ho2 _ _ 1 _ _ rfl hr2 ?c1 ?c2 ?c3 ?c4 ?_))
            case c1 => exact wrds_one _
            case c2 => unfold maxLen; omega
            case c3 => omega
            case c4 => first | omega | (simp; omega)
            intro v3 w3 ho3 hg3 _
            obtain ⟨A3, c3, rfl⟩ := own_shape ho3
            rw [← wrds_append] at ho3
            have hb3 : Below w2.heap.size w2 (w2.alloc (.cells #[.int .u64 (V1 : Int)] 35)) := (Below.refl _ w2).alloc (Nat.le_refl _) _
            have hf3 : Fr (fun k => blkOf A2 = some k) w2 w3 := (Fr.of_new hb3).grown hg3 (fun k _ hk => by rw [ownBlock_slice] at hk; exact hk)
            have hA2 : ∀ k, blkOf A2 = some k → w.heap.size ≤ k := fun k hk => own_base ho k (by rw [ownBlock_slice]; exact hk)
            have h3 : RdR w3 B r A c bs (p + K1) := h2.fr hf3 (fun h => by have := hA2 _ h; omega) (fun k h0 h => by have := hA2 _ h; omega)
            have hw3 : Fr (fun k => k = r) w w3 := hw2.trans hf3 (fun k hk h => by have := hA2 _ h; omega)
            have HS := Lib.hid (And.intro hnext (And.intro ho3 (And.intro h3 hw3)))
            clear hnext ho3 h3 hw3 hb3 hf3 hg3 ho2 hr2 h2 f2 hw2
            go_wp2
            go_roundw
            case rel => exact ⟨E1, n2 + 1, _, c3, p + K1, A3, vs ++ [V1], rfl, rfl, by go_num, by omega, by omega, by simp; omega, by omega, by omega, HS.out.1, HS.out.2.1, HS.out.2.2.1, HS.out.2.2.2⟩
            case measure => simp [intOf]; omega
          · have q1 : ¬ (n2 : Int) < (V : Int) := by omega
            have hiV2 : V - n2 = 0 := by omega
            rw [hiV2, numsN_zero] at hX2
            go_wp2
            go_ret2
            subst hX2
            refine ⟨A2, n2, c2, rfl, by simp [hvs], by simpa using ho, ?_, hf⟩
            have : P + ((p - P) + 0) = p := by omega
            first | exact hR | (rw [this]; exact hR)
        · have g1 := hR.blk.frozen 1
          have d1 : wr.cell? ⟨r, 1, none⟩ = some (.int .i64 p) := (hR.blk.cell 1).trans rfl
          rw [show (((4 : Nat) : Nat) : Int) = 4 from rfl]
          subst hXn
          go_wp2
          all_goals
            go_ret2
            exact ⟨none, 0, 0, rfl, rfl, World.ownsRow_nil _ _ _ _, hR.set_ (a' := at_) hle, hf.setCell (p := ⟨r, 1, none⟩) (fun _ => rfl) _⟩
  · subst e4
    simp only [show ((4 : Nat) = 0) = False by simp, if_false]
    rw [show (((4 : Nat) : Nat) : Int) = 4 from rfl] at hn
    clear hbad hz hv hdr
    go_enter Try.func78, Try.ntmps78
    go_wp2_with (go_at_call 73; refine hn.mono ?_; clear hn; rintro e w1 ⟨rfl, h1, f1⟩; have d1 : w1.cell? ⟨r, 1, none⟩ = some (.int .i64 P) := (h1.blk.cell 1).trans rfl; have g1 := h1.blk.frozen 1)
    go_loopw [8, 9, 10] (fun ev lv iv wr => ev = .int .i64 4 ∧ iv = .int .u64 0 ∧ wr = w1) (fun _ _ iv _ => 0)
    case atStart => exact ⟨rfl, rfl, rfl⟩
    case round =>
      obtain ⟨rfl, rfl, rfl⟩ := hrel
      go_wp2
      all_goals
        go_ret2
        exact ⟨none, 0, 0, rfl, rfl, World.ownsRow_nil _ _ _ _, h1.set_ (a' := at_) hle, f1.setCell (p := ⟨r, 1, none⟩) (fun _ => rfl) _⟩
end Go.Proofs.Ytpnagblbhlglhaa
