/- wire.Take of numbers. Conditions: those that each states. -/
import Derived.Test.YtpnagblbhlglhaaWireNeg
namespace Go.Proofs.Ytpnagblbhlglhaa
open Go.RowKit

/-- Words of 64 bits as cells. -/
def wrds (l : List Nat) : List Value := l.map fun (n : Nat) => Value.int .u64 (n : Int)
theorem wrds_length (l : List Nat) : (wrds l).length = l.length := by simp [wrds]
theorem wrds_append (l m : List Nat) : wrds (l ++ m) = wrds l ++ wrds m := by simp [wrds]
theorem wrds_one (l : List Nat) : ∀ u ∈ wrds l, u.oneCell' = true := by
  intro u hu
  obtain ⟨n, _, rfl⟩ := List.mem_map.1 hu
  rfl
theorem Try.info35w : (Try.prog.info? 35).map (fun i => (i.zero, i.size, i.bytes)) = some (some (.int .u64 0), 1, 8) := by kernel_rfl
theorem reads_word (w : World) (v : Nat) : Reads (w.alloc (.cells #[.int .u64 (v : Int)] 35)) (w.heap.size + 1) 1 (some ⟨w.heap.size, 0, none⟩) 1 (wrds [v]) := by
  refine ⟨by simp [wrds], fun _ => ⟨_, rfl, by simp, fun j u hu => ?_⟩⟩
  rw [addr_add, (Blk.new w 35 _).cell j]
  simpa [wrds] using hu

theorem numsN_len : ∀ {n : Nat} {l vs : List Nat} {m : Nat}, numsN n l = some (vs, m) → vs.length = n
  | 0, l, vs, m, h => by injection h with h; injection h with h1 h2; subst h1; rfl
  | n + 1, l, vs, m, h => by
    cases hr : rdNum l with
    | none => rw [numsN_none hr] at h; cases h
    | some p =>
      obtain ⟨v, k⟩ := p
      rw [numsN_some hr] at h
      cases hq : numsN n (l.drop k) with
      | none => rw [hq] at h; cases h
      | some q =>
        rw [hq] at h
        injection h with h
        injection h with h1 h2
        have := numsN_len (n := n) (l := l.drop k) (vs := q.1) (m := q.2) hq
        subst h1
        simp [this]

theorem RdI.fr2 {S : Nat → Prop} {w w' : World} {r : Nat} {A : Addr} {c : Nat} {bs : List Nat} {a : Nat} (h : RdI w r A c bs a) (hf : Fr S w w') (h1 : ¬ S r) (h2 : 0 < bs.length → ¬ S A.block) : RdI w' r A c bs a := by
  refine ⟨h.blk.fr hf h1, ?_, h.small, h.le, h.cap, h.ne, h.len⟩
  rcases Nat.eq_zero_or_pos bs.length with h0 | h0
  · rw [List.eq_nil_of_length_eq_zero h0]
    exact ⟨rfl, fun h => absurd h (by simp)⟩
  · exact (h.reads.fr hf (Nat.le_refl _) (fun k hk => by cases hk; exact h2 h0)).more hf.size
theorem RdI.in_ {w : World} {r : Nat} {A : Addr} {c : Nat} {bs : List Nat} {a : Nat} (h : RdI w r A c bs a) (h0 : 0 < bs.length) : A.block < w.heap.size := by
  obtain ⟨ad, e, hb, _⟩ := h.reads.2 h0
  injection e with e
  subst e
  exact hb

theorem func_not_nil (w : World) : Sem.run Try.prog (binOp BinOp.eql 127 (Value.func (.func 35) #[] #[]) Value.nilFunc) w = .ok (.bool false) w := by kernel_rfl

/-- What a list of numbers ends in: the values and how far, or none. -/
def lstN (l : List Nat) (M : Nat) : Option (List Nat × Nat) := if cntE l M = 0 then (numsN (rdV l) (l.drop (rdK l))).map (fun p => (p.1, rdK l + p.2)) else none
/-- Its error. -/
def lstE (l : List Nat) (M : Nat) : Nat := if cntE l M = 0 then (if (numsN (rdV l) (l.drop (rdK l))).isSome then 0 else 4) else cntE l M

set_option maxHeartbeats 4000000 in
set_option maxRecDepth 100000 in
theorem take_any (w : World) (r : Nat) (A : Addr) (c : Nat) (bs : List Nat) (at_ : Nat) (M : Nat) (hM : M ≤ 9223372036854775807) (h : RdI w r A c bs at_) (hb : bs.length ≤ 1048576) :
    Calls Try.prog 77 #[.pointer (some ⟨r, 0, none⟩), .int .i64 M, .func (.func 35) #[] #[]] w fun e w' =>
      ∃ A2 n2 c2, e = .returned (.tuple #[.slice A2 n2 c2, .int .i64 (lstE (bs.drop at_) M)]) ∧ n2 = ((lstN (bs.drop at_) M).getD ([], 0)).1.length ∧
      w'.ownsRow w.heap.size 35 1 (.slice A2 n2 c2) n2 (wrds ((lstN (bs.drop at_) M).getD ([], 0)).1) ∧
      RdI w' r A c bs (at_ + ((lstN (bs.drop at_) M).getD ([], 0)).2) ∧ Fr (fun k => k = r) w w' := by
  obtain ⟨i0, hi, hz0, hz1, hz2⟩ := info_parts Try.info35w
  have hc := count_any w r A c bs at_ M hM h
  have ht := there_any w r A c bs at_ h
  have c1 : w.cell? ⟨r, 1, none⟩ = some (.int .i64 at_) := (h.blk.cell 1).trans rfl
  have hle := h.le
  have hlt0 := h.lt
  have hnf := func_not_nil
  obtain ⟨hv, hK2, _, _, hz⟩ := rd_bounds (bs.drop at_) (h.small.drop at_)
  rw [List.length_drop] at hK2
  have hcE : cntE (bs.drop at_) M = 0 ∨ cntE (bs.drop at_) M = 3 ∨ cntE (bs.drop at_) M = 4 := by unfold cntE; split <;> (try split) <;> simp
  have hcV : cntE (bs.drop at_) M = 0 → cntV (bs.drop at_) M = rdV (bs.drop at_) ∧ rdV (bs.drop at_) ≤ M := fun h => by
    refine ⟨by unfold cntV; rw [if_pos h], ?_⟩
    unfold cntE at h
    split at h
    · split at h
      · cases h
      · omega
    · cases h
  unfold lstN lstE
  obtain ⟨V, hV⟩ : ∃ V, cntV (bs.drop at_) M = V := ⟨_, rfl⟩
  obtain ⟨E, hE⟩ : ∃ E, cntE (bs.drop at_) M = E := ⟨_, rfl⟩
  obtain ⟨P, hP⟩ : ∃ P, at_ + rdK (bs.drop at_) = P := ⟨_, rfl⟩
  rw [hV, hE, hP] at hc
  rw [hE, hV] at hcV
  rw [hE] at hcE ⊢
  have hPle : P ≤ bs.length := by omega
  have hdr : (bs.drop at_).drop (rdK (bs.drop at_)) = bs.drop P := by rw [List.drop_drop, hP]
  rw [hdr]
  by_cases hE0 : E = 0
  · subst hE0
    obtain ⟨e1, e2⟩ := hcV rfl
    simp only [if_true]
    rw [show (((0 : Nat) : Nat) : Int) = 0 from rfl] at hc
    rw [← e1] at e2 ⊢
    have hVM : V ≤ 9223372036854775807 := by omega
    have hfin : ∀ (x : Option (List Nat × Nat)), at_ + ((x.map fun p => (p.1, rdK (bs.drop at_) + p.2)).getD ([], 0)).2 = match x with | some p => P + p.2 | none => at_ := by
      intro x
      cases x <;> simp <;> omega
    rw [hfin]
    have hfin2 : ∀ (x : Option (List Nat × Nat)), ((x.map fun p => (p.1, rdK (bs.drop at_) + p.2)).getD ([], 0)).1 = match x with | some p => p.1 | none => [] := by
      intro x
      cases x <;> simp
    rw [hfin2]
    clear hfin hfin2 hz hK2 hcE hcV hE hV hdr e1 hv
    obtain ⟨X, hX⟩ : ∃ X, numsN V (bs.drop P) = X := ⟨_, rfl⟩
    rw [hX]
    have H := Lib.hid h
    clear h hP
    go_enter Try.func77, Try.ntmps77
    go_wp2_with (first
      | (go_at_call 71; refine ht.mono ?_; clear ht; rintro e w' ⟨rfl, rfl⟩)
      | (go_at_call 72; refine hc.mono ?_; clear hc; rintro e w1 ⟨rfl, h1, f1⟩; have ow1 : (w1.alloc (.cells #[] 35)).ownsRow w.heap.size 35 1 (.slice (some ⟨w1.heap.size, 0, none⟩) 0 0) 0 (wrds []) := World.ownsRow_made w1 _ _ f1.size (by decide) rfl))
    go_loopw [10, 11, 12] (fun ev lv iv wr => ∃ (E i n2 c2 p : Nat) (A2 : Option Addr) (vs : List Nat), ev = .int .i64 E ∧ lv = .slice A2 n2 c2 ∧ iv = .int .i64 i ∧ i ≤ V ∧ n2 = i ∧ vs.length = n2 ∧ i ≤ p + 1 ∧ p ≤ bs.length ∧
      (E = 0 ∧ P ≤ p ∧ i ≤ p ∧ X = (numsN (V - i) (bs.drop p)).map (fun q => (vs ++ q.1, (p - P) + q.2)) ∨ E = 4 ∧ X = none) ∧ wr.ownsRow w.heap.size 35 1 (.slice A2 n2 c2) n2 (wrds vs) ∧ RdI wr r A c bs p ∧ Fr (fun k => k = r) w wr) (fun _ _ iv _ => V - (intOf iv).toNat)
    case atStart =>
      refine ⟨0, 0, 0, 0, P, _, [], rfl, rfl, rfl, by omega, rfl, rfl, by omega, hPle, .inl ⟨rfl, by omega, by omega, ?_⟩, ow1, h1.fr (Fr.of_new (S := noB) ((Below.refl _ w1).alloc (Nat.le_refl _) _)) (fun h => h) (fun h => h), f1.alloc _⟩
      rw [← hX]
      cases numsN V (bs.drop P) <;> simp
    case round =>
      clear h1 ow1 f1
      obtain ⟨E, i, n2, c2, p, A2, vs, rfl, rfl, rfl, hiV, rfl, hvs, hip, hp, hcase, ho, hR, hf⟩ := hrel
      have hszr := hf.size
      rcases hcase with ⟨rfl, hPp, hip2, hX2⟩ | ⟨rfl, hXn⟩
      · rw [show (((0 : Nat) : Nat) : Int) = 0 from rfl]
        by_cases hlt : n2 < V
        · have q1 : (n2 : Int) < (V : Int) := by omega
          have hn := rdnum_any wr r A c bs p hR
          obtain ⟨hv1, hK1, hE1, hz1', _⟩ := rd_bounds (bs.drop p) (hR.small.drop p)
          rw [List.length_drop] at hK1
          obtain ⟨V1, hV1⟩ : ∃ V, rdV (bs.drop p) = V := ⟨_, rfl⟩
          obtain ⟨E1, hE1'⟩ : ∃ E, rdE (bs.drop p) = E := ⟨_, rfl⟩
          obtain ⟨K1, hK1'⟩ : ∃ K, rdK (bs.drop p) = K := ⟨_, rfl⟩
          have hnext : (E1 = 0 ∧ P ≤ p + K1 ∧ n2 + 1 ≤ p + K1 ∧ X = (numsN (V - (n2 + 1)) (bs.drop (p + K1))).map (fun q => ((vs ++ [V1]) ++ q.1, (p + K1 - P) + q.2)) ∨ E1 = 4 ∧ X = none) := by
            obtain ⟨j, hj⟩ : ∃ j, V - n2 = j + 1 := ⟨V - n2 - 1, by omega⟩
            have hj2 : V - (n2 + 1) = j := by omega
            rw [hj] at hX2
            rw [hj2]
            cases hr : rdNum (bs.drop p) with
            | none =>
              have := rd_none hr
              right
              exact ⟨by rw [← hE1']; exact this.2.2, by rw [hX2, numsN_none hr]; rfl⟩
            | some q =>
              obtain ⟨v, k⟩ := q
              have hsm := rd_some hr
              left
              rw [hsm.1] at hV1
              rw [hsm.2.1] at hK1'
              rw [hsm.2.2] at hE1'
              subst hV1 hK1'
              refine ⟨hE1'.symm, by omega, by have := hz1' (by rw [hsm.2.2]); rw [hsm.2.1] at this; omega, ?_⟩
              rw [hX2, numsN_some hr, List.drop_drop]
              cases numsN j (bs.drop (p + k)) with
              | none => rfl
              | some y =>
                simp only [Option.map_some, Option.some.injEq, Prod.mk.injEq, List.append_assoc, List.cons_append, List.nil_append, true_and]
                omega
          rw [hV1, hE1', hK1'] at hn
          have hpK : p + K1 ≤ bs.length := by omega
          clear hV1 hE1' hX2 hz1' hv1
          go_wp2_with (first
            | (go_at_call 35; go_must (refine hn.mono ?_); clear hn; go_must (rintro e w2 ⟨rfl, h2, f2⟩); have ho2 := (own_fr ho f2 (fun k hk => by have := own_base ho k hk; omega)).alloc (.cells #[.int .u64 (V1 : Int)] 35); have hr2 := reads_word w2 V1; have hw2 := hf.trans' f2; have hs2 := hw2.size)
            | (at_builtin; refine wpList_append_any _ rfl _ _ 124 rfl w.heap.size 35 i0 (.int .u64 0) 1 8 Try.underlying124 hi hz0 hz1 hz2 rfl (by decide) _ _ _ rfl ho2 _ _ 1 _ _ rfl hr2 ?c1 ?c2 ?c3 ?c4 ?_))
          case c1 => exact wrds_one _
          case c2 => unfold maxLen; omega
          case c3 => omega
          case c4 => first | omega | (simp; omega)
          intro v3 w3 ho3 hg3 _
          obtain ⟨A3, c3, rfl⟩ := own_shape ho3
          rw [← wrds_append] at ho3
          have hb3 : Below w2.heap.size w2 (w2.alloc (.cells #[.int .u64 (V1 : Int)] 35)) := (Below.refl _ w2).alloc (Nat.le_refl _) _
          have hf3 : Fr (fun k => blkOf A2 = some k) w2 w3 := (Fr.of_new hb3).grown hg3 (fun k _ hk => by rw [ownBlock_slice] at hk; exact hk)
          have hA2 : ∀ k, blkOf A2 = some k → w.heap.size ≤ k := fun k hk => own_base ho k (by rw [ownBlock_slice]; exact hk)
          have h3 : RdI w3 r A c bs (p + K1) := h2.fr2 hf3 (fun h => by have := hA2 _ h; omega) (fun h0 h => by have := hA2 _ h; have := H.out.in_ h0; omega)
          have hw3 : Fr (fun k => k = r) w w3 := hw2.trans hf3 (fun k hk h => by have := hA2 _ h; omega)
          have HS := Lib.hid (And.intro hnext (And.intro ho3 (And.intro h3 hw3)))
          clear hnext ho3 h3 hw3 hb3 hf3 hg3 ho2 hr2 h2 f2 hw2
          go_wp2
          go_roundw
          case rel => exact ⟨E1, n2 + 1, _, c3, p + K1, A3, vs ++ [V1], rfl, rfl, by go_num, by omega, by omega, by simp; omega, by omega, by omega, HS.out.1, HS.out.2.1, HS.out.2.2.1, HS.out.2.2.2⟩
          case measure => simp [intOf]; omega
        · have q1 : ¬ (n2 : Int) < (V : Int) := by omega
          have hiV2 : V - n2 = 0 := by omega
          rw [hiV2, numsN_zero] at hX2
          go_wp2
          go_ret2
          subst hX2
          refine ⟨A2, n2, c2, rfl, by simp [hvs], by simpa using ho, ?_, hf⟩
          have : P + ((p - P) + 0) = p := by omega
          first | exact hR | (rw [this]; exact hR)
      · have g1 := hR.blk.frozen 1
        have d1 : wr.cell? ⟨r, 1, none⟩ = some (.int .i64 p) := (hR.blk.cell 1).trans rfl
        rw [show (((4 : Nat) : Nat) : Int) = 4 from rfl]
        subst hXn
        go_wp2
        all_goals
          go_ret2
          exact ⟨none, 0, 0, rfl, rfl, World.ownsRow_nil _ _ _ _, hR.set_ (a' := at_) hle, hf.setCell (p := ⟨r, 1, none⟩) (fun _ => rfl) _⟩
  · have hEb : (E : Int) ≠ 0 := by omega
    have hEb2 : ((E : Int) == 0) = false := by rw [beq_eq_false_iff_ne]; exact hEb
    rw [if_neg hE0, if_neg hE0]
    go_enter Try.func77, Try.ntmps77
    go_wp2_with (first
      | (go_at_call 71; refine ht.mono ?_; clear ht; rintro e w' ⟨rfl, rfl⟩)
      | (go_at_call 72; refine hc.mono ?_; clear hc; rintro e w1 ⟨rfl, h1, f1⟩; have h2 := h1.fr (Fr.of_new (S := noB) ((Below.refl _ w1).alloc (Nat.le_refl _) (.cells #[] 35))) (fun h => h) (fun h => h); have f2 := f1.alloc (.cells #[] 35); have g2 := h2.blk.frozen 1; have d2 : (w1.alloc (.cells #[] 35)).cell? ⟨r, 1, none⟩ = some (.int .i64 P) := (h2.blk.cell 1).trans rfl))
    go_loopw [10, 11, 12] (fun ev lv iv wr => ev = .int .i64 E ∧ iv = .int .i64 0 ∧ wr = w1.alloc (.cells #[] 35)) (fun _ _ iv _ => 0)
    case atStart => exact ⟨rfl, rfl, rfl⟩
    case round =>
      obtain ⟨rfl, rfl, rfl⟩ := hrel
      go_wp2
      go_ret2
      exact ⟨_, _, _, rfl, rfl, World.ownsRow_nil _ _ _ _, h2.set_ (a' := at_) hle, f2.setCell (p := ⟨r, 1, none⟩) (fun _ => rfl) _⟩
end Go.Proofs.Ytpnagblbhlglhaa
