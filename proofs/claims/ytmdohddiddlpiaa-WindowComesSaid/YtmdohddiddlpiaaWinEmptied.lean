/- wicketlaw17.emptied: all that is out comes back, the last first. Conditions: those that it states. -/
import Derived.Test.YtmdohddiddlpiaaWinLenI
import Derived.Test.YtmdohddiddlpiaaWinBackI
import Derived.Test.YtmdohddiddlpiaaWinPlainI
import Derived.Test.YtmdohddiddlpiaaWinKnown
namespace Go.Proofs.Ytmdohddiddlpiaa
open Go.RowKit Go.Shelf
attribute [local go_sem] Oper.semAt_some

theorem Try.info2w : (Try.prog.info? 2).map (fun i => (i.zero, i.size, i.bytes)) = some (some (.int .i64 0), 1, 8) := by kernel_rfl
def i64s (l : List Nat) : List Value := l.map fun k : Nat => Value.int .i64 (k : Int)
theorem i64s_length (l : List Nat) : (i64s l).length = l.length := by simp [i64s]
theorem i64s_append (l m : List Nat) : i64s (l ++ m) = i64s l ++ i64s m := by simp [i64s]
theorem i64s_one (l : List Nat) : ∀ u ∈ i64s l, u.oneCell' = true := by
  intro u hu
  obtain ⟨n, _, rfl⟩ := List.mem_map.1 hu
  rfl
theorem reads_i64 (w : World) (v : Nat) : Reads (w.alloc (.cells #[.int .i64 (v : Int)] 2)) (w.heap.size + 1) 1 (some ⟨w.heap.size, 0, none⟩) 1 (i64s [v]) := by
  refine ⟨by simp [i64s], fun _ => ⟨_, rfl, by simp, fun j u hu => ?_⟩⟩
  rw [addr_add, (Blk.new w 2 _).cell j]
  simpa [i64s] using hu
theorem all_not_nil (w : World) (a : Option Addr) : Sem.run Try.prog (binOp BinOp.eql 70 (Value.func (.func 46) #[] #[.pointer a]) Value.nilFunc) w = .ok (.bool false) w := by kernel_rfl

set_option maxHeartbeats 4000000 in
set_option maxRecDepth 100000 in
theorem emptied_any (w : World) (p g n c : Nat) (o : Nat → Bool) (v : Nat → Int) (m l : Nat) (h : RWI w p g n c o v m l) (ht : m = l ∨ o ((m + 1) % n) = true) :
    Calls Try.prog 14 #[.pointer (some ⟨p, 0, none⟩)] w fun e w' => e = .returned (.bool true) ∧ Fr (fun k => k = p ∨ k = g) w w' := by
  obtain ⟨i0, hi, hz0, hz1, hz2⟩ := info_parts Try.info2w
  refine (callsIn_wide (n := 9)).1 ?_
  have hB0 : Below w.heap.size w ((w.alloc (.cells #[.pointer (some ⟨p, 0, none⟩)] 24)).alloc (.cells #[.slice none 0 0] 72)) := ((Below.refl _ w).alloc (Nat.le_refl _) _).alloc (by simp) _
  have hR := h.fr (S := noB) (Fr.of_new hB0) (fun h => h) (fun h => h)
  have k1 : Blk ((w.alloc (.cells #[.pointer (some ⟨p, 0, none⟩)] 24)).alloc (.cells #[.slice none 0 0] 72)) w.heap.size 24 #[.pointer (some ⟨p, 0, none⟩)] := (Blk.new w 24 _).alloc _
  have k0 : Blk ((w.alloc (.cells #[.pointer (some ⟨p, 0, none⟩)] 24)).alloc (.cells #[.slice none 0 0] 72)) (w.heap.size + 1) 72 #[.slice none 0 0] := by
    have := Blk.new (w.alloc (.cells #[.pointer (some ⟨p, 0, none⟩)] 24)) 72 #[.slice none 0 0]
    rwa [World.size_alloc] at this
  have hs0 : ((w.alloc (.cells #[.pointer (some ⟨p, 0, none⟩)] 24)).alloc (.cells #[.slice none 0 0] 72)).heap.size = w.heap.size + 2 := by simp
  have hall := allI w (some ⟨p, 0, none⟩)
  have hnn := all_not_nil
  have hlen := outs_lenI o v n m (l - m)
  have hfar := h.far
  have hle := h.le
  have hspan := h.span
  have hmem := outs_memI o v n m (l - m)
  have hsort := outs_sortedI o v n m (l - m)
  rw [show m + (l - m) = l by omega] at hmem
  obtain ⟨X, hX⟩ : ∃ X, outsNI o v n m (l - m) = X := ⟨_, rfl⟩
  have hseq := fun (W : World) (e : (w.alloc (.cells #[.pointer (some ⟨p, 0, none⟩)] 24)).alloc (.cells #[.slice none 0 0] 72) = W) => seqI W (w.heap.size + 2) w.heap.size p g n c o v m l (by rw [← e]; exact hR) (by rw [← e]; exact (k1.cell 0).trans rfl) (by rw [← e, hs0]; omega) (by rw [← e, hs0]; exact Nat.le_refl _) 8 (by omega)
  simp only [hX] at hseq hlen hmem hsort
  have hl1 : X.length ≤ 1000000 := by omega
  have hst : Stage n m l (numsOfI X) o m := ⟨fun k a b => ⟨fun hh => (hmem k).2 ⟨a, b, hh⟩, fun hh => ((hmem k).1 hh).2.2⟩, fun k hk => ⟨((hmem k).1 hk).1, ((hmem k).1 hk).2.1⟩, Nat.le_refl _, hle, ht⟩
  have HST := Lib.hid hst
  have HSO := Lib.hid hsort
  have HL := Lib.hid hlen
  have HR := Lib.hid h
  have HX := Lib.hid hX
  clear hX hR h hlen hmem hsort hst ht
  refine callsIn_of_wp_marks Try.func14 rfl trivial ?_ rfl
  simp only [Try.ntmps14, List.size_toArray, List.length_cons, List.length_nil, Nat.reduceAdd, Nat.reduceSub, Array.replicate_succ, Array.replicate_zero, List.push_toArray, List.append_toArray, List.nil_append, List.cons_append]
  gi_wp2_with (refine ⟨trivial, ?_⟩; gi_at_call 32; refine (callsIn_wide.2 hall).mono ?_; clear hall; rintro e w' ⟨rfl, rfl⟩)
  obtain ⟨W0, hW0⟩ : ∃ W0, (w.alloc (.cells #[.pointer (some ⟨p, 0, none⟩)] 24)).alloc (.cells #[.slice none 0 0] 72) = W0 := ⟨_, rfl⟩
  have hsq := hseq W0 hW0
  rw [hW0] at hB0 k0 hs0 ⊢
  clear hseq hW0 k1
  refine wpIn_rangeFunc_ownG (F := Fence.wide) rfl (by omega) (gf := 46) (lb := #[.pointer (some ⟨w.heap.size, 0, none⟩)]) rfl trivial (enters_of Try.func46 (by kernel_rfl) rfl) hsq (fun h k => KpFrom.t h k) (fun W l o o' _ h hc _ => KpFrom.b W l o o' h hc) (Below.refl _ _) (fun _ => rfl)
    (fun pre W => (∃ A c, Blk W (w.heap.size + 1) 72 #[.slice A pre.length c] ∧ W.ownsRow (w.heap.size + 2) 2 1 (.slice A pre.length c) pre.length (i64s (numsOfI pre))) ∧ Below w.heap.size w W)
    (fun _ _ _ => False)
    (fun s A B row hs hg hr => by
      obtain ⟨⟨A1, c1, b1, o1⟩, hb⟩ := hs
      exact ⟨⟨A1, c1, Blk.turn b1 hg (fun r e => (hr r e).2), own_turn o1 hg (fun r e => (hr r e).2)⟩, ownFrom_below (β := List (Nat × Int)) (Nat.le_refl _) (by rw [hs0]; omega) s A B row hb hg hr⟩)
    (fun _ _ _ _ _ hs _ _ => hs)
    ⟨⟨none, 0, k0, World.ownsRow_nil _ _ _ _⟩, hB0⟩
    (fun x => { tmps := #[.pointer (some ⟨p, 0, none⟩), undef, .bool false, .func (.func 46) #[] #[.pointer (some ⟨w.heap.size, 0, none⟩)], .pointer (some ⟨w.heap.size + 1, 0, none⟩), .int .i64 (x.1 : Int), undef, undef, undef, .pointer (some ⟨p, 0, none⟩), .func (.func 46) #[] #[.pointer (some ⟨w.heap.size, 0, none⟩)], .func (.func 46) #[] #[.pointer (some ⟨w.heap.size, 0, none⟩)], .bool false, .func (.func 46) #[] #[.pointer (some ⟨w.heap.size, 0, none⟩)], .int .i64 (x.1 : Int), .int .i64 x.2, undef, undef, undef, undef, undef, undef, undef, undef, undef, undef, undef, undef, undef, undef, undef, undef, undef, undef, undef, undef, undef, undef, undef, undef, undef, undef, undef, undef, undef, undef, undef, undef, undef, undef, undef, undef, undef, undef], defers := [] }) ?assign ?body ?done ?stop
  case assign =>
    intro L x W K hK
    simp only [encI]
    gi_wp2
    exact hK
  case body =>
    rintro L pre x W ⟨⟨A, c1, hb, ho⟩, hB⟩ hlt
    have d0 := (hb.cell 0).trans rfl
    have f0 := hb.frozen 0
    have hszW := hB.size
    have hbl := hb.lt
    have b1 : pre.length ≤ 1000000 := by omega
    have ho1 := ho.alloc (.cells #[.int .i64 (x.1 : Int)] 2)
    have hr1 := reads_i64 W x.1
    have d1 : (W.alloc (.cells #[.int .i64 (x.1 : Int)] 2)).cell? ⟨w.heap.size + 1, 0, none⟩ = some (.slice A pre.length c1) := ((hb.alloc _).cell 0).trans rfl
    gi_wp2_with (gi_at_builtin; refine wpListIn_append_any _ rfl _ _ 72 rfl (w.heap.size + 2) 2 i0 (.int .i64 0) 1 8 Try.underlying72 hi hz0 hz1 hz2 rfl (by decide) _ _ _ rfl ho1 _ _ 1 _ _ rfl hr1 ?c1 ?c2 ?c3 ?c4 ?_)
    case c1 => exact i64s_one _
    case c2 => unfold maxLen; omega
    case c3 => omega
    case c4 => simp; omega
    intro v2 w2 ho2 hg2 _
    obtain ⟨A2, c2, rfl⟩ := own_shape ho2
    have bx2 : Blk w2 (w.heap.size + 1) 72 #[.slice A pre.length c1] := (hb.alloc (.cells #[.int .i64 (x.1 : Int)] 2)).grown hg2 (fun e => own_blk_ne ho1 (hb.alloc _) (by decide) e.symm)
    have nb2 := own_blk_ne ho2 bx2 (by decide)
    have e2 := (bx2.cell 0).trans rfl
    have g2 := bx2.frozen 0
    have hb3 : Below w.heap.size W (W.alloc (.cells #[.int .i64 (x.1 : Int)] 2)) := (Below.refl _ W).alloc hszW _
    have fA : Fr (fun k => k = w.heap.size + 1 ∨ blkOf A = some k) W w2 := ((Fr.refl (fun k => k = w.heap.size + 1 ∨ blkOf A = some k) W).alloc _).grown hg2 (fun k _ hk => .inr (by rw [ownBlock_slice] at hk; exact hk))
    have fB : Fr (fun k => k = w.heap.size + 1 ∨ blkOf A = some k) W (w2.setCell ⟨w.heap.size + 1, 0, none⟩ (.slice A2 (pre.length + 1) c2)) := fA.setCell (p := ⟨w.heap.size + 1, 0, none⟩) (fun _ => .inl rfl) _
    have hB1 : Below w.heap.size w (W.alloc (.cells #[.int .i64 (x.1 : Int)] 2)) := hB.alloc hszW _
    have hbs : ∀ k, (Value.slice A pre.length c1).ownBlock = some k → w.heap.size ≤ k := fun k hk => by have := own_base ho1 k hk; omega
    have hB2 : Below w.heap.size w w2 := hB1.grown hg2 hB1.size hbs
    have hB3 : Below w.heap.size w (w2.setCell ⟨w.heap.size + 1, 0, none⟩ (.slice A2 (pre.length + 1) c2)) := hB2.setCell (p := ⟨w.heap.size + 1, 0, none⟩) (by simp) _
    have ho3 := own_setCell ho2 (p := ⟨w.heap.size + 1, 0, none⟩) nb2 (.slice A2 (pre.length + 1) c2)
    have bx3 := bx2.set_ 0 (.slice A2 (pre.length + 1) c2)
    have hn1 : numsOfI (pre ++ [x]) = numsOfI pre ++ [x.1] := by simp [numsOfI]
    have HF := Lib.hid (And.intro fB (And.intro hB3 (And.intro ho3 bx3)))
    clear fA fB hB1 hbs hB2 hB3 ho3 bx3 nb2 hb3
    gi_wp2
    refine ⟨keepsFrom_fr HF.out.1 (fun k e => ?_), KpFrom.fr HF.out.1 (fun k e => ?_), ⟨A2, c2, ?_, ?_⟩, HF.out.2.1⟩
    · rcases e with rfl | e
      · exact .inl (by omega)
      · exact .inr (by obtain ⟨cs, hcs⟩ := own_is_blk ho (by rw [ownBlock_slice]; exact e); exact ⟨cs, 2, hcs⟩)
    · rcases e with rfl | e
      · exact .inl (by omega)
      · exact .inr (by obtain ⟨cs, hcs⟩ := own_is_blk ho (by rw [ownBlock_slice]; exact e); exact ⟨cs, 2, hcs, by simp [winTI]⟩)
    · rw [List.length_append]; exact HF.out.2.2.2
    · rw [List.length_append, hn1, i64s_append]; exact HF.out.2.2.1
  case done =>
    rintro D ys W hD hys ⟨⟨A, c1, hb, ho⟩, hB⟩ hK
    rw [show ys = X from hys] at hb ho
    clear hys
    have hRW := HR.out.fr (S := noB) (Fr.of_new hB) (fun h => h) (fun h => h)
    have hln := lenI W p g n c o v m l hRW
    rw [HX.out] at hln
    have hszW := hB.size
    have d0 := (hb.cell 0).trans rfl
    have hbl := hb.lt
    gi_wp2
    refine wpIn_wide.2 ?_
    have e1 : W.drew.cell? ⟨w.heap.size + 1, 0, none⟩ = some (.slice A X.length c1) := d0
    have hln2 := lenI W.drew p g n c o v m l (hRW.drewN 1)
    rw [HX.out] at hln2
    go_region_held3 (fun w' => w'.cell? ⟨w.heap.size + 1, 0, none⟩ = some (.slice A X.length c1)) (first | assumption | go_keep)
      ((go_at_call 33; refine hln2.mono ?_; rintro e w1 ⟨rfl, m1⟩; have e2 := (m1.cell (p := ⟨w.heap.size + 1, 0, none⟩) hbl).trans e1))
    have m1' : Below W.heap.size W w1 := (Below.refl _ W).drew.trans m1
    have hK1 : w1.heap[D]? = some (.deferred (some [])) := (m1'.block D (Array.getElem?_eq_some_iff.1 hK).1).trans hK
    have hB1 : Below w.heap.size w w1 := hB.trans (m1'.mono hszW)
    have hb1 := hb.below m1' hbl
    have ho1 := own_fr ho (Fr.of_new (S := noB) m1') (fun _ _ h => h)
    have hRW1 := HR.out.fr (S := noB) (Fr.of_new hB1) (fun h => h) (fun h => h)
    clear hln hln2 e1 e2 hRW m1 m1' hb ho hK hB d0 hbl
    have b2 : X.length ≤ 1000000 := by omega
    have hD2 : w.heap.size ≤ D := by omega
    have hpl := HR.out.ltp
    have hgl := HR.out.ltg
    have hxl : (numsOfI X).length = X.length := by simp [numsOfI]
    have HXL := Lib.hid hxl
    clear hxl
    gi_wp2
    gi_loopw [6] (fun iv wr => ∃ (t : Nat) (z : Int), t ≤ X.length ∧ z = (t : Int) - 1 ∧ iv = .int .i64 z ∧ Hid (∃ o' v' m', RWI wr p g n c o' v' m' l ∧ Stage n m l ((numsOfI X).take t) o' m') ∧ Hid (Fr (fun k => k = p ∨ k = g) w1 wr)) (fun iv _ => (intOf iv + 1).toNat)
    case atStart => exact ⟨X.length, (X.length : Int) - 1, Nat.le_refl _, rfl, rfl, Lib.hid ⟨o, v, m, hRW1, by rw [List.take_of_length_le (by rw [HXL.out]; exact Nat.le_refl _)]; exact HST.out⟩, Lib.hid (Fr.refl _ _)⟩
    case round =>
      obtain ⟨t, z, ht, hz, rfl, hS, hF⟩ := hrel
      obtain ⟨o', v', m', hRr, hSt⟩ := hS.out
      have hbr := hb1.fr hF.out (by omega)
      have d0 := (hbr.cell 0).trans rfl
      have hoA := fun k (hk : (Value.slice A X.length c1).ownBlock = some k) => own_base ho1 k hk
      have hor := own_fr ho1 hF.out (fun k hk e => by have := hoA k hk; omega)
      have hKr : wr.heap[D]? = some (.deferred (some [])) := (hF.out.block D (Array.getElem?_eq_some_iff.1 hK1).1 (by omega)).trans hK1
      have hFw : Fr (fun k => k = p ∨ k = g) w wr := (Fr.of_new hB1).trans' hF.out
      cases t with
      | zero =>
        have q1 : z < 0 := by omega
        have hdone := hSt.done
        subst hdone
        have hln := lenI wr p g n c o' v' m' m' hRr
        rw [Nat.sub_self] at hln
        replace hln : Calls Try.prog 33 #[.pointer (some ⟨p, 0, none⟩)] wr fun e w' => e = .returned (.int .i64 0) ∧ Below wr.heap.size wr w' := hln
        have hKN := fun (w5 : World) (hb : Below wr.heap.size wr w5) => (hb.block D (Array.getElem?_eq_some_iff.1 hKr).1).trans hKr
        clear hor hbr d0 hoA
        gi_wp2_with (first
          | (refine ⟨trivial, ?_⟩; gi_at_call 33; refine (callsIn_wide.2 hln).mono ?_; clear hln; rintro e w5 ⟨rfl, m5⟩; have hR5 := hRr.fr (S := noB) (Fr.of_new m5) (fun h => h) (fun h => h); have hma := markI w5 p g n c o' v' m' m' hR5; have hla := lastI w5 p g n c o' v' m' m' hR5)
          | (refine ⟨trivial, ?_⟩; gi_at_call 11; refine (callsIn_wide.2 hma).mono ?_; clear hma; rintro e w6 ⟨rfl, rfl⟩)
          | (refine ⟨trivial, ?_⟩; gi_at_call 8; refine (callsIn_wide.2 hla).mono ?_; clear hla; rintro e w6 ⟨rfl, rfl⟩))
        refine ⟨by simp, .inl ⟨_, _, rfl, run_takeDeferred (hKN _ m5), ?_⟩⟩
        exact ⟨_, results_tmp rfl _ _ _, rfl, (hFw.trans' (Fr.of_new m5)).putObj hD2 _⟩
      | succ s =>
        obtain rfl : z = (s : Int) := by omega
        clear hz
        have q0 : (0 : Int) ≤ (s : Int) := by omega
        have q1 : (s : Int) < (X.length : Int) := by omega
        have hsl : s < (numsOfI X).length := by rw [HXL.out]; omega
        obtain ⟨ad, rfl, hab, hcell⟩ := (Reads.of_own hor).2 (by omega)
        obtain ⟨kk, hkk⟩ : ∃ kk, (numsOfI X)[s] = kk := ⟨_, rfl⟩
        have e0 := hcell s (.int .i64 (kk : Nat)) (by rw [← hkk]; simp [i64s, hsl])
        have htk : (numsOfI X).take (s + 1) = (numsOfI X).take s ++ [kk] := by rw [List.take_succ_eq_append_getElem hsl, hkk]
        rw [htk] at hSt
        have hbk := hSt.bnd kk (by simp)
        have hok := (hSt.out kk (by have := hSt.lo; omega) hbk.2).2 (by simp)
        have hba := backYesI wr p g n c o' v' m' l hRr kk (kk % n) hbk.1 hbk.2 rfl hok
        have hpw : ((numsOfI X).take s ++ [kk]).Pairwise (· < ·) := by rw [← htk]; exact HSO.out.sublist (List.take_sublist _ _)
        have hkf := hRr.far
        have HS2 := Lib.hid (And.intro hSt hpw)
        clear htk hSt hpw hcell hok hkk hoA hor hbr hS hKr hFw hRr ho1 hb1 hRW1 hB1 hK1
        gi_wp2_with (first
          | (refine ⟨trivial, ?_⟩; gi_at_call 12; refine (callsIn_wide.2 hba).mono ?_; clear hba; rintro e w5 ⟨rfl, m5, q2, q3, q4, q5, hR5, f5⟩; have hst5 := HS2.out.1.step HS2.out.2 (by omega) q2 q3 q4 q5; have HN := Lib.hid (And.intro hR5 (And.intro hst5 f5)); clear hR5 hst5 f5 q4 q5)
          | (refine ⟨trivial, ?_⟩; gi_at_call 10; refine (callsIn_wide.2 (num_any _ _)).mono ?_; rintro e w6 ⟨rfl, rfl⟩))
        go_roundw
        case rel => exact ⟨s, (s : Int) - 1, by omega, rfl, rfl, Lib.hid ⟨_, _, _, HN.out.1, HN.out.2.1⟩, Lib.hid (hF.out.trans' HN.out.2.2)⟩
        case measure => simp [intOf]
  case stop =>
    rintro D cc pre W _ _ h _
    exact h.elim
end Go.Proofs.Ytmdohddiddlpiaa
