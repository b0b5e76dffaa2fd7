/- tells of wicketlaw03: a disk stands as the document's. Conditions: those that each states. -/
import Derived.Test.YtapgcglpkilofaaDiskIn
namespace Go.Proofs.Ytapgcglpkilofaa
open Go.RowKit

theorem TellsB.out {w : World} {f : FuncId} {A : Option Addr} {l : List Nat} {x : Bool} (h : TellsB w f A (l, x)) (n : Nat) (hn : l.length = n) : Calls Try.prog f #[.pointer A] w fun e w' =>
    ∃ A2 c2, e = .returned (.tuple #[.slice A2 n c2, .bool x]) ∧ w'.ownsRow w.heap.size 5 1 (.slice A2 n c2) n (byts l) ∧ Below w.heap.size w w' := by
  subst hn
  exact h
theorem log_out (w : World) (p : Nat) (S : Nat → Prop) (s : DS) (h : PD w p S s) (n : Nat) (hn : s.log.length = n) : Calls Try.prog 13 #[.pointer (some ⟨p, 0, none⟩)] w fun e w' =>
    ∃ A2 c2, e = .returned (.slice A2 n c2) ∧ w'.ownsRow w.heap.size 5 1 (.slice A2 n c2) n (byts s.log) ∧ Below w.heap.size w w' := by
  subst hn
  exact log_any w p S s h
theorem snapV_ok {s : DS} (ok : s.Ok) : s.snapV.1.length ≤ 140737488351240 ∧ Small s.snapV.1 := by
  unfold DS.snapV DS.lastD
  split
  · exact ⟨by simp, fun c hc => by simp at hc⟩
  · split
    · exact ⟨ok.n0, ok.s0⟩
    · exact ⟨ok.n1, ok.s1⟩
theorem spareV_ok {s : DS} (ok : s.Ok) : s.spareV.1.length ≤ 140737488351240 ∧ Small s.spareV.1 := by
  unfold DS.spareV DS.spareD
  split
  · split
    · exact ⟨ok.n1, ok.s1⟩
    · exact ⟨ok.n0, ok.s0⟩
  · exact ⟨by simp, fun c hc => by simp at hc⟩
theorem blk_of_own {w w' : World} {b n : Nat} {A : Option Addr} {c : Nat} {xs : List Value} (h : w'.ownsRow b 5 1 (.slice A n c) n xs) : ∀ k, blkOf A = some k → b ≤ k := fun k hk => (h.lt k (by rw [ownBlock_slice]; exact hk)).1

set_option maxHeartbeats 1000000 in
set_option maxRecDepth 100000 in
theorem tellsNo (w : World) (A : Option Addr) (h : Gone w A) : Calls Try.prog 10 #[.pointer A, .pointer none] w fun e w' => e = .returned (.bool true) ∧ ∃ k, w' = w.drewN k := by
  have c1 := snapNo w A h
  have c2 := snapRNo w
  have c3 := spareDNo w A h
  have c4 := fun k => spareDRNo (w.drewN k)
  have c5 := fun k => logNo (w.drewN k) A h
  have c6 := fun k => sureNo (w.drewN k) A h
  have c7 := fun k => roomNo (w.drewN k) A h
  have c8 := fun k => stepsNo (w.drewN k) A h
  clear h
  go_enter Try.func10, Try.ntmps10
  go_wp2_with (first
    | (go_at_call 16; refine c1.mono ?_; clear c1; rintro e w' ⟨rfl, rfl⟩)
    | (go_at_call 26; refine c2.mono ?_; clear c2; rintro e w' ⟨rfl, rfl⟩)
    | (go_at_call 27; refine c3.mono ?_; clear c3; rintro e w' ⟨rfl, k3, rfl⟩; replace c4 := c4 k3)
    | (go_at_call 28; refine c4.mono ?_; clear c4; rintro e w' ⟨rfl, k4, rfl⟩; rw [World.drewN_drewN] at *; replace c5 := c5 (k3 + k4); replace c6 := c6 (k3 + k4); replace c7 := c7 (k3 + k4); replace c8 := c8 (k3 + k4))
    | (go_at_call 13; refine c5.mono ?_; clear c5; rintro e w' ⟨rfl, rfl⟩)
    | (go_at_call 15; refine c6.mono ?_; clear c6; rintro e w' ⟨rfl, rfl⟩)
    | (go_at_call 29; refine c7.mono ?_; clear c7; rintro e w' ⟨rfl, rfl⟩)
    | (go_at_call 30; refine c8.mono ?_; clear c8; rintro e w' ⟨rfl, rfl⟩))
  go_ret
  exact ⟨rfl, _, rfl⟩

set_option maxHeartbeats 8000000 in
set_option maxRecDepth 100000 in
theorem tells_any (w : World) (p q : Nat) (S T : Nat → Prop) (s : DS) (hP : PD w p S s) (hR : RD w q T s) (hS : ∀ k, S k → k < w.heap.size) (hT : ∀ k, T k → k < w.heap.size) :
    Calls Try.prog 10 #[.pointer (some ⟨p, 0, none⟩), .pointer (some ⟨q, 0, none⟩)] w fun e w' => e = .returned (.bool true) ∧ Below w.heap.size w w' := by
  obtain ⟨⟨la, x⟩, hla⟩ : ∃ v, s.snapV = v := ⟨_, rfl⟩
  obtain ⟨⟨lc, z⟩, hlc⟩ : ∃ v, s.spareV = v := ⟨_, rfl⟩
  have ka := snapV_ok hP.1
  have kc := spareV_ok hP.1
  rw [hla] at ka
  rw [hlc] at kc
  obtain ⟨na, hna⟩ : ∃ n, la.length = n := ⟨_, rfl⟩
  obtain ⟨nc, hnc⟩ : ∃ n, lc.length = n := ⟨_, rfl⟩
  obtain ⟨nl, hnl⟩ : ∃ n, s.log.length = n := ⟨_, rfl⟩
  have sl := hP.1.sl
  have bl := hP.1.nl
  have bna := ka.1
  have bnc := kc.1
  dsimp only at bna bnc
  rw [hna] at bna
  rw [hnc] at bnc
  have pf : ∀ W, Below w.heap.size w W → PD W p S s := fun W hb => hP.fr (T := noB) (Fr.of_new hb) (fun _ _ e => e)
  have rf' : ∀ W, Below w.heap.size w W → RD W q T s := fun W hb => hR.fr (T := noB) (Fr.of_new hb) (fun _ _ e => e)
  have c1 := (hla ▸ snap_any w p S s hP).out na hna
  have c2 := fun W hb => (hla ▸ snapR_any W q T s (rf' W hb)).out na hna
  have c3 := fun W hb => (hlc ▸ spareD_any W p S s (pf W hb)).out nc hnc
  have c4 := fun W hb => (hlc ▸ spareDR_any W q T s (rf' W hb)).out nc hnc
  have c5 := fun W hb => log_out W p S s (pf W hb) nl hnl
  have PF := Lib.hid pf
  have RF := Lib.hid rf'
  clear hP hR hla hlc hS hT pf rf'
  go_enter Try.func10, Try.ntmps10
  go_upto_region 8 with (first
    | (go_at_call 16; refine c1.mono ?_; clear c1; rintro e w1 ⟨A1, e1, rfl, o1, m1⟩; replace c2 := c2 w1 m1)
    | (go_at_call 26; refine c2.mono ?_; clear c2; rintro e w2 ⟨A2, e2, rfl, o2, m2⟩; have b2 := m1.trans (m2.mono m1.size); replace c3 := c3 w2 b2)
    | (go_at_call 27; refine c3.mono ?_; clear c3; rintro e w3 ⟨A3, e3, rfl, o3, m3⟩; have b3 := b2.trans (m3.mono b2.size); replace c4 := c4 w3 b3)
    | (go_at_call 28; refine c4.mono ?_; clear c4; rintro e w4 ⟨A4, e4, rfl, o4, m4⟩; have b4 := b3.trans (m4.mono b3.size); replace c5 := fun W hb => c5 W (b4.trans hb))
    | (go_at_call 13; refine (c5 _ (Below.refl _ _)).mono ?_; rintro e w5 ⟨A5, e5, rfl, o5, m5⟩; have b5 := b4.trans (m5.mono b4.size)))
  clear c5
  have e35 : Below w3.heap.size w3 w5 := m4.trans (m5.mono m4.size)
  have e25 : Below w2.heap.size w2 w5 := m3.trans (e35.mono m3.size)
  have e15 : Below w1.heap.size w1 w5 := m2.trans (e25.mono m2.size)
  have O1 : w5.ownsRow 0 5 1 (.slice A1 na e1) na (byts la) := own_mono (own_fr (S := noB) o1 (Fr.of_new e15) (fun _ _ e => e)) (Nat.zero_le _)
  have O2 : w5.ownsRow 0 5 1 (.slice A2 na e2) na (byts la) := own_mono (own_fr (S := noB) o2 (Fr.of_new e25) (fun _ _ e => e)) (Nat.zero_le _)
  have O3 : w5.ownsRow 0 5 1 (.slice A3 nc e3) nc (byts lc) := own_mono (own_fr (S := noB) o3 (Fr.of_new e35) (fun _ _ e => e)) (Nat.zero_le _)
  have O4 : w5.ownsRow 0 5 1 (.slice A4 nc e4) nc (byts lc) := own_mono (own_fr (S := noB) o4 (Fr.of_new m5) (fun _ _ e => e)) (Nat.zero_le _)
  have O5 : w5.ownsRow 0 5 1 (.slice A5 nl e5) nl (byts s.log) := own_mono o5 (Nat.zero_le _)
  have L1 : ∀ k, blkOf A1 = some k → w.heap.size ≤ k ∧ k < w1.heap.size := fun k hk => o1.lt k (by rw [ownBlock_slice]; exact hk)
  have L3 : ∀ k, blkOf A3 = some k → w2.heap.size ≤ k ∧ k < w3.heap.size := fun k hk => o3.lt k (by rw [ownBlock_slice]; exact hk)
  have L5 : ∀ k, blkOf A5 = some k → w4.heap.size ≤ k ∧ k < w5.heap.size := fun k hk => o5.lt k (by rw [ownBlock_slice]; exact hk)
  have S1 := m1.size
  have S2 := m2.size
  have S3 := m3.size
  have S4 := m4.size
  have LL := Lib.hid (And.intro L1 (And.intro L3 (And.intro L5 (And.intro S1 (And.intro S2 (And.intro S3 (And.intro S4 (And.intro O1 (And.intro O3 O5)))))))))
  have t1 := fun m : Nat => run_str (P := Try.prog) (src := 22) (dst := 9) (c := e1) rfl rfl rfl ((Reads.of_own O1).drewN m) ka.2
  have t2 := fun m : Nat => run_str (P := Try.prog) (src := 22) (dst := 9) (c := e2) rfl rfl rfl ((Reads.of_own O2).drewN m) ka.2
  have t3 := fun m : Nat => run_str (P := Try.prog) (src := 22) (dst := 9) (c := e3) rfl rfl rfl ((Reads.of_own O3).drewN m) kc.2
  have t4 := fun m : Nat => run_str (P := Try.prog) (src := 22) (dst := 9) (c := e4) rfl rfl rfl ((Reads.of_own O4).drewN m) kc.2
  have t5 := fun m : Nat => run_str (P := Try.prog) (src := 22) (dst := 9) (c := e5) rfl rfl rfl ((Reads.of_own O5).drewN m) sl
  obtain ⟨okR, Ar, nr, cr, _, _, _, _, _, _, hxr, hhr⟩ := RF.out w5 b5
  have hnr : nr = nl := by have := hxr.len; omega
  subst hnr
  have t6 := fun m : Nat => run_str (P := Try.prog) (src := 22) (dst := 9) (c := cr) rfl rfl rfl ((Reads.of_own hxr.rl).drewN m) sl
  have y1 := hxr.x1
  have y2 := hxr.x2
  have y8 := hxr.x8
  have h15 := fun k : Nat => sure_any (w5.drewN k) p S s ((PF.out w5 b5).drewN k)
  have h30 := fun k : Nat => steps_any (w5.drewN k) p S s ((PF.out w5 b5).drewN k)
  have h29 := fun k : Nat => room_any (w5.drewN k) p S s ((PF.out w5 b5).drewN k)
  have h31 := fun k : Nat => roomR_any (w5.drewN k) q T s ((RF.out w5 b5).drewN k)
  clear O1 O2 O3 O4 O5 L1 L3 L5 o1 o2 o3 o4 o5 m1 m2 m3 m4 m5 b2 b3 b4 e35 e25 e15 S1 S2 S3 S4 hxr hhr okR ka kc sl
  generalize strN la = Xa at *
  generalize strN lc = Xc at *
  generalize strN s.log = Xl at *
  go_quiet ((first
    | (go_at_call 15; exact quiet_left (h15 _))
    | (go_at_call 30; exact quiet_left (h30 _))
    | (go_at_call 29; exact Calls.quiet_of (h29 _))
    | (go_at_call 31; exact Calls.quiet_of (h31 _))))
  go_wp2
  clear t1 t2 t3 t4 t5 t6 y1 y2 y8 h15 h30 h29 h31
  go_loopw [15] (fun iv wr1 => ∃ (k : Nat) (bs : List Nat), k ≤ nr ∧ iv = .int .i64 k ∧ wr1.ownsRow 0 5 1 (.slice A5 nr e5) nr (byts bs) ∧ Fr (fun k => blkOf A5 = some k) (w5.drewN nq) wr1) (fun iv _ => nr - (intOf iv).toNat)
  case atStart => exact ⟨0, _, by omega, rfl, LL.out.2.2.2.2.2.2.2.2.2, Fr.refl _ _⟩
  case round =>
  obtain ⟨k, bs, hk, rfl, h, hf⟩ := hrel
  by_cases hlt : k < nr
  · have k1 : (k : Int) < (nr : Int) := by omega
    obtain ⟨g', rfl, _, _, hcell, hfr, hst⟩ := own_open h (by omega)
    have hlen : bs.length = nr := by have := h.1; rw [byts_length] at this; omega
    have cj := hcell k (.int .u8 (bs[k]'(by omega) : Nat)) (by simp [byts, show k < bs.length by omega])
    have fj := hfr k
    have hs2 := hst k (.int .u8 ((99 : Nat) : Int)) hlt
    have hset : (byts bs).set k (.int .u8 ((99 : Nat) : Int)) = byts (bs.set k 99) := by simp [byts, List.map_set]
    rw [hset] at hs2
    have hf2 : Fr (fun k => blkOf (some (⟨g', 0, none⟩ : Addr)) = some k) (w5.drewN nq) (wr.setCell ⟨g', k, none⟩ (.int .u8 ((99 : Nat) : Int))) := hf.setCell (p := ⟨g', k, none⟩) (fun _ => rfl) _
    have HS := Lib.hid (And.intro hs2 hf2)
    clear hset hst hcell hfr hs2 hf2 h
    go_wp2
    go_roundw
    case rel => exact ⟨k + 1, bs.set k 99, by omega, by go_num, HS.out.1, HS.out.2⟩
    case measure => simp [intOf]; omega
  have f1 := hf
  clear h hf
  go_wp2
  clear hlt
  obtain ⟨wr1, rfl⟩ : ∃ u : World, u = wr := ⟨_, rfl⟩
  have O1 := own_fr LL.out.2.2.2.2.2.2.2.1 (Fr.trans' ((Fr.refl (fun k => blkOf A5 = some k) w5).drewN nq) f1) fun k hk e => by
    have a1 := LL.out.1 k (bk_of hk)
    have a5 := LL.out.2.2.1 k e
    have b1 := LL.out.2.2.2.2.1
    have b2 := LL.out.2.2.2.2.2.1
    have b3 := LL.out.2.2.2.2.2.2.1
    omega
  go_loopw [16] (fun iv wr2 => ∃ (k : Nat) (bs : List Nat), k ≤ na ∧ iv = .int .i64 k ∧ wr2.ownsRow 0 5 1 (.slice A1 na e1) na (byts bs) ∧ Fr (fun k => blkOf A1 = some k) wr1 wr2) (fun iv _ => na - (intOf iv).toNat)
  case atStart => exact ⟨0, _, by omega, rfl, O1, Fr.refl _ _⟩
  case round =>
  obtain ⟨k, bs, hk, rfl, h, hf⟩ := hrel
  by_cases hlt : k < na
  · have k1 : (k : Int) < (na : Int) := by omega
    obtain ⟨g', rfl, _, _, hcell, hfr, hst⟩ := own_open h (by omega)
    have hlen : bs.length = na := by have := h.1; rw [byts_length] at this; omega
    have cj := hcell k (.int .u8 (bs[k]'(by omega) : Nat)) (by simp [byts, show k < bs.length by omega])
    have fj := hfr k
    have hs2 := hst k (.int .u8 ((99 : Nat) : Int)) hlt
    have hset : (byts bs).set k (.int .u8 ((99 : Nat) : Int)) = byts (bs.set k 99) := by simp [byts, List.map_set]
    rw [hset] at hs2
    have hf2 : Fr (fun k => blkOf (some (⟨g', 0, none⟩ : Addr)) = some k) wr1 (wr.setCell ⟨g', k, none⟩ (.int .u8 ((99 : Nat) : Int))) := hf.setCell (p := ⟨g', k, none⟩) (fun _ => rfl) _
    have HS := Lib.hid (And.intro hs2 hf2)
    clear hset hst hcell hfr hs2 hf2 h
    go_wp2
    go_roundw
    case rel => exact ⟨k + 1, bs.set k 99, by omega, by go_num, HS.out.1, HS.out.2⟩
    case measure => simp [intOf]; omega
  have f2 := hf
  clear h hf
  go_wp2
  clear hlt
  obtain ⟨wr2, rfl⟩ : ∃ u : World, u = wr := ⟨_, rfl⟩
  have O3a := own_fr LL.out.2.2.2.2.2.2.2.2.1 (Fr.trans' ((Fr.refl (fun k => blkOf A5 = some k) w5).drewN nq) f1) fun k hk e => by
    have a1 := LL.out.2.1 k (bk_of hk)
    have a5 := LL.out.2.2.1 k e
    have b3 := LL.out.2.2.2.2.2.2.1
    omega
  have O3 := own_fr O3a f2 fun k hk e => by
    have a1 := LL.out.2.1 k (bk_of hk)
    have a5 := LL.out.1 k e
    have b2 := LL.out.2.2.2.2.1
    omega
  go_loopw [17] (fun iv wr3 => ∃ (k : Nat) (bs : List Nat), k ≤ nc ∧ iv = .int .i64 k ∧ wr3.ownsRow 0 5 1 (.slice A3 nc e3) nc (byts bs) ∧ Fr (fun k => blkOf A3 = some k) wr2 wr3) (fun iv _ => nc - (intOf iv).toNat)
  case atStart => exact ⟨0, _, by omega, rfl, O3, Fr.refl _ _⟩
  case round =>
  obtain ⟨k, bs, hk, rfl, h, hf⟩ := hrel
  by_cases hlt : k < nc
  · have k1 : (k : Int) < (nc : Int) := by omega
    obtain ⟨g', rfl, _, _, hcell, hfr, hst⟩ := own_open h (by omega)
    have hlen : bs.length = nc := by have := h.1; rw [byts_length] at this; omega
    have cj := hcell k (.int .u8 (bs[k]'(by omega) : Nat)) (by simp [byts, show k < bs.length by omega])
    have fj := hfr k
    have hs2 := hst k (.int .u8 ((99 : Nat) : Int)) hlt
    have hset : (byts bs).set k (.int .u8 ((99 : Nat) : Int)) = byts (bs.set k 99) := by simp [byts, List.map_set]
    rw [hset] at hs2
    have hf2 : Fr (fun k => blkOf (some (⟨g', 0, none⟩ : Addr)) = some k) wr2 (wr.setCell ⟨g', k, none⟩ (.int .u8 ((99 : Nat) : Int))) := hf.setCell (p := ⟨g', k, none⟩) (fun _ => rfl) _
    have HS := Lib.hid (And.intro hs2 hf2)
    clear hset hst hcell hfr hs2 hf2 h
    go_wp2
    go_roundw
    case rel => exact ⟨k + 1, bs.set k 99, by omega, by go_num, HS.out.1, HS.out.2⟩
    case measure => simp [intOf]; omega
  have f3 := hf
  clear h hf
  go_wp2
  clear hlt
  obtain ⟨wr3, rfl⟩ : ∃ u : World, u = wr := ⟨_, rfl⟩
  have hB : Below w.heap.size w wr3 := by
    have h1 : ∀ k, blkOf A5 = some k → w.heap.size ≤ k := fun k hk => by
      have := (LL.out.2.2.1 k hk).1
      have := LL.out.2.2.2.1
      have := LL.out.2.2.2.2.1
      have := LL.out.2.2.2.2.2.1
      have := LL.out.2.2.2.2.2.2.1
      omega
    have h2 : ∀ k, blkOf A1 = some k → w.heap.size ≤ k := fun k hk => (LL.out.1 k hk).1
    have h3 : ∀ k, blkOf A3 = some k → w.heap.size ≤ k := fun k hk => by
      have := (LL.out.2.1 k hk).1
      have := LL.out.2.2.2.1
      have := LL.out.2.2.2.2.1
      omega
    have g1 := (below_drewN b5 nq).trans (f1.below h1 (by have := b5.size; simpa using this))
    have g2 := g1.trans (f2.below h2 g1.size)
    exact g2.trans (f3.below h3 g2.size)
  have hpd := PF.out wr3 hB
  have c6 := fun k : Nat => log_out (wr3.drewN k) p S s (hpd.drewN k) nr hnl
  obtain ⟨_, Ar2, nr2, cr2, _, _, _, _, _, _, hxr, _⟩ := RF.out wr3 hB
  obtain rfl : nr = nr2 := by have := hxr.len; omega
  have sl := hpd.1.sl
  have y1 : wr3.drew.cell? ⟨q, 1, none⟩ = some (.slice Ar2 nr cr2) := hxr.x1
  have t0 := run_str (P := Try.prog) (src := 22) (dst := 9) (c := cr2) rfl rfl rfl ((Reads.of_own hxr.rl).drew) sl
  have hq : q < wr3.heap.size := hxr.blk.lt
  have t6 : ∀ W, Below wr3.drew.heap.size wr3.drew W → (convert 22 9 (.slice Ar2 nr cr2)).run Try.prog W = .ok (.string (strN s.log)) W := fun W hb => run_str (P := Try.prog) (src := 22) (dst := 9) (c := cr2) rfl rfl rfl ((Reads.of_own hxr.rl).drew.below hb) sl
  have t7 : ∀ A c W b, W.ownsRow b 5 1 (.slice A nr c) nr (byts s.log) → (convert 22 9 (.slice A nr c)).run Try.prog W = .ok (.string (strN s.log)) W := fun A c W b ho => run_str (P := Try.prog) (src := 22) (dst := 9) (c := c) rfl rfl rfl (Reads.of_own ho) sl
  generalize strN s.log = Xl at *
  have C6 := Lib.hid c6
  have T := Lib.hid (And.intro t6 t7)
  clear LL PF RF hpd hxr c6 t6 t7 f1 f2 f3 O1 O3 O3a
  go_region_law (first
    | (go_simp; go_at_call 13; refine (C6.out 1).mono ?_; rintro e w6 ⟨A6, e6, rfl, o6, m6⟩; have y6 := (m6.cell (p := ⟨q, 1, none⟩) hq).trans y1; have ta := T.out.1 w6 m6; have tb := T.out.2 A6 e6 w6 _ o6))
  all_goals
    go_wp2
    go_ret
    exact ⟨rfl, hB.drew.trans (m6.mono hB.size)⟩
end Go.Proofs.Ytapgcglpkilofaa
