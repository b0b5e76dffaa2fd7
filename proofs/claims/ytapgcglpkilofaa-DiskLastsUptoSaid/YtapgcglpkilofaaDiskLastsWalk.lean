/- wicketlaw03.DiskLasts answers true. Conditions: those that it states. -/
import Derived.Test.YtapgcglpkilofaaDiskTwo
import Derived.Test.YtapgcglpkilofaaDiskChain
import Derived.Test.YtapgcglpkilofaaOpenRows
namespace Go.Proofs.Ytapgcglpkilofaa
open Go.RowKit

set_option maxHeartbeats 16000000 in
set_option maxRecDepth 100000 in
theorem diskLasts_walk (w : World) (z : Int) (Al : Option Addr) (nl cl : Nat) (log : List Nat) (As : Option Addr) (ns cs : Nat) (ls : List (List Nat)) (A1 : Option Addr) (n1 c1 : Nat) (R : Nat → List Value) (keep : Int) (Ad : Option Addr) (nd cd : Nat) (data : List Nat)
    (hl : Reads w w.heap.size 1 Al nl (byts log)) (hsl : Small log) (hnl : nl ≤ 1048576) (hS : Reads2 w w.heap.size As ns ls) (hls : ∀ l ∈ ls, l.length ≤ 1048576 ∧ Small l)
    (h1 : RowsAt w w.heap.size A1 n1 3 R) (hR : ∀ i, i < n1 → ∃ (K N : Int) (A : Option Addr) (n c : Nat) (b : List Nat), R i = [.int .i64 K, .int .i64 N, .slice A n c] ∧ Reads w w.heap.size 1 A n (byts b) ∧ Small b ∧ n ≤ 1048576 ∧ -9223372036854775808 ≤ N ∧ N ≤ 9223372036854775807) (hn1 : n1 ≤ 1048576)
    (hkeep : -9223372036854775808 ≤ keep ∧ keep ≤ 9223372036854775807) (hd : Reads w w.heap.size 1 Ad nd (byts data)) (hsd : Small data) (hnd : nd ≤ 1048576) :
    Calls Try.prog 4 #[.agg #[.int .i64 z, .slice Al nl cl, .slice As ns cs], .slice A1 n1 c1, .int .i64 keep, .slice Ad nd cd] w fun e w' => e = .returned (.bool true) ∧ Below w.heap.size w w' := by
  have hls2 : ∀ l ∈ ls, l.length ≤ 140737488351240 ∧ Small l := fun l h => ⟨by have := (hls l h).1; omega, (hls l h).2⟩
  have k0 := Blk.new w 25 #[.int .i64 z, .slice Al nl cl, .slice As ns cs]
  have hb0 : Below w.heap.size w (w.alloc (.cells #[.int .i64 z, .slice Al nl cl, .slice As ns cs] 25)) := (Below.refl _ w).alloc (Nat.le_refl _) _
  obtain ⟨W0, hW0⟩ : ∃ W, w.alloc (.cells #[.int .i64 z, .slice Al nl cl, .slice As ns cs] 25) = W := ⟨_, rfl⟩
  obtain ⟨b0, e0⟩ : ∃ b, w.heap.size = b := ⟨_, rfl⟩
  rw [hW0] at k0 hb0
  have kb : Blk W0 b0 25 #[.int .i64 z, .slice Al nl cl, .slice As ns cs] := e0 ▸ k0
  clear k0
  have y0 := (kb.cell 0).trans rfl
  have y1 := (kb.cell 1).trans rfl
  have y2 := (kb.cell 2).trans rfl
  by_cases hv : z < 1 ∨ 1048576 < z ∨ 2 < ns
  · have c7 := ofPNo W0 z Al nl cl As ns cs hv
    have HB := Lib.hid hb0
    clear hb0 kb hl hS h1 hR hd hv
    go_enter Try.func4, Try.ntmps4
    go_wp2_with (first
      | (go_at_call 7; refine c7.mono ?_; clear c7; rintro e w4 ⟨rfl, rfl⟩)
      | (go_at_call 12; refine (known_any _).mono ?_; rintro e w5 ⟨rfl, m5⟩))
    go_ret
    exact ⟨rfl, HB.out.trans (m5.mono HB.out.size)⟩
  obtain ⟨zk, rfl⟩ : ∃ zk : Nat, z = (zk : Int) := ⟨z.toNat, by omega⟩
  have c7 := ofP W0 w.heap.size zk Al nl cl log As ns cs ls hb0.size (hl.below hb0) hsl (by omega) (hS.below hb0) hls2 (by omega) (by omega) (by omega)
  have C8 : ∀ w4 p S', PD w4 p S' (ofS zk log ls) → (∀ k, S' k → W0.heap.size ≤ k) → Below W0.heap.size W0 w4 →
      (w4.cell? ⟨b0, 0, none⟩ = some (.int .i64 zk) ∧ w4.cell? ⟨b0, 1, none⟩ = some (.slice Al nl cl) ∧ w4.cell? ⟨b0, 2, none⟩ = some (.slice As ns cs)) ∧
      Calls Try.prog 8 #[.int .i64 zk, .slice Al nl cl, .slice As ns cs] w4 fun e w5 => ∃ q S T s, e = .returned (.pointer (some ⟨q, 0, none⟩)) ∧ Pair w w5 p S s q T s := by
    intro w4 p S' a1 a2 a3
    have h4 := hb0.trans (a3.mono hb0.size)
    have kb4 := kb.below a3 kb.lt
    refine ⟨⟨(kb4.cell 0).trans rfl, (kb4.cell 1).trans rfl, (kb4.cell 2).trans rfl⟩, ?_⟩
    refine (ofR w4 w.heap.size zk Al nl cl log As ns cs ls h4.size (hl.below h4) hsl (by omega) (hS.below h4) hls2 (by omega) (by omega) (by omega)).mono ?_
    rintro e w5 ⟨q, T', rfl, b1, b2, b3⟩
    obtain ⟨S2, T2, hp, _, _⟩ := pair_made hb0 a1 a2 a3 b1 b2 b3
    exact ⟨q, S2, T2, _, rfl, hp⟩
  have C8' := Lib.hid C8
  have HR := Lib.hid (And.intro h1 (And.intro hR hd))
  clear C8 kb hb0 hl hS h1 hR hd hv
  go_enter Try.func4, Try.ntmps4
  go_wp2_with (first
    | (go_at_call 7; refine c7.mono ?_; clear c7; rintro e w4 ⟨p, S', rfl, a1, a2, a3⟩; obtain ⟨⟨x0, x1, x2⟩, c8⟩ := C8'.out w4 p S' a1 a2 a3; clear a1 a2 a3)
    | (go_at_call 8; refine c8.mono ?_; clear c8; rintro e w5 ⟨q, S, T, s, rfl, hp⟩; have HP := Lib.hid hp; clear hp))
  clear x0 x1 x2 y0 y1 y2 C8'
  go_loopw [9, 11, 12] (fun dv rv iv wr => ∃ (k p q : Nat) (S T : Nat → Prop) (s : DS), k ≤ n1 ∧ k ≤ 200 ∧ iv = .int .i64 k ∧ dv = .pointer (some ⟨p, 0, none⟩) ∧ rv = .pointer (some ⟨q, 0, none⟩) ∧ Hid (Pair w wr p S s q T s)) (fun _ _ iv _ => n1 - (intOf iv).toNat)
  case atStart => exact ⟨0, p, q, S, T, s, by omega, by omega, rfl, rfl, rfl, HP⟩
  case round =>
  clear HP
  obtain ⟨k, p, q, S, T, s, hk1, hk2, rfl, rfl, rfl, HP⟩ := hrel
  go_upto_region 6 with (fail)
  go_cut [54] from 47 to 54 (fun v wx => v = .bool (decide (k < n1 ∧ k < 200)) ∧ wx = wr)
  case first =>
    by_cases g1 : k < n1
    · by_cases g2 : k < 200
      · have q1 : (k : Int) < (n1 : Int) := by omega
        have q2 : (k : Int) < 200 := by omega
        go_wp2
        go_meet
        exact ⟨by rw [decide_eq_true (show k < n1 ∧ k < 200 from ⟨g1, g2⟩)], rfl⟩
      · have q1 : (k : Int) < (n1 : Int) := by omega
        have q2 : ¬ (k : Int) < 200 := by omega
        go_wp2
        go_meet
        exact ⟨by rw [decide_eq_false (show ¬ (k < n1 ∧ k < 200) by omega)], rfl⟩
    · have q1 : ¬ (k : Int) < (n1 : Int) := by omega
      go_wp2
      go_meet
      exact ⟨by rw [decide_eq_false (show ¬ (k < n1 ∧ k < 200) by omega)], rfl⟩
  case rest =>
  obtain ⟨rfl, hwx⟩ := hcut
  replace hwx := hwx.symm
  subst hwx
  by_cases hlt : k < n1 ∧ k < 200
  · have ed := decide_eq_true hlt
    obtain ⟨l1, l2⟩ := hlt
    have q3 : (0 : Int) ≤ (k : Int) := by omega
    obtain ⟨ad, rfl, hab, _, hcell⟩ := HR.out.1 k l1
    obtain ⟨K, N, A, n, c, b, hRi, hrd, hsb, hnb, hN⟩ := HR.out.2.1 k l1
    have cN := fun (j : Nat) (v : Value) (hj : (R k)[j]? = some v) => (HP.out.l.below.cell (p := (ad.add (k * 3)).add j) (by rw [block_of_add, block_of_add]; exact hab)).trans (hcell j v hj)
    rw [hRi] at cN
    have x0 : wr.cell? (ad.add (k * 3)) = some (.int .i64 K) := cN 0 _ rfl
    have x1 : wr.cell? ((ad.add (k * 3)).add 1) = some (.int .i64 N) := cN 1 _ rfl
    have x2 : wr.cell? ((ad.add (k * 3)).add 2) = some (.slice A n c) := cN 2 _ rfl
    have x4 : wr.cell? ⟨(ad.add (k * 3)).block, (ad.add (k * 3)).off + 1, none⟩ = some (.int .i64 N) := cN 1 _ rfl
    have x5 : wr.cell? ⟨(ad.add (k * 3)).block, (ad.add (k * 3)).off + 2, none⟩ = some (.slice A n c) := cN 2 _ rfl
    have c11 := does_any w wr p S s q T HP.out K N A n c b hrd hsb (by omega) hN
    clear cN hcell hRi hrd
    go_wp2_with (go_at_call 11; refine c11.mono ?_; clear c11; rintro e w6 ⟨p2, S2, q2, T2, rfl, hp2⟩; have HP2 := Lib.hid hp2; clear hp2)
    go_roundw
    case rel => exact ⟨k + 1, p2, q2, S2, T2, _, by omega, by omega, by go_num, rfl, rfl, HP2⟩
    case measure => simp [intOf]; omega
  have ed := decide_eq_false hlt
  have ip := HP.out.l
  have ok := ip.ok
  obtain ⟨m, hm⟩ : ∃ m, s.log.length = m := ⟨_, rfl⟩
  obtain ⟨L, hL⟩ : ∃ L, s.left keep = L := ⟨_, rfl⟩
  obtain ⟨su, hsu⟩ : ∃ su, s.sure = su := ⟨_, rfl⟩
  have hLm : L ≤ m := by have := DS.left_le ok keep; omega
  have hsm : su ≤ m := by have := ok.sure; omega
  have hmm : m ≤ 140737488351240 := by have := ok.nl; omega
  have hsL : su ≤ L ∧ L - su ≤ keep.toNat := by rw [← hL, ← hsu]; unfold DS.left; omega
  have c13 := log_out wr p S s ip.pd m hm
  have HP2 := Lib.hid ip
  have hlog2 : (s.stopS keep).log.length = L := by rw [DS.stop_len ok keep]; exact hL
  have hstt := DS.stop_stop ok keep
  have sml := (ok.stopS keep).sl
  have smm := ok.sl
  have hsnap := snapV_ok ok
  have HF := Lib.hid (And.intro hm (And.intro hL (And.intro hsu (And.intro hlog2 (And.intro hstt (And.intro sml (And.intro smm (And.intro hsnap ok))))))))
  have q1 : ¬ (m : Int) < (su : Int) := by omega
  have q1' : ¬ m < su := by omega
  clear HP ip ok hm hL hsu hlog2 hstt sml smm hsnap
  go_upto_region 17 with (first
    | (go_at_call 13; refine c13.mono ?_; clear c13; rintro e w1 ⟨A5, e5, rfl, o5, m5⟩; have i1 := HP2.out.new m5; have c14 := stopP w1 p S s i1.pd keep)
    | (go_at_call 14; refine c14.mono ?_; clear c14; rintro e w2 ⟨q2, S2, rfl, a1, a2, a3⟩; have i2 := i1.new a3; obtain ⟨S2', j2, _⟩ := inP_made i1.below a1 a2 a3; have c15 := sure_any w2 p S s i2.pd; rw [HF.out.2.2.1] at c15; have c13b := log_out w2 q2 S2' (s.stopS keep) j2.pd L HF.out.2.2.2.1; have O5 := own_fr (S := noB) o5 (Fr.of_new a3) (fun _ _ e => e); clear a1 a2 a3 o5)
    | (go_at_call 15; refine c15.mono ?_; clear c15; rintro e w2' ⟨rfl, rfl⟩)
    | (go_at_call 13; refine c13b.mono ?_; clear c13b; rintro e w3 ⟨A6, e6, rfl, o6, m6⟩; have i3 := i2.new m6; have j3 := j2.new m6; have O5b := own_fr (S := noB) O5 (Fr.of_new m6) (fun _ _ e => e); clear m6))
  have hcap := (own_cap O5b).1
  have I3 := Lib.hid (And.intro i3 (And.intro j3 (And.intro O5b o6)))
  clear i1 i2 j2 i3 j3 O5 O5b o6 m5
  go_cut [115] from 88 to 115 (fun v wx => v = .bool false ∧ ∃ n, wx = w3.drewN n)
  case first =>
    obtain ⟨i3, j3, O5, o6⟩ := I3.out
    have h15 := fun k : Nat => sure_any (w3.drewN k) p S s (i3.drewN k).pd
    simp only [HF.out.2.2.1] at h15
    have t6 := fun m : Nat => run_str (P := Try.prog) (src := 22) (dst := 9) (c := e6) rfl rfl rfl ((Reads.of_own o6).drewN m) HF.out.2.2.2.2.2.1
    have hr5 : Reads w3 w3.heap.size 1 A5 L (byts (s.stopS keep).log) := by
      have := Reads.of_own (own_take O5 hLm)
      rw [← byts_take] at this
      rw [show (s.stopS keep).log = s.log.take L by rw [← HF.out.2.1]; rfl]
      exact this
    have t5 := fun m : Nat => run_str (P := Try.prog) (src := 22) (dst := 9) (c := e5) rfl rfl rfl (hr5.drewN m) HF.out.2.2.2.2.2.1
    generalize strN (s.stopS keep).log = X at *
    obtain ⟨j, hj⟩ : ∃ j, L - su = j := ⟨_, rfl⟩
    have u1 : IntKind.i64.wrap ((L : Int) - (su : Int)) = (j : Int) := by rw [IntWalk.i64_in _ (by omega)]; omega
    have r1 : ¬ (L : Int) < (su : Int) := by omega
    have r1' : ¬ L < su := by omega
    have r2 : ¬ (m : Int) < (L : Int) := by omega
    have r2' : ¬ m < L := by omega
    have r3 : (L : Int) ≤ (e5 : Int) := by omega
    have r4 : (0 : Int) ≤ (L : Int) := by omega
    by_cases hk : keep ≤ 0
    · have r5 : ¬ (0 : Int) < (j : Int) := by omega
      have r5' : ¬ 0 < j := by omega
      clear hj hr5 i3 j3 O5 o6 hLm hsm hsL q1 q1' I3
      go_quiet ((go_at_call 15; exact quiet_left (h15 _)))
      go_wp2
      go_meet
      exact ⟨rfl, _, rfl⟩
    · have r5 : ¬ keep < (j : Int) := by omega
      clear hj hr5 i3 j3 O5 o6 hLm hsm hsL q1 q1' I3
      go_quiet ((go_at_call 15; exact quiet_left (h15 _)))
      go_wp2
      go_meet
      exact ⟨rfl, _, rfl⟩
  case rest =>
  obtain ⟨rfl, n3, rfl⟩ := hcut
  obtain ⟨nv, x, Y, c14⟩ := lasts_chain w (w3.drewN n3) p S s q2 S2' keep A5 m e5 A6 L e6 Ad nd cd data (I3.out.1.drewN n3) (I3.out.2.1.drewN n3) HF.out.1 HF.out.2.2.2.1
    _ (own_fr (S := noB) I3.out.2.2.1 ((Fr.refl _ _).drewN n3) fun _ _ e => e) (fun k hk e => by
      have h1 := (I3.out.2.2.1.lt k (by rw [ownBlock_slice]; exact hk)).1
      have h2 := HP2.out.hi k e
      omega) ((conv_own I3.out.2.2.2 HF.out.2.2.2.2.2.1).new (below_drewN (Below.refl _ _) n3)) HR.out.2.2 hsd hnd
  clear HF I3 HR q1 q1' hLm hsm hsL hmm hcap
  generalize strN (s.stopS keep).log = XL at *
  generalize strN s.log = XS at *
  generalize w3.drewN n3 = u at *
  go_wp2_with (go_at_call 14; refine c14.mono ?_; clear c14; rintro e w4 ⟨q3, rfl, T6a, c13⟩; have t6a := T6a.here)
  go_region_law (first | (go_simp; go_at_call 13; refine c13.mono ?_; clear c13; rintro e w5 ⟨A7, e7, rfl, T6b, T7, c16⟩; have t6b := T6b.here; have t7 := T7.here))
  all_goals
    go_wp2_with (first
      | (go_at_call 16; refine c16.mono ?_; clear c16; rintro e w6 ⟨A8, e8, rfl, c17⟩)
      | (go_at_call 17; refine c17.mono ?_; clear c17; rintro e w7 ⟨rfl, c16b⟩)
      | (go_at_call 16; refine c16b.mono ?_; clear c16b; rintro e w8 ⟨A9, e9, rfl, T8, T9, c18⟩; have t8 := T8.here; have t9 := T9.here)
      | (go_at_call 18; refine c18.mono ?_; clear c18; rintro e w9 ⟨rfl, c14b⟩)
      | (go_at_call 14; refine c14b.mono ?_; clear c14b; rintro e w10 ⟨q4, rfl, T5a, c13b⟩; have t5a := T5a.here))
    go_region_law (first
      | (go_simp; go_at_call 13; refine c13b.mono ?_; clear c13b; rintro e w11 ⟨A10, e10, rfl, T5b, T10, c12⟩; have t5b := T5b.here; have t10 := T10.here)
      | (go_simp; go_at_call 12; refine c12.mono ?_; clear c12; rintro e w12 ⟨rfl, hbe, T5c, T10c⟩; have t5c := T5c.here; have t10c := T10c.here))
    all_goals
      go_wp2
      go_ret
      exact ⟨rfl, hbe⟩
end Go.Proofs.Ytapgcglpkilofaa
