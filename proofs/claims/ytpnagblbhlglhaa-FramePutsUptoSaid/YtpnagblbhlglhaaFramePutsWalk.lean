/- The walk of wicketlaw04.FramePuts: it answers true. Conditions: those that it states. -/
import Derived.Test.YtpnagblbhlglhaaFrameIn
import Derived.Test.YtpnagblbhlglhaaFrameKnown
import Derived.Deep.RegionLaw
import Derived.Deep.RegionHeld
import Derived.Deep.CutRange
import Derived.Deep.CutBlock
import Derived.Laws.Concat
namespace Go.Proofs.Ytpnagblbhlglhaa
open Go.RowKit

theorem strN_addF (l m : List Nat) : strN (l ++ m) = strN l ++ strN m := by
  apply ByteArray.ext
  simp [strN, ByteArray.data_append]
theorem strN_sizeF (l : List Nat) : (strN l).size = l.length := by
  simp [strN, ByteArray.size]
theorem strN_w (l : List Nat) : strN (l ++ [119]) = strN l ++ { data := #[119] } := strN_addF l [119]
/-- May the first k be put? -/
def mayK (fs : List FrS) (k : Nat) : Bool := (fs.take k).all fun x => decide (0 ≤ x.kind ∧ x.kind ≤ 255)
theorem mayK_step (fs : List FrS) (k : Nat) (h : k < fs.length) : mayK fs (k + 1) = (mayK fs k && decide (0 ≤ fs[k].kind ∧ fs[k].kind ≤ 255)) := by
  unfold mayK
  rw [List.take_succ_eq_append_getElem h, List.all_append]
  simp
theorem mayK_all (fs : List FrS) (k : Nat) (h : fs.length ≤ k) : mayK fs k = true ↔ ∀ x ∈ fs, x.ok := by
  unfold mayK
  rw [List.take_of_length_le h, List.all_eq_true]
  simp [FrS.ok]
set_option maxHeartbeats 8000000 in
set_option maxRecDepth 100000 in
theorem framePuts_walk (w : World) (kind : Int) (A0 : Option Addr) (n0 c0 : Nat) (body : List Nat) (A : Option Addr) (n c : Nat) (fs : List FrS) (h0 : Reads w w.heap.size 1 A0 n0 (byts body)) (hs0 : Small body) (hn0 : n0 ≤ 1048576) (h : InF w w.heap.size A n fs) (hn : n ≤ 1048576) (hT : sizeL (fs.map FrS.abs) ≤ 1000000000) :
    Calls Try.prog 11 #[.int .i64 kind, .slice A0 n0 c0, .slice A n c] w fun e w' => e = .returned (.bool true) ∧ Below w.heap.size w w' := by
  obtain ⟨i0, hi, hz0, hz1, hz2⟩ := info_parts Try.info5w
  have hlen := h.len
  have hlen0 : body.length = n0 := by have := h0.1; rw [byts_length] at this; omega
  have H0 := Lib.hid (And.intro h (And.intro hT (And.intro h0 (And.intro hs0 hlen0))))
  clear h hT h0 hs0 hlen0
  go_enter Try.func11, Try.ntmps11
  go_wp2
  go_loopw [7, 8] (fun mv iv wr => ∃ i m : Nat, i ≤ n ∧ m ≤ n0 + 60000 * i ∧ n0 ≤ m ∧ mv = .int .i64 m ∧ iv = .int .i64 i ∧ Hid (wr = w)) (fun _ iv _ => n - (intOf iv).toNat)
  case atStart => exact ⟨0, n0, by omega, by omega, by omega, rfl, rfl, Lib.hid rfl⟩
  case round =>
  obtain ⟨i, m, hi1, hm, hm0, rfl, rfl, HI⟩ := hrel
  obtain rfl := HI.out.symm
  by_cases hlt : i < n
  · have q1 : (i : Int) < (n : Int) := by omega
    have q3 : (0 : Int) ≤ (i : Int) := by omega
    have hil : i < fs.length := by omega
    obtain ⟨ad, rfl, hab, d0, d1, _, _, hb1'⟩ := H0.out.1.at_ i hil
    obtain ⟨nb, hnb⟩ : ∃ nb, fs[i].body.length = nb := ⟨_, rfl⟩
    obtain ⟨Ab, hAb⟩ : ∃ a, fs[i].A = a := ⟨_, rfl⟩
    obtain ⟨cb, hcb⟩ : ∃ a, fs[i].c = a := ⟨_, rfl⟩
    rw [hAb, hnb, hcb] at d1
    rw [hnb] at hb1'
    have d5 : w.cell? ⟨(ad.add (i * 2)).block, (ad.add (i * 2)).off + 1, none⟩ = some (.slice Ab nb cb) := d1
    clear d1 d0 hnb hAb hcb HI
    by_cases h60 : nb ≤ 60000
    · obtain ⟨m2, hm2⟩ : ∃ m2, m + nb = m2 := ⟨_, rfl⟩
      have hm3 : m2 ≤ n0 + 60000 * (i + 1) := by omega
      have u0 : IntKind.i64.wrap ((m : Int) + (nb : Int)) = (m2 : Int) := by rw [IntWalk.i64_in _ (by omega)]; omega
      go_wp2
      go_roundw
      case rel => exact ⟨i + 1, m2, by omega, hm3, by omega, rfl, by go_num, Lib.hid trivial⟩
      case measure => simp [intOf]; omega
    · obtain ⟨m2, hm2⟩ : ∃ m2, m + 60000 = m2 := ⟨_, rfl⟩
      have hm3 : m2 ≤ n0 + 60000 * (i + 1) := by omega
      have u0 : IntKind.i64.wrap ((m : Int) + 60000) = (m2 : Int) := by rw [IntWalk.i64_in _ (by omega)]; omega
      have x60 : ¬ (nb : Int) ≤ 60000 := by omega
      go_wp2
      go_roundw
      case rel => exact ⟨i + 1, m2, by omega, hm3, by omega, rfl, by go_num, Lib.hid trivial⟩
      case measure => simp [intOf]; omega
  have q1 : ¬ (i : Int) < (n : Int) := by omega
  obtain rfl : i = n := by omega
  clear HI
  by_cases hbig : 60000 < m
  · have q2 : (60000 : Int) < (m : Int) := by omega
    have k52 := knownF w
    go_wp2_with (go_at_call 52; refine k52.mono ?_; clear k52; rintro e wk ⟨rfl, bk⟩)
    go_ret
    exact ⟨rfl, bk⟩
  have q2 : ¬ (60000 : Int) < (m : Int) := by omega
  have hn6 : n0 ≤ 60000 := by omega
  have r0 := H0.out.2.2.1
  go_wp2_with (at_builtin; refine wpList_append_any _ rfl _ _ 24 rfl w.heap.size 5 i0 (.int .u8 0) 1 1 Try.underlying24 hi hz0 hz1 hz2 rfl (by decide) _ _ _ rfl (World.ownsRow_nil _ _ _ _) _ A0 n0 _ _ rfl r0 ?c1 ?c2 ?c3 ?c4 ?_)
  case c1 => exact byts_one _
  case c2 => unfold maxLen; omega
  case c3 => omega

  intro v2 w2 o2 g2 _
  obtain ⟨A2, c2, rfl⟩ := own_shape o2
  try simp only [Nat.zero_add, List.nil_append] at o2
  have hb2 : Below w.heap.size w w2 := (Below.refl _ _).grown g2 (Nat.le_refl _) (fun k hk => by cases hk)
  have o2' := o2.alloc (.cells #[.int .u8 119] 5)
  have r2 : Reads (w2.alloc (.cells #[.int .u8 119] 5)) (w2.heap.size + 1) 1 (some ⟨w2.heap.size, 0, none⟩) 1 (byts [119]) := by
    have := reads_blk (Blk.new w2 5 (byts [119]).toArray) (show ([119] : List Nat).length = 1 from rfl)
    rw [World.size_alloc] at this
    exact this
  go_wp2_with (at_builtin; refine wpList_append_any _ rfl _ _ 24 rfl w.heap.size 5 i0 (.int .u8 0) 1 1 Try.underlying24 hi hz0 hz1 hz2 rfl (by decide) _ _ _ rfl o2' _ _ 1 _ _ rfl r2 ?b1 ?b2 ?b3 ?b4 ?_)
  case b1 => exact byts_one _
  case b2 => unfold maxLen; omega
  case b3 => omega
  case b4 => simp; have := hb2.size; omega
  intro v3 w3 o3 g3 _
  obtain ⟨A3, c3, rfl⟩ := own_shape o3
  rw [← byts_append] at o3
  have hb3 : Below w.heap.size w w3 := (hb2.alloc hb2.size (.cells #[.int .u8 119] 5)).grown g3 (by simp; have := hb2.size; omega) (own_base o2')
  clear o2 o2' g2 g3 r2 r0 hb2
  have hc3 := (own_cap o3).1
  have hrb : Reads w3 w3.heap.size 1 A3 n0 (byts body) := by
    have := (Reads.of_own o3).upto (k := n0) (by omega)
    rw [Nat.mul_one, ← byts_take, List.take_append_of_le_length (by rw [H0.out.2.2.2.2]; exact Nat.le_refl _), ← H0.out.2.2.2.2, List.take_length] at this
    rw [← H0.out.2.2.2.2]
    exact this
  have rO := fun (W : World) (hW : Below w3.heap.size w3 W) => run_str (P := Try.prog) (src := 24) (dst := 9) (c := c3) rfl rfl rfl ((Reads.of_own o3).below hW) (small_append H0.out.2.2.2.1 (fun c hc => by simp at hc; omega))
  have rB := fun (W : World) (hW : Below w.heap.size w W) => run_str (P := Try.prog) (src := 24) (dst := 9) (c := c0) rfl rfl rfl (H0.out.2.2.1.below hW) H0.out.2.2.2.1
  obtain ⟨X, hX⟩ : ∃ X, strN body ++ { data := #[119] } = X := ⟨_, rfl⟩
  simp only [strN_w, hX] at rO
  have hadd := fun W : World => run_string_add_sum (P := Try.prog) W (strN body) { data := #[119] } (by rw [strN_sizeF, show ({ data := #[119] } : ByteArray).size = 1 from rfl, H0.out.2.2.2.2]; omega)
  simp only [hX] at hadd
  obtain ⟨Y, hY⟩ : ∃ Y, strN body = Y := ⟨_, rfl⟩
  simp only [hY] at rB hadd
  have hs3 : (n0 : Int) ≤ (c3 : Int) := by omega
  have hs4 : (0 : Int) ≤ (n0 : Int) := by omega
  have c61 := fun W : World => size_any W A0 n0 c0 (by omega)
  have HR := Lib.hid (And.intro rO (And.intro rB (And.intro hrb hb3)))
  clear rO rB hrb o3 hX hY
  by_cases hok : 0 ≤ kind ∧ kind ≤ 255
  · obtain ⟨K, rfl⟩ : ∃ K : Nat, kind = (K : Int) := ⟨kind.toNat, by omega⟩
    have hK : K < 256 := by omega
    have k1 : ¬ (K : Int) < 0 := by omega
    have k2 : ¬ (255 : Int) < (K : Int) := by omega
    obtain ⟨F, hF⟩ : ∃ F, frameN K body = F := ⟨_, rfl⟩
    obtain ⟨N, hN⟩ : ∃ N, 9 + n0 = N := ⟨_, rfl⟩
    have hFs : Small F := by
      rw [← hF]
      exact small_append (small_append (headN_small hK) (word4_small _)) H0.out.2.2.2.1
    have C60 : ∀ W, Below w3.heap.size w3 W → Calls Try.prog 60 #[.int .i64 (K : Nat), .slice A3 n0 c3] W fun e w' => ∃ A4 c4, e = .returned (.tuple #[.slice A4 N c4, .int .i64 0]) ∧ Hid (w'.ownsRow W.heap.size 5 1 (.slice A4 N c4) N (byts F) ∧ Below W.heap.size W w' ∧ Below w3.heap.size w3 w' ∧ Below w3.heap.size w3 W) := by
      intro W hW
      refine (put_any W w3.heap.size K A3 n0 c3 body hK (HR.out.2.2.1.below hW) H0.out.2.2.2.1 hW.size hn0).mono ?_
      rintro e w' ⟨A4, c4, rfl, ho, hb⟩
      rw [hN, hF] at *
      exact ⟨A4, c4, rfl, Lib.hid ⟨ho, hb, hW.trans (hb.mono hW.size), hW⟩⟩
    have HF := Lib.hid (And.intro hF (And.intro hN hFs))
    clear hF hFs
    have bel3 := Below.refl w3.heap.size w3
    have e9 : ((9 + n0 : Nat) : Int) = 9 + (n0 : Int) := by omega
    go_upto_region 16 with (first
      | (go_at_call 60; refine (C60 _ bel3).mono ?_; clear bel3; rintro e w4 ⟨A4, c4, rfl, H4⟩; have bel4 := H4.out.2.2.1)
      | (go_at_call 60; refine (C60 _ bel4).mono ?_; clear bel4 C60; rintro e w5 ⟨A5, c5, rfl, H5⟩; have bel5 := H5.out.2.2.1; have f0 := HR.out.1 _ bel5; have f1 := HR.out.2.1 _ (HR.out.2.2.2.trans (bel5.mono HR.out.2.2.2.size)))
      | (go_at_call 61; refine (c61 _).mono ?_; rintro e w6 ⟨rfl, rfl⟩))
    -- string(a) against the document's
    obtain ⟨Z, hZ⟩ : ∃ Z, strN F = Z := ⟨_, rfl⟩
    have hb5 := H5.out.2.1
    have rA := fun (W : World) (hW : Below w5.heap.size w5 W) => run_str (P := Try.prog) (src := 24) (dst := 9) (c := c4) rfl rfl rfl (((Reads.of_own H4.out.1).below hb5).below (hW.mono hb5.size)) HF.out.2.2
    have hbw5 : Below w.heap.size w w5 := HR.out.2.2.2.trans (bel5.mono HR.out.2.2.2.size)
    have c62 : ∀ W, Below w5.heap.size w5 W → Calls Try.prog 62 #[.int .i64 (K : Nat), .slice A0 n0 c0] W fun e w' => ∃ A6 c6, e = .returned (.slice A6 N c6) ∧ (convert 24 9 (.slice A6 N c6)).run Try.prog w' = .ok (.string (strN F)) w' ∧ Below w5.heap.size w5 w' := by
      intro W hW
      have hwW := hbw5.trans (hW.mono hbw5.size)
      refine (refPut_any W w.heap.size K A0 n0 c0 body hK (H0.out.2.2.1.below hwW) H0.out.2.2.2.1 hwW.size hn0).mono ?_
      rintro e w' ⟨A6, c6, rfl, ho, hb⟩
      rw [HF.out.2.1] at ho ⊢
      rw [HF.out.1] at ho
      exact ⟨A6, c6, rfl, run_str rfl rfl rfl (Reads.of_own ho) HF.out.2.2, hW.trans (hb.mono hW.size)⟩
    simp only [hZ] at rA c62
    have belw := (Below.refl w5.heap.size w5).drew
    have a0 := rA _ belw
    have HW5 := Lib.hid hbw5
    clear hbw5 hb5 f0 f1 bel5 e9
    go_region_held (fun w' => (convert 24 9 (.slice A4 N c4)).run Try.prog w' = .ok (.string Z) w') (first | assumption | go_keep) (first
      | (go_at_call 62; refine (c62 _ (by assumption)).mono ?_; rintro e w7 ⟨A7, c7, rfl, t7, g7⟩; have b0 := rA _ g7)
      | (go_at_call 55; refine (numE_any _ _).mono ?_; rintro e w8 ⟨rfl, rfl⟩))
    have g7' := g7
    have hbw7 : Below w.heap.size w w7 := HW5.out.trans (g7.mono HW5.out.size)
    have oa7 := own_fr (own_fr H4.out.1 (Fr.of_new (S := noB) H5.out.2.1) (fun _ _ e => e)) (Fr.of_new (S := noB) g7) (fun _ _ e => e)
    have ob7 := own_fr H5.out.1 (Fr.of_new (S := noB) g7) (fun _ _ e => e)
    have hN9 : 9 ≤ N := by have := HF.out.2.1; omega
    have hN2 : N ≤ 70000 := by have := HF.out.2.1; omega
    have hbase : w3.heap.size ≤ w4.heap.size := H4.out.2.2.1.size
    have hb34 : w.heap.size ≤ w3.heap.size := HR.out.2.2.2.size
    have hlt4 := (H4.out.1.lt)
    have hap : ∀ g, A4 = some ⟨g, 0, none⟩ → (Value.slice A5 N c5).ownBlock ≠ some g := fun g e e2 => by
      have h1 := own_base H5.out.1 g e2
      have h2 := (hlt4 g (by rw [ownBlock_slice, e]; rfl)).2
      omega
    have HI7 := Lib.hid (show w7.ownsRow w3.heap.size 5 1 (.slice A4 N c4) N (byts F) ∧ F.length = N ∧ w7.ownsRow w4.heap.size 5 1 (.slice A5 N c5) N (byts F) ∧ Below w.heap.size w w7 from ⟨oa7, by have := oa7.1; rw [byts_length, Nat.mul_one] at this; exact this, ob7, hbw7⟩)
    have HAP := Lib.hid hap
    clear oa7 ob7 hbw7 g7' rA a0 b0 t7 belw c62 hap hlt4
    go_wp2
    go_loopw [14] (fun iv wr => ∃ (j : Nat) (x : List Nat), j ≤ N ∧ iv = .int .i64 j ∧ Hid (wr.ownsRow w3.heap.size 5 1 (.slice A4 N c4) N (byts x) ∧ x.length = N ∧ wr.ownsRow w4.heap.size 5 1 (.slice A5 N c5) N (byts F) ∧ Below w.heap.size w wr)) (fun iv _ => N - (intOf iv).toNat)
    case atStart => exact ⟨0, F, by omega, rfl, HI7⟩
    case round =>
    clear HI7
    obtain ⟨j, x, hj, rfl, HJ⟩ := hrel
    by_cases hlt2 : j < N
    · have q4 : (j : Int) < (N : Int) := by omega
      have q5 : (0 : Int) ≤ (j : Int) := by omega
      obtain ⟨g, rfl, hg1, hg2, hcell, hfr, hset⟩ := own_open HJ.out.1 (by omega)
      have hjx : j < x.length := by rw [HJ.out.2.1]; exact hlt2
      have x0 := hcell j (.int .u8 (x[j] : Nat)) (by simp [byts, hjx])
      have x1 := hfr j
      have HN := Lib.hid (show (wr.setCell ⟨g, j, none⟩ (.int .u8 90)).ownsRow w3.heap.size 5 1 (.slice (some ⟨g, 0, none⟩) N c4) N (byts (x.set j 90)) ∧ (x.set j 90).length = N ∧ (wr.setCell ⟨g, j, none⟩ (.int .u8 90)).ownsRow w4.heap.size 5 1 (.slice A5 N c5) N (byts F) ∧ Below w.heap.size w (wr.setCell ⟨g, j, none⟩ (.int .u8 90)) from
        ⟨by have := hset j (.int .u8 90) hlt2; have e : byts (x.set j 90) = (byts x).set j (.int .u8 90) := by simp [byts, List.map_set]
            rw [e]; exact this, by rw [List.length_set]; exact HJ.out.2.1, own_setCell HJ.out.2.2.1 (HAP.out g rfl) _, HJ.out.2.2.2.setCell (p := ⟨g, j, none⟩) (by show w.heap.size ≤ g; omega) _⟩)
      clear hcell hfr hset
      go_wp2
      go_roundw
      case rel => exact ⟨j + 1, x.set j 90, by omega, by go_num, HN⟩
      case measure => simp [intOf]; omega
    have q4 : ¬ (j : Int) < (N : Int) := by omega
    obtain rfl : j = N := by omega
    have hbw8 := HJ.out.2.2.2
    have rC := fun (W : World) (hW : Below wr.heap.size wr W) => run_str (P := Try.prog) (src := 24) (dst := 9) (c := c5) rfl rfl rfl ((Reads.of_own HJ.out.2.2.1).below hW) HF.out.2.2
    have c62 : ∀ W, Below wr.heap.size wr W → Calls Try.prog 62 #[.int .i64 (K : Nat), .slice A0 n0 c0] W fun e w' => ∃ A6 c6, e = .returned (.slice A6 j c6) ∧ (convert 24 9 (.slice A6 j c6)).run Try.prog w' = .ok (.string (strN F)) w' ∧ Below wr.heap.size wr w' := by
      intro W hW
      have hwW := hbw8.trans (hW.mono hbw8.size)
      refine (refPut_any W w.heap.size K A0 n0 c0 body hK (H0.out.2.2.1.below hwW) H0.out.2.2.2.1 hwW.size hn0).mono ?_
      rintro e w' ⟨A6, c6, rfl, ho, hb⟩
      rw [HF.out.2.1] at ho ⊢
      rw [HF.out.1] at ho
      exact ⟨A6, c6, rfl, run_str rfl rfl rfl (Reads.of_own ho) HF.out.2.2, hW.trans (hb.mono hW.size)⟩
    simp only [hZ] at rC c62
    have belw := (Below.refl wr.heap.size wr).drew
    have a0 := rC _ belw
    have HW8 := Lib.hid hbw8
    clear hbw8 HJ
    go_upto_region 22 with (fail)
    go_region_held (fun w' => (convert 24 9 (.slice A5 j c5)).run Try.prog w' = .ok (.string Z) w') (first | assumption | go_keep) (first
      | (go_at_call 62; refine (c62 _ (by assumption)).mono ?_; rintro e w8 ⟨A8, c8, rfl, t8, g8⟩; have b0 := rC _ g8))
    have HWT := Lib.hid (HW8.out.trans (g8.mono HW8.out.size))
    clear rC c62 a0 b0 t8 belw g8 g7 HAP HF H4 H5 HR hadd c61 hZ
    --TAIL1
    go_wp2
    go_loopw [16, 17] (fun mv iv wr => ∃ (k : Nat) (may : Bool), k ≤ i ∧ iv = .int .i64 k ∧ mv = .bool may ∧ Hid (wr = w8 ∧ may = mayK fs k)) (fun _ iv _ => i - (intOf iv).toNat)
    case atStart => exact ⟨0, true, by omega, rfl, rfl, Lib.hid ⟨rfl, rfl⟩⟩
    case round =>
    obtain ⟨k, may, hk, rfl, rfl, HM⟩ := hrel
    obtain ⟨rfl, hmay⟩ := HM.out
    clear HM
    by_cases hltk : k < i
    · have q4 : (k : Int) < (i : Int) := by omega
      have q5 : (0 : Int) ≤ (k : Int) := by omega
      have hkl : k < fs.length := by omega
      obtain ⟨ad, rfl, hab, d0, _⟩ := (H0.out.1.below HWT.out).at_ k hkl
      have hst := mayK_step fs k hkl
      obtain ⟨KK, hKK⟩ : ∃ KK, fs[k].kind = KK := ⟨_, rfl⟩
      rw [hKK] at hst d0
      rw [← hmay] at hst
      clear hKK hmay
      cases may with
      | false =>
        have HS := Lib.hid (show mayK fs (k + 1) = false from by rw [hst]; rfl)
        clear hst
        go_wp2
        go_roundw
        case rel => exact ⟨k + 1, false, by omega, by go_num, rfl, Lib.hid ⟨by trivial, HS.out.symm⟩⟩
        case measure => simp [intOf]; omega
      | true =>
        by_cases g1 : 0 ≤ KK
        · by_cases g2' : KK ≤ 255
          · have HS := Lib.hid (show mayK fs (k + 1) = true from by rw [hst]; simp [g1, g2'])
            clear hst
            go_wp2
            go_roundw
            case rel => exact ⟨k + 1, true, by omega, by go_num, rfl, Lib.hid ⟨by trivial, HS.out.symm⟩⟩
            case measure => simp [intOf]; omega
          · have HS := Lib.hid (show mayK fs (k + 1) = false from by rw [hst]; simp [g2'])
            clear hst
            go_wp2
            go_roundw
            case rel => exact ⟨k + 1, false, by omega, by go_num, rfl, Lib.hid ⟨by trivial, HS.out.symm⟩⟩
            case measure => simp [intOf]; omega
        · have HS := Lib.hid (show mayK fs (k + 1) = false from by rw [hst]; simp [g1])
          clear hst
          go_wp2
          go_roundw
          case rel => exact ⟨k + 1, false, by omega, by go_num, rfl, Lib.hid ⟨by trivial, HS.out.symm⟩⟩
          case measure => simp [intOf]; omega
    have q4 : ¬ (k : Int) < (i : Int) := by omega
    obtain rfl : k = i := by omega
    have hbW := HWT.out
    have hmall := mayK_all fs k (by omega)
    rw [← hmay] at hmall
    have c63 := fun (W : World) (hW : Below w.heap.size w W) => putAll_any W w.heap.size A k c fs (H0.out.1.below hW) hW.size hn H0.out.2.1
    cases may with
    | false =>
      clear hmay
      have hnall : ¬ ∀ x ∈ fs, x.ok := fun h => by have := hmall.2 h; cases this
      have C63 : ∀ W, Below w.heap.size w W → Calls Try.prog 63 #[.slice A k c] W fun e w' => e = .returned (.tuple #[.slice none 0 0, .int .i64 2]) ∧ Below w.heap.size w w' := by
        intro W hW
        refine (c63 W hW).mono ?_
        rintro e w' ⟨hb, ⟨h, _⟩ | ⟨_, rfl⟩⟩
        · exact absurd h hnall
        · exact ⟨rfl, hW.trans (hb.mono hW.size)⟩
      clear c63 hmall hnall
      have rnil : ∀ W : World, (convert 24 9 (.slice none 0 0)).run Try.prog W = .ok (.string (strN [])) W := fun W => run_str (bs := []) rfl rfl rfl (Reads.none_ (B := 0)) (fun c hc => by (cases hc))
      generalize strN [] = Z0 at rnil
      have k52 := knownF
      go_wp2
      go_loopw [15, 18] (fun wv iv wr2 => wv = .slice none 0 0 ∧ iv = .int .i64 0 ∧ wr2 = wr) (fun _ _ _ => 0)
      case atStart => exact ⟨rfl, rfl, rfl⟩
      case round =>
      obtain ⟨rfl, rfl, rfl⟩ := hrel
      by_cases hk0 : k = 0
      · subst hk0
        go_wp2_with (first
          | (go_at_call 63; refine (C63 _ hbW).mono ?_; clear C63; rintro e w9 ⟨rfl, h9⟩; have k9 := k52 w9)
          | (go_at_call 55; refine (numE_any _ _).mono ?_; rintro e wz ⟨rfl, rfl⟩)
          | (go_at_call 52; refine k9.mono ?_; clear k9; rintro e w10 ⟨rfl, h10⟩))
        go_ret
        exact ⟨rfl, h9.trans (h10.mono h9.size)⟩
      · have q6 : (0 : Int) < (k : Int) := by omega
        have q7 : 0 < k := by omega
        go_wp2_with (first
          | (go_at_call 63; refine (C63 _ hbW).mono ?_; clear C63; rintro e w9 ⟨rfl, h9⟩; have k9 := k52 w9)
          | (go_at_call 55; refine (numE_any _ _).mono ?_; rintro e wz ⟨rfl, rfl⟩)
          | (go_at_call 52; refine k9.mono ?_; clear k9; rintro e w10 ⟨rfl, h10⟩))
        go_ret
        exact ⟨rfl, h9.trans (h10.mono h9.size)⟩
    | true =>
      clear hmay
      have hall := hmall.1 rfl
      clear hmall
      have HA := Lib.hid hall
      have hpre : ∀ j, (framesN ((fs.take j).map FrS.abs)).length ≤ 1000000000 := fun j => by
        rw [framesN_len]
        refine Nat.le_trans (prefix_size ?_) H0.out.2.1
        exact (List.take_prefix j fs).map FrS.abs
      have HP := Lib.hid hpre
      clear hpre hall
      have H1 := Lib.hid hbW
      clear hbW
      go_wp2
      go_loopw [15, 18] (fun ov iv wr2 => ∃ (j m : Nat) (A2 : Option Addr) (c2 : Nat), j ≤ k ∧ iv = .int .i64 j ∧ ov = .slice A2 m c2 ∧ Hid ((framesN ((fs.take j).map FrS.abs)).length = m ∧ wr2.ownsRow w.heap.size 5 1 (.slice A2 m c2) m (byts (framesN ((fs.take j).map FrS.abs))) ∧ Below w.heap.size w wr2)) (fun _ iv _ => k - (intOf iv).toNat)
      case atStart => exact ⟨0, 0, _, _, by omega, rfl, rfl, Lib.hid ⟨rfl, World.ownsRow_nil _ _ _ _, H1.out⟩⟩
      case round =>
      clear H1
      obtain ⟨j, m, A2, c2, hj, rfl, rfl, HJ⟩ := hrel
      by_cases hltj : j < k
      · have q6 : (j : Int) < (k : Int) := by omega
        have q7 : (0 : Int) ≤ (j : Int) := by omega
        have hjl : j < fs.length := by omega
        obtain ⟨ad, rfl, hab, d0, d1, hrd, hsm, hb1⟩ := (H0.out.1.below HJ.out.2.2).at_ j hjl
        have hkind := HA.out _ (List.getElem_mem hjl)
        have htake := framesN_take fs j hjl
        have hm1 := HP.out (j + 1)
        obtain ⟨K1, hK⟩ : ∃ K, fs[j].kind.toNat = K := ⟨_, rfl⟩
        have hK' : fs[j].kind = (K1 : Int) := by unfold FrS.ok at hkind; omega
        have hK2 : K1 < 256 := by unfold FrS.ok at hkind; omega
        obtain ⟨bd, hbd⟩ : ∃ bd, fs[j].body = bd := ⟨_, rfl⟩
        obtain ⟨Ab, hAb⟩ : ∃ a, fs[j].A = a := ⟨_, rfl⟩
        obtain ⟨cb, hcb⟩ : ∃ a, fs[j].c = a := ⟨_, rfl⟩
        rw [hK'] at d0
        rw [hAb, hbd, hcb] at d1
        rw [hAb, hbd] at hrd
        rw [hbd] at hsm hb1
        rw [hK, hbd] at htake
        have hlm := HJ.out.1
        have hoj := HJ.out.2.1
        obtain ⟨Lj, hLj⟩ : ∃ L, framesN ((fs.take j).map FrS.abs) = L := ⟨_, rfl⟩
        rw [hLj] at htake hlm hoj
        rw [htake, List.length_append, frameN_len, hlm] at hm1
        obtain ⟨nb, hnb⟩ : ∃ nb, bd.length = nb := ⟨_, rfl⟩
        rw [hnb] at d1 hrd hb1 hm1
        have d2 : wr.drew.cell? (ad.add (j * 2)) = some (.int .i64 (K1 : Nat)) := d0
        have d5 : wr.cell? ⟨(ad.add (j * 2)).block, (ad.add (j * 2)).off + 1, none⟩ = some (.slice Ab nb cb) := d1
        have d6 : wr.drew.cell? ⟨(ad.add (j * 2)).block, (ad.add (j * 2)).off + 1, none⟩ = some (.slice Ab nb cb) := d1
        have hbd' : Below w.heap.size w wr.drew := HJ.out.2.2.drew
        have c62 := refPut_any wr.drew w.heap.size K1 Ab nb cb bd hK2 hrd.drew hsm hbd'.size hb1
        have C62 : Calls Try.prog 62 #[.int .i64 (K1 : Nat), .slice Ab nb cb] wr.drew fun e w6 => ∃ A3 c3, e = .returned (.slice A3 (9 + nb) c3) ∧ Hid (Reads w6 w6.heap.size 1 A3 (9 + nb) (byts (frameN K1 bd)) ∧ w6.ownsRow w.heap.size 5 1 (.slice A2 m c2) m (byts Lj) ∧ Below w.heap.size w w6) := by
          refine c62.mono ?_
          rintro e w6 ⟨A3, c3, rfl, ho, hb⟩
          have hb2 : Below wr.heap.size wr w6 := (Below.refl _ wr).drew.trans hb
          exact ⟨A3, c3, rfl, Lib.hid ⟨Reads.of_own ho, own_fr hoj (Fr.of_new (S := noB) hb2) (fun _ _ e => e), HJ.out.2.2.trans (hb2.mono HJ.out.2.2.size)⟩⟩
        have FIN : ∀ (w6 : World) (v3 : Value) (w7 : World), (w6.ownsRow w.heap.size 5 1 (.slice A2 m c2) m (byts Lj) ∧ Below w.heap.size w w6) → w7.ownsRow w.heap.size 5 1 v3 (m + (9 + nb)) (byts Lj ++ byts (frameN K1 bd)) → w6.grownBy w7 (Value.slice A2 m c2).ownBlock → ∃ A4 c4, v3 = .slice A4 (m + (9 + nb)) c4 ∧ Hid ((framesN ((fs.take (j + 1)).map FrS.abs)).length = m + (9 + nb) ∧ w7.ownsRow w.heap.size 5 1 (.slice A4 (m + (9 + nb)) c4) (m + (9 + nb)) (byts (framesN ((fs.take (j + 1)).map FrS.abs))) ∧ Below w.heap.size w w7) := by
          intro w6 v3 w7 h6 o3 g3
          obtain ⟨A4, c4, rfl⟩ := own_shape o3
          rw [← byts_append, ← htake] at o3
          exact ⟨A4, c4, rfl, Lib.hid ⟨by rw [htake, List.length_append, frameN_len, hlm, hnb], o3, h6.2.grown g3 h6.2.size (own_base h6.1)⟩⟩
        have FN := Lib.hid FIN
        clear FIN htake hoj hLj c62 hrd hsm hK hK' hbd hAb hcb hkind hab hbd' hlm hnb
        have p1 : m + (9 + nb) ≤ maxLen := by unfold maxLen; omega
        have p2 : (m + (9 + nb)) * 1 ≤ 140737488355328 := by omega
        go_wp2
        go_region_law (first
          | (go_simp; go_at_call 62; refine C62.mono ?_; clear C62; rintro e w6 ⟨A3, c3, rfl, H6⟩; have hsz6 := H6.out.2.2.size)
          | (refine step_append_any w6 rfl _ _ 24 rfl w.heap.size 5 i0 (.int .u8 0) 1 1 Try.underlying24 hi hz0 hz1 hz2 rfl (by decide) _ _ _ rfl H6.out.2.1 w6.heap.size A3 (9 + nb) _ _ rfl H6.out.1 (byts_one _) p1 p2 hsz6 ?_; intro v3 w7 ho2 hg2 _; obtain ⟨A4, c4, rfl, H7⟩ := FN.out w6 v3 w7 H6.out.2 ho2 hg2; clear ho2 hg2))
        all_goals
          clear d0 d1 d2 d5 d6
          go_wp2
          go_roundw
          case rel => exact ⟨j + 1, m + (9 + nb), A4, c4, by omega, by go_num, rfl, H7⟩
          case measure => simp [intOf]; omega
      have q6 : ¬ (j : Int) < (k : Int) := by omega
      obtain rfl : j = k := by omega
      have hfull : fs.take j = fs := List.take_of_length_le (by omega)
      obtain ⟨h1, h2, h3⟩ := HJ.out
      rw [hfull] at h1 h2
      obtain ⟨FF, hFF⟩ : ∃ L, framesN (fs.map FrS.abs) = L := ⟨_, rfl⟩
      rw [hFF] at h1 h2
      have hsF : Small FF := by
        rw [← hFF]
        intro x hx
        obtain ⟨y, hy, hx⟩ := List.mem_flatMap.1 hx
        obtain ⟨z, hz, rfl⟩ := List.mem_map.1 hy
        obtain ⟨j', hj', rfl⟩ := List.getElem_of_mem hz
        obtain ⟨_, _, _, _, _, _, hs, _⟩ := H0.out.1.at_ j' hj'
        have hk : fs[j'].kind.toNat < 256 := by have := HA.out _ hz; unfold FrS.ok at this; omega
        exact (small_append (small_append (headN_small hk) (word4_small _)) hs) x hx
      have C63 : Calls Try.prog 63 #[.slice A j c] wr fun e w' => ∃ A7 c7, e = .returned (.tuple #[.slice A7 m c7, .int .i64 0]) ∧ (convert 24 9 (.slice A7 m c7)).run Try.prog w' = .ok (.string (strN FF)) w' ∧ (convert 24 9 (.slice A2 m c2)).run Try.prog w' = .ok (.string (strN FF)) w' ∧ Below w.heap.size w w' := by
        refine (c63 wr h3).mono ?_
        rintro e w' ⟨hb, ⟨_, A7, c7, rfl, ho⟩ | ⟨⟨x, hx, hno⟩, _⟩⟩
        · rw [hFF, h1] at ho ⊢
          exact ⟨A7, c7, rfl, run_str rfl rfl rfl (Reads.of_own ho) hsF, run_str rfl rfl rfl ((Reads.of_own h2).below hb) hsF, h3.trans (hb.mono h3.size)⟩
        · exact absurd (HA.out x hx) hno
      obtain ⟨ZZ, hZZ⟩ : ∃ Z, strN FF = Z := ⟨_, rfl⟩
      simp only [hZZ] at C63
      clear c63 h1 h2 h3 hsF hFF hZZ hfull HJ
      have k52 := knownF
      go_wp2_with (first
        | (go_at_call 63; refine C63.mono ?_; clear C63; rintro e w9 ⟨A7, c7, rfl, t7, t2, h9⟩; have k9 := k52 w9)
        | (go_at_call 55; refine (numE_any _ _).mono ?_; rintro e wz ⟨rfl, rfl⟩)
        | (go_at_call 52; refine k9.mono ?_; clear k9; rintro e w10 ⟨rfl, h10⟩))
      go_ret
      exact ⟨rfl, h9.trans (h10.mono h9.size)⟩
  · have hko : kind < 0 ∨ 255 < kind := by omega
    have c60 := fun W : World => put_no W kind A3 n0 c3 hko
    have HWT := Lib.hid HR.out.2.2.2
    have f0 := HR.out.1 _ (Below.refl _ w3)
    have f1 := HR.out.2.1 _ HR.out.2.2.2
    have hko2 : ¬ (0 ≤ kind ∧ kind ≤ 255) := hok
    clear hok hko2
    rcases hko with hko | hko
    · go_upto_region 24 with (first
        | (go_at_call 60; refine (c60 _).mono ?_; rintro e w4 ⟨rfl, rfl⟩)
        | (go_at_call 61; refine (c61 _).mono ?_; rintro e w6 ⟨rfl, rfl⟩)
        | (go_at_call 55; refine (numE_any _ _).mono ?_; rintro e w8 ⟨rfl, rfl⟩))
      clear f0 f1 c60 c61 hadd HR
      go_wp2
      go_loopw [16, 17] (fun mv iv wr => ∃ (k : Nat) (may : Bool), k ≤ i ∧ iv = .int .i64 k ∧ mv = .bool may ∧ Hid (wr = w3 ∧ may = mayK fs k)) (fun _ iv _ => i - (intOf iv).toNat)
      case atStart => exact ⟨0, true, by omega, rfl, rfl, Lib.hid ⟨rfl, rfl⟩⟩
      case round =>
      obtain ⟨k, may, hk, rfl, rfl, HM⟩ := hrel
      obtain ⟨rfl, hmay⟩ := HM.out
      clear HM
      by_cases hltk : k < i
      · have q4 : (k : Int) < (i : Int) := by omega
        have q5 : (0 : Int) ≤ (k : Int) := by omega
        have hkl : k < fs.length := by omega
        obtain ⟨ad, rfl, hab, d0, _⟩ := (H0.out.1.below HWT.out).at_ k hkl
        have hst := mayK_step fs k hkl
        obtain ⟨KK, hKK⟩ : ∃ KK, fs[k].kind = KK := ⟨_, rfl⟩
        rw [hKK] at hst d0
        rw [← hmay] at hst
        clear hKK hmay
        cases may with
        | false =>
          have HS := Lib.hid (show mayK fs (k + 1) = false from by rw [hst]; rfl)
          clear hst
          go_wp2
          go_roundw
          case rel => exact ⟨k + 1, false, by omega, by go_num, rfl, Lib.hid ⟨by trivial, HS.out.symm⟩⟩
          case measure => simp [intOf]; omega
        | true =>
          by_cases g1 : 0 ≤ KK
          · by_cases g2' : KK ≤ 255
            · have HS := Lib.hid (show mayK fs (k + 1) = true from by rw [hst]; simp [g1, g2'])
              clear hst
              go_wp2
              go_roundw
              case rel => exact ⟨k + 1, true, by omega, by go_num, rfl, Lib.hid ⟨by trivial, HS.out.symm⟩⟩
              case measure => simp [intOf]; omega
            · have HS := Lib.hid (show mayK fs (k + 1) = false from by rw [hst]; simp [g2'])
              clear hst
              go_wp2
              go_roundw
              case rel => exact ⟨k + 1, false, by omega, by go_num, rfl, Lib.hid ⟨by trivial, HS.out.symm⟩⟩
              case measure => simp [intOf]; omega
          · have HS := Lib.hid (show mayK fs (k + 1) = false from by rw [hst]; simp [g1])
            clear hst
            go_wp2
            go_roundw
            case rel => exact ⟨k + 1, false, by omega, by go_num, rfl, Lib.hid ⟨by trivial, HS.out.symm⟩⟩
            case measure => simp [intOf]; omega
      have q4 : ¬ (k : Int) < (i : Int) := by omega
      obtain rfl : k = i := by omega
      have hbW := HWT.out
      have hmall := mayK_all fs k (by omega)
      rw [← hmay] at hmall
      have c63 := fun (W : World) (hW : Below w.heap.size w W) => putAll_any W w.heap.size A k c fs (H0.out.1.below hW) hW.size hn H0.out.2.1
      cases may with
      | false =>
        clear hmay
        have hnall : ¬ ∀ x ∈ fs, x.ok := fun h => by have := hmall.2 h; cases this
        have C63 : ∀ W, Below w.heap.size w W → Calls Try.prog 63 #[.slice A k c] W fun e w' => e = .returned (.tuple #[.slice none 0 0, .int .i64 2]) ∧ Below w.heap.size w w' := by
          intro W hW
          refine (c63 W hW).mono ?_
          rintro e w' ⟨hb, ⟨h, _⟩ | ⟨_, rfl⟩⟩
          · exact absurd h hnall
          · exact ⟨rfl, hW.trans (hb.mono hW.size)⟩
        clear c63 hmall hnall
        have rnil : ∀ W : World, (convert 24 9 (.slice none 0 0)).run Try.prog W = .ok (.string (strN [])) W := fun W => run_str (bs := []) rfl rfl rfl (Reads.none_ (B := 0)) (fun c hc => by (cases hc))
        generalize strN [] = Z0 at rnil
        have k52 := knownF
        go_wp2
        go_loopw [15, 18] (fun wv iv wr2 => wv = .slice none 0 0 ∧ iv = .int .i64 0 ∧ wr2 = wr) (fun _ _ _ => 0)
        case atStart => exact ⟨rfl, rfl, rfl⟩
        case round =>
        obtain ⟨rfl, rfl, rfl⟩ := hrel
        by_cases hk0 : k = 0
        · subst hk0
          go_wp2_with (first
            | (go_at_call 63; refine (C63 _ hbW).mono ?_; clear C63; rintro e w9 ⟨rfl, h9⟩; have k9 := k52 w9)
            | (go_at_call 55; refine (numE_any _ _).mono ?_; rintro e wz ⟨rfl, rfl⟩)
            | (go_at_call 52; refine k9.mono ?_; clear k9; rintro e w10 ⟨rfl, h10⟩))
          go_ret
          exact ⟨rfl, h9.trans (h10.mono h9.size)⟩
        · have q6 : (0 : Int) < (k : Int) := by omega
          have q7 : 0 < k := by omega
          go_wp2_with (first
            | (go_at_call 63; refine (C63 _ hbW).mono ?_; clear C63; rintro e w9 ⟨rfl, h9⟩; have k9 := k52 w9)
            | (go_at_call 55; refine (numE_any _ _).mono ?_; rintro e wz ⟨rfl, rfl⟩)
            | (go_at_call 52; refine k9.mono ?_; clear k9; rintro e w10 ⟨rfl, h10⟩))
          go_ret
          exact ⟨rfl, h9.trans (h10.mono h9.size)⟩
      | true =>
        clear hmay
        have hall := hmall.1 rfl
        clear hmall
        have HA := Lib.hid hall
        have hpre : ∀ j, (framesN ((fs.take j).map FrS.abs)).length ≤ 1000000000 := fun j => by
          rw [framesN_len]
          refine Nat.le_trans (prefix_size ?_) H0.out.2.1
          exact (List.take_prefix j fs).map FrS.abs
        have HP := Lib.hid hpre
        clear hpre hall
        have H1 := Lib.hid hbW
        clear hbW
        go_wp2
        go_loopw [15, 18] (fun ov iv wr2 => ∃ (j m : Nat) (A2 : Option Addr) (c2 : Nat), j ≤ k ∧ iv = .int .i64 j ∧ ov = .slice A2 m c2 ∧ Hid ((framesN ((fs.take j).map FrS.abs)).length = m ∧ wr2.ownsRow w.heap.size 5 1 (.slice A2 m c2) m (byts (framesN ((fs.take j).map FrS.abs))) ∧ Below w.heap.size w wr2)) (fun _ iv _ => k - (intOf iv).toNat)
        case atStart => exact ⟨0, 0, _, _, by omega, rfl, rfl, Lib.hid ⟨rfl, World.ownsRow_nil _ _ _ _, H1.out⟩⟩
        case round =>
        clear H1
        obtain ⟨j, m, A2, c2, hj, rfl, rfl, HJ⟩ := hrel
        by_cases hltj : j < k
        · have q6 : (j : Int) < (k : Int) := by omega
          have q7 : (0 : Int) ≤ (j : Int) := by omega
          have hjl : j < fs.length := by omega
          obtain ⟨ad, rfl, hab, d0, d1, hrd, hsm, hb1⟩ := (H0.out.1.below HJ.out.2.2).at_ j hjl
          have hkind := HA.out _ (List.getElem_mem hjl)
          have htake := framesN_take fs j hjl
          have hm1 := HP.out (j + 1)
          obtain ⟨K1, hK⟩ : ∃ K, fs[j].kind.toNat = K := ⟨_, rfl⟩
          have hK' : fs[j].kind = (K1 : Int) := by unfold FrS.ok at hkind; omega
          have hK2 : K1 < 256 := by unfold FrS.ok at hkind; omega
          obtain ⟨bd, hbd⟩ : ∃ bd, fs[j].body = bd := ⟨_, rfl⟩
          obtain ⟨Ab, hAb⟩ : ∃ a, fs[j].A = a := ⟨_, rfl⟩
          obtain ⟨cb, hcb⟩ : ∃ a, fs[j].c = a := ⟨_, rfl⟩
          rw [hK'] at d0
          rw [hAb, hbd, hcb] at d1
          rw [hAb, hbd] at hrd
          rw [hbd] at hsm hb1
          rw [hK, hbd] at htake
          have hlm := HJ.out.1
          have hoj := HJ.out.2.1
          obtain ⟨Lj, hLj⟩ : ∃ L, framesN ((fs.take j).map FrS.abs) = L := ⟨_, rfl⟩
          rw [hLj] at htake hlm hoj
          rw [htake, List.length_append, frameN_len, hlm] at hm1
          obtain ⟨nb, hnb⟩ : ∃ nb, bd.length = nb := ⟨_, rfl⟩
          rw [hnb] at d1 hrd hb1 hm1
          have d2 : wr.drew.cell? (ad.add (j * 2)) = some (.int .i64 (K1 : Nat)) := d0
          have d5 : wr.cell? ⟨(ad.add (j * 2)).block, (ad.add (j * 2)).off + 1, none⟩ = some (.slice Ab nb cb) := d1
          have d6 : wr.drew.cell? ⟨(ad.add (j * 2)).block, (ad.add (j * 2)).off + 1, none⟩ = some (.slice Ab nb cb) := d1
          have hbd' : Below w.heap.size w wr.drew := HJ.out.2.2.drew
          have c62 := refPut_any wr.drew w.heap.size K1 Ab nb cb bd hK2 hrd.drew hsm hbd'.size hb1
          have C62 : Calls Try.prog 62 #[.int .i64 (K1 : Nat), .slice Ab nb cb] wr.drew fun e w6 => ∃ A3 c3, e = .returned (.slice A3 (9 + nb) c3) ∧ Hid (Reads w6 w6.heap.size 1 A3 (9 + nb) (byts (frameN K1 bd)) ∧ w6.ownsRow w.heap.size 5 1 (.slice A2 m c2) m (byts Lj) ∧ Below w.heap.size w w6) := by
            refine c62.mono ?_
            rintro e w6 ⟨A3, c3, rfl, ho, hb⟩
            have hb2 : Below wr.heap.size wr w6 := (Below.refl _ wr).drew.trans hb
            exact ⟨A3, c3, rfl, Lib.hid ⟨Reads.of_own ho, own_fr hoj (Fr.of_new (S := noB) hb2) (fun _ _ e => e), HJ.out.2.2.trans (hb2.mono HJ.out.2.2.size)⟩⟩
          have FIN : ∀ (w6 : World) (v3 : Value) (w7 : World), (w6.ownsRow w.heap.size 5 1 (.slice A2 m c2) m (byts Lj) ∧ Below w.heap.size w w6) → w7.ownsRow w.heap.size 5 1 v3 (m + (9 + nb)) (byts Lj ++ byts (frameN K1 bd)) → w6.grownBy w7 (Value.slice A2 m c2).ownBlock → ∃ A4 c4, v3 = .slice A4 (m + (9 + nb)) c4 ∧ Hid ((framesN ((fs.take (j + 1)).map FrS.abs)).length = m + (9 + nb) ∧ w7.ownsRow w.heap.size 5 1 (.slice A4 (m + (9 + nb)) c4) (m + (9 + nb)) (byts (framesN ((fs.take (j + 1)).map FrS.abs))) ∧ Below w.heap.size w w7) := by
            intro w6 v3 w7 h6 o3 g3
            obtain ⟨A4, c4, rfl⟩ := own_shape o3
            rw [← byts_append, ← htake] at o3
            exact ⟨A4, c4, rfl, Lib.hid ⟨by rw [htake, List.length_append, frameN_len, hlm, hnb], o3, h6.2.grown g3 h6.2.size (own_base h6.1)⟩⟩
          have FN := Lib.hid FIN
          clear FIN htake hoj hLj c62 hrd hsm hK hK' hbd hAb hcb hkind hab hbd' hlm hnb
          have p1 : m + (9 + nb) ≤ maxLen := by unfold maxLen; omega
          have p2 : (m + (9 + nb)) * 1 ≤ 140737488355328 := by omega
          go_wp2
          go_region_law (first
            | (go_simp; go_at_call 62; refine C62.mono ?_; clear C62; rintro e w6 ⟨A3, c3, rfl, H6⟩; have hsz6 := H6.out.2.2.size)
            | (refine step_append_any w6 rfl _ _ 24 rfl w.heap.size 5 i0 (.int .u8 0) 1 1 Try.underlying24 hi hz0 hz1 hz2 rfl (by decide) _ _ _ rfl H6.out.2.1 w6.heap.size A3 (9 + nb) _ _ rfl H6.out.1 (byts_one _) p1 p2 hsz6 ?_; intro v3 w7 ho2 hg2 _; obtain ⟨A4, c4, rfl, H7⟩ := FN.out w6 v3 w7 H6.out.2 ho2 hg2; clear ho2 hg2))
          all_goals
            clear d0 d1 d2 d5 d6
            go_wp2
            go_roundw
            case rel => exact ⟨j + 1, m + (9 + nb), A4, c4, by omega, by go_num, rfl, H7⟩
            case measure => simp [intOf]; omega
        have q6 : ¬ (j : Int) < (k : Int) := by omega
        obtain rfl : j = k := by omega
        have hfull : fs.take j = fs := List.take_of_length_le (by omega)
        obtain ⟨h1, h2, h3⟩ := HJ.out
        rw [hfull] at h1 h2
        obtain ⟨FF, hFF⟩ : ∃ L, framesN (fs.map FrS.abs) = L := ⟨_, rfl⟩
        rw [hFF] at h1 h2
        have hsF : Small FF := by
          rw [← hFF]
          intro x hx
          obtain ⟨y, hy, hx⟩ := List.mem_flatMap.1 hx
          obtain ⟨z, hz, rfl⟩ := List.mem_map.1 hy
          obtain ⟨j', hj', rfl⟩ := List.getElem_of_mem hz
          obtain ⟨_, _, _, _, _, _, hs, _⟩ := H0.out.1.at_ j' hj'
          have hk : fs[j'].kind.toNat < 256 := by have := HA.out _ hz; unfold FrS.ok at this; omega
          exact (small_append (small_append (headN_small hk) (word4_small _)) hs) x hx
        have C63 : Calls Try.prog 63 #[.slice A j c] wr fun e w' => ∃ A7 c7, e = .returned (.tuple #[.slice A7 m c7, .int .i64 0]) ∧ (convert 24 9 (.slice A7 m c7)).run Try.prog w' = .ok (.string (strN FF)) w' ∧ (convert 24 9 (.slice A2 m c2)).run Try.prog w' = .ok (.string (strN FF)) w' ∧ Below w.heap.size w w' := by
          refine (c63 wr h3).mono ?_
          rintro e w' ⟨hb, ⟨_, A7, c7, rfl, ho⟩ | ⟨⟨x, hx, hno⟩, _⟩⟩
          · rw [hFF, h1] at ho ⊢
            exact ⟨A7, c7, rfl, run_str rfl rfl rfl (Reads.of_own ho) hsF, run_str rfl rfl rfl ((Reads.of_own h2).below hb) hsF, h3.trans (hb.mono h3.size)⟩
          · exact absurd (HA.out x hx) hno
        obtain ⟨ZZ, hZZ⟩ : ∃ Z, strN FF = Z := ⟨_, rfl⟩
        simp only [hZZ] at C63
        clear c63 h1 h2 h3 hsF hFF hZZ hfull HJ
        have k52 := knownF
        go_wp2_with (first
          | (go_at_call 63; refine C63.mono ?_; clear C63; rintro e w9 ⟨A7, c7, rfl, t7, t2, h9⟩; have k9 := k52 w9)
          | (go_at_call 55; refine (numE_any _ _).mono ?_; rintro e wz ⟨rfl, rfl⟩)
          | (go_at_call 52; refine k9.mono ?_; clear k9; rintro e w10 ⟨rfl, h10⟩))
        go_ret
        exact ⟨rfl, h9.trans (h10.mono h9.size)⟩
    · have k1 : ¬ kind < 0 := by omega
      go_upto_region 24 with (first
        | (go_at_call 60; refine (c60 _).mono ?_; rintro e w4 ⟨rfl, rfl⟩)
        | (go_at_call 61; refine (c61 _).mono ?_; rintro e w6 ⟨rfl, rfl⟩)
        | (go_at_call 55; refine (numE_any _ _).mono ?_; rintro e w8 ⟨rfl, rfl⟩))
      clear f0 f1 c60 c61 hadd HR
      go_wp2
      go_loopw [16, 17] (fun mv iv wr => ∃ (k : Nat) (may : Bool), k ≤ i ∧ iv = .int .i64 k ∧ mv = .bool may ∧ Hid (wr = w3 ∧ may = mayK fs k)) (fun _ iv _ => i - (intOf iv).toNat)
      case atStart => exact ⟨0, true, by omega, rfl, rfl, Lib.hid ⟨rfl, rfl⟩⟩
      case round =>
      obtain ⟨k, may, hk, rfl, rfl, HM⟩ := hrel
      obtain ⟨rfl, hmay⟩ := HM.out
      clear HM
      by_cases hltk : k < i
      · have q4 : (k : Int) < (i : Int) := by omega
        have q5 : (0 : Int) ≤ (k : Int) := by omega
        have hkl : k < fs.length := by omega
        obtain ⟨ad, rfl, hab, d0, _⟩ := (H0.out.1.below HWT.out).at_ k hkl
        have hst := mayK_step fs k hkl
        obtain ⟨KK, hKK⟩ : ∃ KK, fs[k].kind = KK := ⟨_, rfl⟩
        rw [hKK] at hst d0
        rw [← hmay] at hst
        clear hKK hmay
        cases may with
        | false =>
          have HS := Lib.hid (show mayK fs (k + 1) = false from by rw [hst]; rfl)
          clear hst
          go_wp2
          go_roundw
          case rel => exact ⟨k + 1, false, by omega, by go_num, rfl, Lib.hid ⟨by trivial, HS.out.symm⟩⟩
          case measure => simp [intOf]; omega
        | true =>
          by_cases g1 : 0 ≤ KK
          · by_cases g2' : KK ≤ 255
            · have HS := Lib.hid (show mayK fs (k + 1) = true from by rw [hst]; simp [g1, g2'])
              clear hst
              go_wp2
              go_roundw
              case rel => exact ⟨k + 1, true, by omega, by go_num, rfl, Lib.hid ⟨by trivial, HS.out.symm⟩⟩
              case measure => simp [intOf]; omega
            · have HS := Lib.hid (show mayK fs (k + 1) = false from by rw [hst]; simp [g2'])
              clear hst
              go_wp2
              go_roundw
              case rel => exact ⟨k + 1, false, by omega, by go_num, rfl, Lib.hid ⟨by trivial, HS.out.symm⟩⟩
              case measure => simp [intOf]; omega
          · have HS := Lib.hid (show mayK fs (k + 1) = false from by rw [hst]; simp [g1])
            clear hst
            go_wp2
            go_roundw
            case rel => exact ⟨k + 1, false, by omega, by go_num, rfl, Lib.hid ⟨by trivial, HS.out.symm⟩⟩
            case measure => simp [intOf]; omega
      have q4 : ¬ (k : Int) < (i : Int) := by omega
      obtain rfl : k = i := by omega
      have hbW := HWT.out
      have hmall := mayK_all fs k (by omega)
      rw [← hmay] at hmall
      have c63 := fun (W : World) (hW : Below w.heap.size w W) => putAll_any W w.heap.size A k c fs (H0.out.1.below hW) hW.size hn H0.out.2.1
      cases may with
      | false =>
        clear hmay
        have hnall : ¬ ∀ x ∈ fs, x.ok := fun h => by have := hmall.2 h; cases this
        have C63 : ∀ W, Below w.heap.size w W → Calls Try.prog 63 #[.slice A k c] W fun e w' => e = .returned (.tuple #[.slice none 0 0, .int .i64 2]) ∧ Below w.heap.size w w' := by
          intro W hW
          refine (c63 W hW).mono ?_
          rintro e w' ⟨hb, ⟨h, _⟩ | ⟨_, rfl⟩⟩
          · exact absurd h hnall
          · exact ⟨rfl, hW.trans (hb.mono hW.size)⟩
        clear c63 hmall hnall
        have rnil : ∀ W : World, (convert 24 9 (.slice none 0 0)).run Try.prog W = .ok (.string (strN [])) W := fun W => run_str (bs := []) rfl rfl rfl (Reads.none_ (B := 0)) (fun c hc => by (cases hc))
        generalize strN [] = Z0 at rnil
        have k52 := knownF
        go_wp2
        go_loopw [15, 18] (fun wv iv wr2 => wv = .slice none 0 0 ∧ iv = .int .i64 0 ∧ wr2 = wr) (fun _ _ _ => 0)
        case atStart => exact ⟨rfl, rfl, rfl⟩
        case round =>
        obtain ⟨rfl, rfl, rfl⟩ := hrel
        by_cases hk0 : k = 0
        · subst hk0
          go_wp2_with (first
            | (go_at_call 63; refine (C63 _ hbW).mono ?_; clear C63; rintro e w9 ⟨rfl, h9⟩; have k9 := k52 w9)
            | (go_at_call 55; refine (numE_any _ _).mono ?_; rintro e wz ⟨rfl, rfl⟩)
            | (go_at_call 52; refine k9.mono ?_; clear k9; rintro e w10 ⟨rfl, h10⟩))
          go_ret
          exact ⟨rfl, h9.trans (h10.mono h9.size)⟩
        · have q6 : (0 : Int) < (k : Int) := by omega
          have q7 : 0 < k := by omega
          go_wp2_with (first
            | (go_at_call 63; refine (C63 _ hbW).mono ?_; clear C63; rintro e w9 ⟨rfl, h9⟩; have k9 := k52 w9)
            | (go_at_call 55; refine (numE_any _ _).mono ?_; rintro e wz ⟨rfl, rfl⟩)
            | (go_at_call 52; refine k9.mono ?_; clear k9; rintro e w10 ⟨rfl, h10⟩))
          go_ret
          exact ⟨rfl, h9.trans (h10.mono h9.size)⟩
      | true =>
        clear hmay
        have hall := hmall.1 rfl
        clear hmall
        have HA := Lib.hid hall
        have hpre : ∀ j, (framesN ((fs.take j).map FrS.abs)).length ≤ 1000000000 := fun j => by
          rw [framesN_len]
          refine Nat.le_trans (prefix_size ?_) H0.out.2.1
          exact (List.take_prefix j fs).map FrS.abs
        have HP := Lib.hid hpre
        clear hpre hall
        have H1 := Lib.hid hbW
        clear hbW
        go_wp2
        go_loopw [15, 18] (fun ov iv wr2 => ∃ (j m : Nat) (A2 : Option Addr) (c2 : Nat), j ≤ k ∧ iv = .int .i64 j ∧ ov = .slice A2 m c2 ∧ Hid ((framesN ((fs.take j).map FrS.abs)).length = m ∧ wr2.ownsRow w.heap.size 5 1 (.slice A2 m c2) m (byts (framesN ((fs.take j).map FrS.abs))) ∧ Below w.heap.size w wr2)) (fun _ iv _ => k - (intOf iv).toNat)
        case atStart => exact ⟨0, 0, _, _, by omega, rfl, rfl, Lib.hid ⟨rfl, World.ownsRow_nil _ _ _ _, H1.out⟩⟩
        case round =>
        clear H1
        obtain ⟨j, m, A2, c2, hj, rfl, rfl, HJ⟩ := hrel
        by_cases hltj : j < k
        · have q6 : (j : Int) < (k : Int) := by omega
          have q7 : (0 : Int) ≤ (j : Int) := by omega
          have hjl : j < fs.length := by omega
          obtain ⟨ad, rfl, hab, d0, d1, hrd, hsm, hb1⟩ := (H0.out.1.below HJ.out.2.2).at_ j hjl
          have hkind := HA.out _ (List.getElem_mem hjl)
          have htake := framesN_take fs j hjl
          have hm1 := HP.out (j + 1)
          obtain ⟨K1, hK⟩ : ∃ K, fs[j].kind.toNat = K := ⟨_, rfl⟩
          have hK' : fs[j].kind = (K1 : Int) := by unfold FrS.ok at hkind; omega
          have hK2 : K1 < 256 := by unfold FrS.ok at hkind; omega
          obtain ⟨bd, hbd⟩ : ∃ bd, fs[j].body = bd := ⟨_, rfl⟩
          obtain ⟨Ab, hAb⟩ : ∃ a, fs[j].A = a := ⟨_, rfl⟩
          obtain ⟨cb, hcb⟩ : ∃ a, fs[j].c = a := ⟨_, rfl⟩
          rw [hK'] at d0
          rw [hAb, hbd, hcb] at d1
          rw [hAb, hbd] at hrd
          rw [hbd] at hsm hb1
          rw [hK, hbd] at htake
          have hlm := HJ.out.1
          have hoj := HJ.out.2.1
          obtain ⟨Lj, hLj⟩ : ∃ L, framesN ((fs.take j).map FrS.abs) = L := ⟨_, rfl⟩
          rw [hLj] at htake hlm hoj
          rw [htake, List.length_append, frameN_len, hlm] at hm1
          obtain ⟨nb, hnb⟩ : ∃ nb, bd.length = nb := ⟨_, rfl⟩
          rw [hnb] at d1 hrd hb1 hm1
          have d2 : wr.drew.cell? (ad.add (j * 2)) = some (.int .i64 (K1 : Nat)) := d0
          have d5 : wr.cell? ⟨(ad.add (j * 2)).block, (ad.add (j * 2)).off + 1, none⟩ = some (.slice Ab nb cb) := d1
          have d6 : wr.drew.cell? ⟨(ad.add (j * 2)).block, (ad.add (j * 2)).off + 1, none⟩ = some (.slice Ab nb cb) := d1
          have hbd' : Below w.heap.size w wr.drew := HJ.out.2.2.drew
          have c62 := refPut_any wr.drew w.heap.size K1 Ab nb cb bd hK2 hrd.drew hsm hbd'.size hb1
          have C62 : Calls Try.prog 62 #[.int .i64 (K1 : Nat), .slice Ab nb cb] wr.drew fun e w6 => ∃ A3 c3, e = .returned (.slice A3 (9 + nb) c3) ∧ Hid (Reads w6 w6.heap.size 1 A3 (9 + nb) (byts (frameN K1 bd)) ∧ w6.ownsRow w.heap.size 5 1 (.slice A2 m c2) m (byts Lj) ∧ Below w.heap.size w w6) := by
            refine c62.mono ?_
            rintro e w6 ⟨A3, c3, rfl, ho, hb⟩
            have hb2 : Below wr.heap.size wr w6 := (Below.refl _ wr).drew.trans hb
            exact ⟨A3, c3, rfl, Lib.hid ⟨Reads.of_own ho, own_fr hoj (Fr.of_new (S := noB) hb2) (fun _ _ e => e), HJ.out.2.2.trans (hb2.mono HJ.out.2.2.size)⟩⟩
          have FIN : ∀ (w6 : World) (v3 : Value) (w7 : World), (w6.ownsRow w.heap.size 5 1 (.slice A2 m c2) m (byts Lj) ∧ Below w.heap.size w w6) → w7.ownsRow w.heap.size 5 1 v3 (m + (9 + nb)) (byts Lj ++ byts (frameN K1 bd)) → w6.grownBy w7 (Value.slice A2 m c2).ownBlock → ∃ A4 c4, v3 = .slice A4 (m + (9 + nb)) c4 ∧ Hid ((framesN ((fs.take (j + 1)).map FrS.abs)).length = m + (9 + nb) ∧ w7.ownsRow w.heap.size 5 1 (.slice A4 (m + (9 + nb)) c4) (m + (9 + nb)) (byts (framesN ((fs.take (j + 1)).map FrS.abs))) ∧ Below w.heap.size w w7) := by
            intro w6 v3 w7 h6 o3 g3
            obtain ⟨A4, c4, rfl⟩ := own_shape o3
            rw [← byts_append, ← htake] at o3
            exact ⟨A4, c4, rfl, Lib.hid ⟨by rw [htake, List.length_append, frameN_len, hlm, hnb], o3, h6.2.grown g3 h6.2.size (own_base h6.1)⟩⟩
          have FN := Lib.hid FIN
          clear FIN htake hoj hLj c62 hrd hsm hK hK' hbd hAb hcb hkind hab hbd' hlm hnb
          have p1 : m + (9 + nb) ≤ maxLen := by unfold maxLen; omega
          have p2 : (m + (9 + nb)) * 1 ≤ 140737488355328 := by omega
          go_wp2
          go_region_law (first
            | (go_simp; go_at_call 62; refine C62.mono ?_; clear C62; rintro e w6 ⟨A3, c3, rfl, H6⟩; have hsz6 := H6.out.2.2.size)
            | (refine step_append_any w6 rfl _ _ 24 rfl w.heap.size 5 i0 (.int .u8 0) 1 1 Try.underlying24 hi hz0 hz1 hz2 rfl (by decide) _ _ _ rfl H6.out.2.1 w6.heap.size A3 (9 + nb) _ _ rfl H6.out.1 (byts_one _) p1 p2 hsz6 ?_; intro v3 w7 ho2 hg2 _; obtain ⟨A4, c4, rfl, H7⟩ := FN.out w6 v3 w7 H6.out.2 ho2 hg2; clear ho2 hg2))
          all_goals
            clear d0 d1 d2 d5 d6
            go_wp2
            go_roundw
            case rel => exact ⟨j + 1, m + (9 + nb), A4, c4, by omega, by go_num, rfl, H7⟩
            case measure => simp [intOf]; omega
        have q6 : ¬ (j : Int) < (k : Int) := by omega
        obtain rfl : j = k := by omega
        have hfull : fs.take j = fs := List.take_of_length_le (by omega)
        obtain ⟨h1, h2, h3⟩ := HJ.out
        rw [hfull] at h1 h2
        obtain ⟨FF, hFF⟩ : ∃ L, framesN (fs.map FrS.abs) = L := ⟨_, rfl⟩
        rw [hFF] at h1 h2
        have hsF : Small FF := by
          rw [← hFF]
          intro x hx
          obtain ⟨y, hy, hx⟩ := List.mem_flatMap.1 hx
          obtain ⟨z, hz, rfl⟩ := List.mem_map.1 hy
          obtain ⟨j', hj', rfl⟩ := List.getElem_of_mem hz
          obtain ⟨_, _, _, _, _, _, hs, _⟩ := H0.out.1.at_ j' hj'
          have hk : fs[j'].kind.toNat < 256 := by have := HA.out _ hz; unfold FrS.ok at this; omega
          exact (small_append (small_append (headN_small hk) (word4_small _)) hs) x hx
        have C63 : Calls Try.prog 63 #[.slice A j c] wr fun e w' => ∃ A7 c7, e = .returned (.tuple #[.slice A7 m c7, .int .i64 0]) ∧ (convert 24 9 (.slice A7 m c7)).run Try.prog w' = .ok (.string (strN FF)) w' ∧ (convert 24 9 (.slice A2 m c2)).run Try.prog w' = .ok (.string (strN FF)) w' ∧ Below w.heap.size w w' := by
          refine (c63 wr h3).mono ?_
          rintro e w' ⟨hb, ⟨_, A7, c7, rfl, ho⟩ | ⟨⟨x, hx, hno⟩, _⟩⟩
          · rw [hFF, h1] at ho ⊢
            exact ⟨A7, c7, rfl, run_str rfl rfl rfl (Reads.of_own ho) hsF, run_str rfl rfl rfl ((Reads.of_own h2).below hb) hsF, h3.trans (hb.mono h3.size)⟩
          · exact absurd (HA.out x hx) hno
        obtain ⟨ZZ, hZZ⟩ : ∃ Z, strN FF = Z := ⟨_, rfl⟩
        simp only [hZZ] at C63
        clear c63 h1 h2 h3 hsF hFF hZZ hfull HJ
        have k52 := knownF
        go_wp2_with (first
          | (go_at_call 63; refine C63.mono ?_; clear C63; rintro e w9 ⟨A7, c7, rfl, t7, t2, h9⟩; have k9 := k52 w9)
          | (go_at_call 55; refine (numE_any _ _).mono ?_; rintro e wz ⟨rfl, rfl⟩)
          | (go_at_call 52; refine k9.mono ?_; clear k9; rintro e w10 ⟨rfl, h10⟩))
        go_ret
        exact ⟨rfl, h9.trans (h10.mono h9.size)⟩
end Go.Proofs.Ytpnagblbhlglhaa
