/- The document's Scan. Conditions: those that it states. -/
import Derived.Test.YtpnagblbhlglhaaFrameRefBegin4
import Derived.Test.YtpnagblbhlglhaaFrameScan
namespace Go.Proofs.Ytpnagblbhlglhaa
open Go.RowKit

theorem reads_two_new (W : World) (u v : Value) : Reads (W.alloc (.cells #[u, v] 94)) (W.heap.size + 1) 2 (some ⟨W.heap.size, 0, none⟩) 1 [u, v] := by
  refine ⟨rfl, fun _ => ⟨_, rfl, Nat.lt_succ_self _, fun j x hx => ?_⟩⟩
  rw [addr_add]
  refine ((Blk.new W 94 _).cell j).trans ?_
  rw [← hx]
  simp
set_option maxHeartbeats 4000000 in
set_option maxRecDepth 100000 in
theorem refScan_any (w : World) (B : Nat) (A : Option Addr) (n c : Nat) (b : List Nat) (h : Reads w B 1 A n (byts b)) (hs : Small b) (hB : B ≤ w.heap.size) (hn : n ≤ 100000) (hc : n ≤ c) :
    Calls Try.prog 54 #[.slice A n c] w (ScanPost w b) := by
  have hlen : b.length = n := by have := h.1; rw [byts_length] at this; omega
  obtain ⟨i0, hi, hz0, hz1, hz2⟩ := info_parts Try.info94w
  have H0 := Lib.hid (And.intro (h.more hB) (And.intro hs hlen))
  clear h
  go_enter Try.func54, Try.ntmps54
  go_wp2
  go_loopw [5, 6] (fun lv av wr => ∃ (k m : Nat) (pre : List FrT) (Al : Option Addr) (cl : Nat), av = .int .i64 k ∧ lv = .slice Al m cl ∧ 9 * m ≤ n ∧ Hid (pre.length = m ∧ AtF b (pre.map FrT.abs) k ∧ wr.ownsRow w.heap.size 94 2 (.slice Al m cl) m (flatF pre) ∧ BodsF w.heap.size pre wr ∧ Below w.heap.size w wr)) (fun _ av _ => n - (intOf av).toNat)
  case atStart => exact ⟨0, 0, [], none, 0, rfl, rfl, by omega, Lib.hid ⟨rfl, AtF.start b, World.ownsRow_nil _ _ _ _, ⟨fun x hx => (by cases hx), List.Pairwise.nil⟩, Below.refl _ w⟩⟩
  case round =>
  obtain ⟨k, m, pre, Al, cl, rfl, rfl, hm9, HJ⟩ := hrel
  obtain ⟨hpl, hat, hrow, hbd, hbw⟩ := HJ.out
  have hkl := hat.le
  by_cases hk : k < n
  · have x1 : (k : Int) < (n : Int) := by omega
    have hrk : Reads wr w.heap.size 1 (Option.map (fun x => x.add k) A) (n - k) (byts (b.drop k)) := by
      have := (H0.out.1.below hbw).cut (k := k) (cap := c) (by omega) hc
      rw [if_neg (by omega), Nat.mul_one] at this
      rw [byts_drop]
      exact this
    have hc80 := refBegin_any wr w.heap.size (Option.map (fun x => x.add k) A) (n - k) (c - k) (b.drop k) hrk (small_drop hs k) hbw.size (by omega) (by omega)
    have hkb : k < b.length := by omega
    by_cases hE : beginE (b.drop k) = 0
    · have hst := hat.step hkb hE
      have hbl := bodyN_len hE
      have hfit := begin_fits hE
      rw [List.length_drop] at hfit
      obtain ⟨N, hN⟩ : ∃ N, bgN (b.drop k) = N := ⟨_, rfl⟩
      obtain ⟨M, hM⟩ : ∃ M, 9 + N = M := ⟨_, rfl⟩
      obtain ⟨k2, hk2⟩ : ∃ k2, k + M = k2 := ⟨_, rfl⟩
      obtain ⟨b0, hb0⟩ : ∃ b0, (b.drop k).getD 0 0 = b0 := ⟨_, rfl⟩
      obtain ⟨bd, hbdd⟩ : ∃ bd, bodyN (b.drop k) = bd := ⟨_, rfl⟩
      rw [hN, hM, hk2, hb0, hbdd] at hst
      rw [hbdd, hN] at hbl
      rw [hN, hM] at hfit
      have hm10 : 9 * (m + 1) ≤ n := by
        have h1 := sizeL_many (pre.map FrT.abs ++ [(b0, bd)])
        have h2 := hst.at_
        have h3 := hst.le
        rw [List.length_append, List.length_map, List.length_singleton, hpl] at h1
        omega
      have u0 : IntKind.i64.wrap ((k : Int) + (M : Int)) = (k2 : Int) := by rw [IntWalk.i64_in _ (by omega)]; omega
      have C80 : Calls Try.prog 80 #[.slice (Option.map (fun x => x.add k) A) (n - k) (c - k)] wr fun e W2 => ∃ A2 c2, e = .returned (.tuple #[.agg #[.int .i64 (b0 : Nat), .slice A2 N c2], .int .i64 (M : Nat), .int .i64 0]) ∧
          Hid (W2.ownsRow w.heap.size 94 2 (.slice Al m cl) m (flatF pre) ∧ BodsF w.heap.size (pre ++ [⟨k, b0, A2, c2, bd⟩]) W2 ∧ Below w.heap.size w W2) := by
        refine hc80.mono ?_
        rintro e W2 ⟨hb, ⟨h0, _⟩ | ⟨h0, A2, c2, rfl, ho⟩⟩
        · exact absurd hE h0
        · rw [hN] at *
          rw [hbdd] at ho
          rw [hM, hb0]
          refine ⟨A2, c2, rfl, Lib.hid ⟨own_fr hrow (Fr.of_new (S := noB) hb) (fun _ _ e => e), ?_, hbw.trans (hb.mono hbw.size)⟩⟩
          refine (hbd.turn (grown_below hb) (fun r e => by cases e)).add ?_ hbw.size hbd.lt
          dsimp only
          rw [hbl]
          exact ho
      have HS := Lib.hid (And.intro hst (And.intro hbl (And.intro hM (And.intro hpl hk2))))
      clear hc80 hst hE hrk hat hrow hbd hbw hfit hN hM hb0 hbdd hbl hpl HJ hkl hkb
      go_wp2_with (first
        | (go_at_call 80; refine C80.mono ?_; clear C80; rintro e w2 ⟨A2, c2, rfl, H2⟩; have kf := Blk.new w2 94 #[.int .i64 (b0 : Nat), .slice A2 N c2]; have z0 := (kf.cell 0).trans rfl; have z1 := (kf.cell 1).trans rfl; have ho1 := (H2.out.1.alloc (.cells #[.int .i64 (b0 : Nat), .slice A2 N c2] 94)).alloc (.cells #[.int .i64 (b0 : Nat), .slice A2 N c2] 94); have hr1 := reads_two_new (w2.alloc (.cells #[.int .i64 (b0 : Nat), .slice A2 N c2] 94)) (.int .i64 (b0 : Nat)) (.slice A2 N c2); rw [World.size_alloc] at hr1)
        | (at_builtin; refine wpList_append_any _ rfl _ _ 84 rfl w.heap.size 94 i0 (.agg #[.int .i64 0, .slice none 0 0]) 2 32 Try.underlying84 hi hz0 hz1 hz2 rfl (by decide) _ _ _ rfl ho1 _ _ 1 _ _ rfl hr1 ?c1 ?c2 ?c3 ?c4 ?_))
      case c1 => intro u hu; simp at hu; rcases hu with rfl | rfl <;> rfl
      case c2 => unfold maxLen; omega
      case c3 => omega
      case c4 => have := H2.out.2.2.size; simp; omega
      intro v3 w3 o3 g3 _
      obtain ⟨A3, c3, rfl⟩ := own_shape o3
      have hal : Below w2.heap.size w2 ((w2.alloc (.cells #[.int .i64 (b0 : Nat), .slice A2 N c2] 94)).alloc (.cells #[.int .i64 (b0 : Nat), .slice A2 N c2] 94)) := ((Below.refl _ w2).alloc (Nat.le_refl _) _).alloc (by simp) _
      have H3 := Lib.hid (show (pre ++ [(⟨k, b0, A2, c2, bd⟩ : FrT)]).length = m + 1 ∧ AtF b ((pre ++ [(⟨k, b0, A2, c2, bd⟩ : FrT)]).map FrT.abs) k2 ∧ w3.ownsRow w.heap.size 94 2 (.slice A3 (m + 1) c3) (m + 1) (flatF (pre ++ [⟨k, b0, A2, c2, bd⟩])) ∧ BodsF w.heap.size (pre ++ [⟨k, b0, A2, c2, bd⟩]) w3 ∧ Below w.heap.size w w3 from by
        refine ⟨by simp [HS.out.2.2.2.1], by rw [List.map_append]; exact HS.out.1, ?_, ?_, (H2.out.2.2.trans (hal.mono H2.out.2.2.size)).grown g3 (Nat.le_trans H2.out.2.2.size hal.size) (own_base ho1)⟩
        · rw [flatF_append, flatF_one]
          show w3.ownsRow w.heap.size 94 2 (.slice A3 (m + 1) c3) (m + 1) (flatF pre ++ [.int .i64 (b0 : Nat), .slice A2 bd.length c2])
          rw [HS.out.2.1]
          exact o3
        · refine (H2.out.2.1.turn (grown_below hal) (fun r e => by cases e)).grown g3 (fun g hg => ?_)
          obtain ⟨cs, hcs⟩ := own_is_blk ho1 hg
          exact ⟨cs, 94, (0, 0), hcs, by decide⟩)
      clear o3 g3 ho1 hr1 kf z0 z1 hal
      go_wp2
      go_roundw
      case rel => exact ⟨k2, m + 1, pre ++ [⟨k, b0, A2, c2, bd⟩], A3, c3, rfl, rfl, hm10, H3⟩
      case measure => have := HS.out.2.2.2.2; have := HS.out.2.2.1; simp [intOf]; omega
    · have hst := hat.stop hkb hE
      obtain ⟨E, hEE⟩ : ∃ E, beginE (b.drop k) = E := ⟨_, rfl⟩
      rw [hEE] at hst
      have qn : ((E : Int) != 0) = true := by rw [bne_iff_ne]; omega
      have C80 : Calls Try.prog 80 #[.slice (Option.map (fun x => x.add k) A) (n - k) (c - k)] wr fun e W2 => e = .returned (.tuple #[.agg #[.int .i64 0, .slice none 0 0], .int .i64 0, .int .i64 (E : Nat)]) ∧ Hid (ScanPost w b (.returned (.tuple #[.slice Al m cl, .int .i64 (k : Nat), .int .i64 (E : Nat)])) (W2.alloc (.cells #[.int .i64 0, .slice none 0 0] 94))) := by
        refine hc80.mono ?_
        rintro e W2 ⟨hb, ⟨_, rfl⟩ | ⟨h0, _⟩⟩
        · refine ⟨by rw [hEE], Lib.hid ?_⟩
          have hal : Below wr.heap.size wr (W2.alloc (.cells #[.int .i64 0, .slice none 0 0] 94)) := hb.alloc hb.size _
          have hsz : sizeL (scanL b) = k := by rw [← hst.1]; exact hat.at_.symm
          exact ⟨pre, .slice Al m cl, hst.1, by rw [hsz, hst.2], by rw [hpl]; exact own_fr hrow (Fr.of_new (S := noB) hal) (fun _ _ e => e), hbd.turn (grown_below hal) (fun r e => by cases e), hbw.trans (hal.mono hbw.size)⟩
        · exact absurd h0 hE
      clear hc80 hst hE hEE hrk hat hrow hbd hbw hpl HJ hkl hkb
      go_wp2_with (go_at_call 80; refine C80.mono ?_; clear C80; rintro e w2 ⟨rfl, H2⟩)
      refine bodyPost_ret (v := .tuple #[.slice Al m cl, .int .i64 (k : Nat), .int .i64 (E : Nat)]) ?_ rfl H2.out
      simp [results, Try.f54, go_sem]
  · have x1 : ¬ (k : Int) < (n : Int) := by omega
    have hov := hat.over (b := b) (by omega)
    have hsz : sizeL (scanL b) = k := by rw [← hov.1]; exact hat.at_.symm
    have HP := Lib.hid (show ScanPost w b (.returned (.tuple #[.slice Al m cl, .int .i64 (k : Nat), .int .i64 0])) wr from ⟨pre, .slice Al m cl, hov.1, by rw [hsz, hov.2]; rfl, by rw [hpl]; exact hrow, hbd, hbw⟩)
    clear hov hsz hat hrow hbd hbw hpl HJ hkl
    go_wp2
    refine bodyPost_ret (v := .tuple #[.slice Al m cl, .int .i64 (k : Nat), .int .i64 0]) ?_ rfl HP.out
    simp [results, Try.f54, go_sem]
end Go.Proofs.Ytpnagblbhlglhaa
