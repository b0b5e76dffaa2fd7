/- The walk of wicketlaw02.CrcSums: it answers true where all pieces together have at most 1048576 bytes. Conditions: those that it states. -/
import Derived.Test.YtpnagblbhlglhaaCrcKnown
namespace Go.Proofs.Ytpnagblbhlglhaa
open Go.RowKit

theorem Try.info5 : (Try.prog.info? 5).map (fun i => (i.zero, i.size, i.bytes)) = some (some (.int .u8 0), 1, 1) := by kernel_rfl

/-- The first k pieces, one behind the other. -/
def flatTo (ls : List (List Nat)) (k : Nat) : List Nat := (ls.take k).flatten
theorem flatTo_succ (ls : List (List Nat)) (k : Nat) (h : k < ls.length) : flatTo ls (k + 1) = flatTo ls k ++ ls[k] := by
  unfold flatTo
  rw [List.take_succ_eq_append_getElem h, List.flatten_append]
  simp
theorem flatTo_all (ls : List (List Nat)) : flatTo ls ls.length = ls.flatten := by unfold flatTo; rw [List.take_length]
theorem flatTo_le (ls : List (List Nat)) (k : Nat) : (flatTo ls k).length ≤ ls.flatten.length := by
  have : ls.flatten = flatTo ls k ++ (ls.drop k).flatten := by unfold flatTo; rw [← List.flatten_append, List.take_append_drop]
  rw [this, List.length_append]; omega
/-- A piece stands in the whole at its place. -/
theorem flat_piece (ls : List (List Nat)) (k : Nat) (h : k < ls.length) : (ls.flatten.drop (flatTo ls k).length).take ls[k].length = ls[k] ∧ (flatTo ls k).length + ls[k].length ≤ ls.flatten.length := by
  have e : ls.flatten = flatTo ls k ++ (ls[k] ++ (ls.drop (k + 1)).flatten) := by
    rw [← List.append_assoc, ← flatTo_succ ls k h]
    unfold flatTo
    rw [← List.flatten_append, List.take_append_drop]
  constructor
  · conv => lhs; rw [e]
    rw [List.drop_left, List.take_left]
  · rw [e]; simp only [List.length_append]; omega
theorem small_flatTo {ls : List (List Nat)} (h : ∀ k (hk : k < ls.length), Small ls[k]) (k : Nat) : Small (flatTo ls k) := by
  intro c hc
  obtain ⟨l, hl, hcl⟩ := List.mem_flatten.1 hc
  obtain ⟨j, hj, rfl⟩ := List.getElem_of_mem (List.mem_of_mem_take hl)
  exact h j hj c hcl

set_option maxHeartbeats 4000000 in
set_option maxRecDepth 100000 in
theorem crcSums_walk (w : World) (A0 : Option Addr) (n0 c0 sum : Nat) (n : Int) (ls : List (List Nat)) (h : Reads2 w w.heap.size A0 n0 ls) (htot : ls.flatten.length ≤ 1048576) (hn0 : n0 ≤ 1048576) (hsum : sum < 4294967296) (hn : n ≤ 9223372036854775807) :
    Calls Try.prog 3 #[.slice A0 n0 c0, .int .u32 sum, .int .i64 n] w fun e w' => e = .returned (.bool true) ∧ Below w.heap.size w w' := by
  have hsm : ∀ k (hk : k < ls.length), Small ls[k] := fun k hk => by obtain ⟨_, _, _, _, _, _, _, hs, _⟩ := h.at_ k hk; exact hs
  have hlen := h.len
  have HL := Lib.hid hlen
  clear hlen
  obtain ⟨i0, hi, hz0, hz1, hz2⟩ := info_parts Try.info5
  go_enter Try.func3, Try.ntmps3
  go_wp2
  have ho : (w.alloc (.cells #[] 5)).ownsRow w.heap.size 5 1 (.slice (some ⟨w.heap.size, 0, none⟩) 0 0) 0 [] := World.ownsRow_made w #[] 0 (Nat.le_refl _) (by unfold maxLen; omega) rfl
  have hb0 : Below w.heap.size w (w.alloc (.cells #[] 5)) := (Below.refl _ w).alloc (Nat.le_refl _) _
  generalize hw : World.alloc w _ = w1
  rw [hw] at ho hb0
  clear hw
  go_loopw [7, 8] (fun av iv wr => ∃ (k : Nat) (G : Option Addr) (gc : Nat), k ≤ n0 ∧ iv = .int .i64 k ∧ av = .slice G (flatTo ls k).length gc ∧ wr.ownsRow w.heap.size 5 1 (.slice G (flatTo ls k).length gc) (flatTo ls k).length (byts (flatTo ls k)) ∧ Below w.heap.size w wr) (fun _ iv _ => n0 - (intOf iv).toNat)
  case atStart => exact ⟨0, _, 0, by omega, rfl, rfl, ho, hb0⟩
  case round =>
    clear ho hb0
    obtain ⟨k, G, gc, hk, rfl, rfl, ho, hb⟩ := hrel
    have hfl := flatTo_le ls k
    by_cases hlt : k < n0
    · have hl := HL.out
      have hk2 : k < ls.length := by omega
      obtain ⟨ad, A', c', rfl, hab, hc, hr, hs, hm⟩ := (h.below hb).at_ k hk2
      have hstep := flatTo_succ ls k hk2
      have hfl2 := flatTo_le ls (k + 1)
      have hln : (flatTo ls (k + 1)).length = (flatTo ls k).length + ls[k].length := by rw [hstep, List.length_append]
      have k0 : (0 : Int) ≤ (k : Int) := by omega
      have k1 : (k : Int) < (n0 : Int) := by omega
      have hsz := hb.size
      have HS := Lib.hid hstep
      have HN := Lib.hid hln
      have hbd : (flatTo ls k).length + ls[k].length ≤ 1048576 := by omega
      clear hstep hl hln hfl2
      go_wp2_with (at_builtin; refine wpList_append_any _ rfl _ _ 24 rfl w.heap.size 5 i0 (.int .u8 0) 1 1 Try.underlying24 hi hz0 hz1 hz2 rfl (by decide) _ _ _ rfl ho w.heap.size A' _ c' _ rfl hr ?c1 ?c2 ?c3 ?c4 ?_)
      case c1 => exact byts_one _
      case c2 => unfold maxLen; omega
      case c3 => omega
      case c4 => exact hsz
      intro v2 w2 ho2 hg2 _
      obtain ⟨G2, g2, rfl⟩ := own_shape ho2
      go_wp2
      go_roundw
      case rel =>
        refine ⟨k + 1, G2, g2, by omega, by go_num, by rw [HN.out], ?_, hb.grown hg2 hsz (own_base ho)⟩
        rw [HN.out, HS.out, byts_append]
        exact ho2
      case measure => simp [intOf]; omega
    · have hk3 : flatTo ls k = ls.flatten := by
        have : k = ls.length := by have := HL.out; omega
        rw [this, flatTo_all]
      have hfs : Small ls.flatten := by rw [← hk3]; exact small_flatTo hsm k
      rw [hk3] at ho ⊢
      clear hk3 hfl
      have hsz := hb.size
      obtain ⟨F, hF⟩ : ∃ F, ls.flatten = F := ⟨_, rfl⟩
      have hsumc := fun (h : ls.flatten.length ≤ 1048576) => sum_any wr _ A0 n0 c0 ls (Reads2.below ‹_› hb) hsz (by omega)
      rw [hF] at ho hsumc hfs htot ⊢
      by_cases hbig : 100000 < F.length
      · go_wp2_with (go_at_call 14; refine (knownCrc _).mono ?_; rintro e w2 ⟨rfl, b2⟩)
        go_ret
        exact ⟨rfl, hb.trans (b2.mono hsz)⟩
      · replace hsumc := hsumc htot
        have hcl := crcSum_lt F
        obtain ⟨C, hC⟩ : ∃ C, crcSum F = C := ⟨_, rfl⟩
        obtain ⟨M, hM⟩ : ∃ M, crcMore sum F = M := ⟨_, rfl⟩
        rw [hC] at hsumc hcl
        have calls : ∀ W : World, Below wr.heap.size wr W →
            Calls Try.prog 16 #[.slice G F.length gc] W (fun e w' => e = .returned (.int .u32 C) ∧ W = w') ∧
            Calls Try.prog 17 #[.int .u32 sum, .slice G F.length gc] W (fun e w' => e = .returned (.int .u32 M) ∧ Below W.heap.size W w') ∧
            Calls Try.prog 18 #[.int .u32 sum, .slice G F.length gc] W (fun e w' => e = .returned (.int .u32 M) ∧ W = w') ∧
            Calls Try.prog 19 #[.slice G F.length gc, .int .u32 C] W (fun e w' => e = .returned (.bool true) ∧ Below W.heap.size W w') ∧
            Calls Try.prog 19 #[.slice G F.length gc, .int .u32 sum] W (fun e w' => e = .returned (.bool ((sum : Int) == (C : Int))) ∧ Below W.heap.size W w') := by
          intro W hW
          have hr : Reads W wr.heap.size 1 G F.length (byts F) := (Reads.of_own ho).below hW
          refine ⟨?_, ?_, ?_, ?_, ?_⟩
          · rw [← hC]; exact refSum_any W _ G _ gc F hr hfs (by omega)
          · rw [← hM]; exact more_any W _ G _ gc sum F hr hW.size hfs hsum (by omega)
          · rw [← hM]; exact refMore_any W _ G _ gc sum F hr hfs hsum (by omega)
          · refine (holds_any W _ G _ gc C F hr hW.size hfs (by omega)).mono ?_
            rintro e w' ⟨rfl, hb'⟩
            exact ⟨ret_bool (by rw [hC]; simp), hb'⟩
          · refine (holds_any W _ G _ gc sum F hr hW.size hfs (by omega)).mono ?_
            rintro e w' ⟨rfl, hb'⟩
            refine ⟨ret_bool ?_, hb'⟩
            rw [hC, Bool.eq_iff_iff]
            simp
            omega
        have HC := Lib.hid hC
        have HF := Lib.hid hF
        clear hC hM hF
        go_wp2_with (go_at_call 15; refine hsumc.mono ?_; clear hsumc; rintro e w2 ⟨rfl, b2⟩)
        have c16 := (calls w2 b2).1
        go_wp2_with (go_at_call 16; refine c16.mono ?_; clear c16; rintro e w' ⟨rfl, rfl⟩)
        have c17 := (calls w2 b2).2.1
        go_wp2_with (go_at_call 17; refine c17.mono ?_; clear c17; rintro e w3 ⟨rfl, b3⟩)
        replace b3 := b2.trans (b3.mono b2.size)
        have c18 := (calls w3 b3).2.2.1
        go_wp2_with (go_at_call 18; refine c18.mono ?_; clear c18; rintro e w' ⟨rfl, rfl⟩)
        have c19 := (calls w3 b3).2.2.2.1
        go_wp2_with (go_at_call 19; refine c19.mono ?_; clear c19; rintro e w4 ⟨rfl, b4⟩)
        replace b4 := b3.trans (b4.mono b3.size)
        have c19 := (calls w4 b4).2.2.2.2
        go_wp2_with (go_at_call 19; refine c19.mono ?_; clear c19; rintro e w5 ⟨rfl, b5⟩)
        replace b5 := b4.trans (b5.mono b4.size)
        clear calls b2 b3 b4 hsm
        have ho5 := (Reads.of_own ho).below b5
        have hcap := (own_cap ho).1
        have h5 := h.below (hb.trans (b5.mono hsz))
        have hb5 : Below w.heap.size w w5 := hb.trans (b5.mono hsz)
        have hown : ∀ W : World, Below w.heap.size w W → True := fun _ _ => trivial
        clear b5 ho hb h hsz
        obtain ⟨wo, rfl⟩ : ∃ wo : World, wo = w5 := ⟨_, rfl⟩
        have T0 : flatTo ls 0 = [] := by simp [flatTo]
        go_loopw [10, 11] (fun iv kv w' => ∃ j m : Nat, j ≤ n0 ∧ iv = .int .i64 j ∧ kv = .int .i64 (flatTo ls j).length ∧ w' = wo.drewN m) (fun iv _ _ => n0 - (intOf iv).toNat)
        case atStart => exact ⟨0, 0, by omega, rfl, by rw [T0]; rfl, rfl⟩
        case round =>
          obtain ⟨j, m, hj, rfl, rfl, hw⟩ := hrel
          subst hw
          by_cases hlt : j < n0
          · have hl := HL.out
            have hj2 : j < ls.length := by omega
            obtain ⟨ad, A', c', rfl, hab, hc, hr, hs, hm⟩ := h5.at_ j hj2
            have hfp := flat_piece ls j hj2
            rw [HF.out] at hfp
            have hstep := flatTo_succ ls j hj2
            have hln : (flatTo ls (j + 1)).length = (flatTo ls j).length + ls[j].length := by rw [hstep, List.length_append]
            obtain ⟨t, ht⟩ : ∃ t, (flatTo ls j).length = t := ⟨_, rfl⟩
            obtain ⟨l, hlj⟩ : ∃ l, ls[j] = l := ⟨_, rfl⟩
            rw [ht, hlj] at hfp hln
            rw [ht]
            rw [hlj] at hc hr hs hm
            have k0 : (0 : Int) ≤ (j : Int) := by omega
            have k1 : (j : Int) < (n0 : Int) := by omega
            have hc' : ∀ m, (wo.drewN m).cell? (ad.add j) = some (.slice A' l.length c') := fun m => hc
            have s1 := fun m : Nat => run_str (P := Try.prog) (src := 24) (dst := 9) (c := c') rfl rfl rfl (hr.drewN m) hs
            by_cases hgt : gc = t
            · obtain rfl : l = [] := List.eq_nil_of_length_eq_zero (by omega)
              have s2 := fun mm : Nat => run_str (P := Try.prog) (src := 24) (dst := 9) (A := G) (n := 0) (c := 0) (bs := []) (w := wo.drewN mm) (B := 0) rfl rfl rfl ⟨rfl, fun h => absurd h (by omega)⟩ hs
              have v1 : IntKind.i64.wrap (t : Int) = (t : Int) := IntWalk.i64_in _ (by omega)
              have u2 : (0 : Int) ≤ (t : Int) := by omega
              simp only [List.length_nil, Nat.add_zero] at hln s1 hc hc'
              have HS := Lib.hid hln
              clear hln hfp hstep hl hr
              subst hgt
              go_wp2
              go_quiet (fail)
              go_wp2
              go_roundw
              case rel => exact ⟨j + 1, _, by omega, by go_num, by rw [HS.out], rfl⟩
              case measure => simp [intOf]; omega
            · have hsub : ∀ mm, Reads (wo.drewN mm) wr.heap.size 1 (if gc = t then G else G.map (·.add t)) l.length (byts l) := by
                intro mm
                have := ((ho5.drewN mm).sub (lo := t) (hi := t + l.length) (by omega) (by omega) hcap)
                rw [Nat.add_sub_cancel_left, ← byts_drop, ← byts_take, hfp.1] at this
                exact this
              have s2 := fun mm : Nat => run_str (P := Try.prog) (src := 24) (dst := 9) (c := gc - t) rfl rfl rfl (hsub mm) hs
              have u1 : IntKind.i64.wrap ((t : Int) + (l.length : Int)) = (t : Int) + (l.length : Int) := IntWalk.i64_in _ (by omega)
              have u2 : (0 : Int) ≤ (t : Int) := by omega
              have u3 : (t : Int) ≤ (t : Int) + (l.length : Int) := by omega
              have u4 : (t : Int) + (l.length : Int) ≤ (gc : Int) := by omega
              have u6 : ((t : Int) + (l.length : Int)).toNat = t + l.length := by omega
              have u5 : t + l.length - t = l.length := by omega
              have HS := Lib.hid hln
              clear hln hfp hstep hl hsub hr
              simp only [hgt, if_false] at s2
              go_wp2
              go_quiet (fail)
              go_wp2
              go_roundw
              case rel => exact ⟨j + 1, _, by omega, by go_num, by rw [HS.out]; go_num, rfl⟩
              case measure => simp [intOf]; omega
          · have D0 : IntKind.u32.wrap 0 = 0 := by decide
            have E1 := ones_u32 sum hsum
            have hbm : Below w.heap.size w (wo.drewN m) := below_drewN hb5 m
            generalize hwm : wo.drewN m = wm at hbm ⊢
            clear hwm h5 ho5 hb5
            have t1 : 4294967295 - sum < 4294967296 := by omega
            have hfl : far0 n.toNat (4294967295 - sum) < 4294967296 := far0_lt t1
            have c20 := refFar_any wm (4294967295 - sum) n t1 hn
            have c20z := refFar_any wm (4294967295 - sum) 0 t1 (by omega)
            have c21 := fun W : World => zeros_any W sum n hsum hn
            have c22 := fun (W : World) (h5 : n ≤ 500) => refZeros_any W sum n hsum h5
            obtain ⟨f, hf⟩ : ∃ f, far0 n.toNat (4294967295 - sum) = f := ⟨_, rfl⟩
            rw [hf] at hfl c20
            simp only [hf] at c21 c22
            have E2 := ones_u32 f hfl
            obtain ⟨q, hq⟩ : ∃ q, 4294967295 - sum = q := ⟨_, rfl⟩
            rw [hq] at E1 c20 c20z
            have HQ := Lib.hid hq
            have Hf := Lib.hid hf
            clear hq hf
            obtain ⟨g, hg⟩ : ∃ g, 4294967295 - f = g := ⟨_, rfl⟩
            rw [hg] at E2
            simp only [hg] at c21 c22
            clear hg
            by_cases hpos : 0 < n
            · clear c20z
              by_cases h5 : 500 < n
              · go_wp2_with (go_at_call 20; refine c20.mono ?_; clear c20; rintro e w6 ⟨rfl, b6⟩)
                replace b6 := hbm.trans (b6.mono hbm.size)
                have c21' := c21 w6
                go_wp2_with (go_at_call 21; refine c21'.mono ?_; clear c21'; rintro e w7 ⟨rfl, b7⟩)
                replace b7 := b6.trans (b7.mono b6.size)
                go_wp2_with (go_at_call 14; refine (knownCrc _).mono ?_; rintro e w8 ⟨rfl, b8⟩)
                go_ret
                exact ⟨rfl, b7.trans (b8.mono b7.size)⟩
              · go_wp2_with (go_at_call 20; refine c20.mono ?_; clear c20; rintro e w6 ⟨rfl, b6⟩)
                replace b6 := hbm.trans (b6.mono hbm.size)
                have c21' := c21 w6
                go_wp2_with (go_at_call 21; refine c21'.mono ?_; clear c21'; rintro e w7 ⟨rfl, b7⟩)
                replace b7 := b6.trans (b7.mono b6.size)
                have c22' := c22 w7 (by omega)
                go_wp2_with (go_at_call 22; refine c22'.mono ?_; clear c22'; rintro e w7' ⟨rfl, rfl⟩)
                go_wp2_with (go_at_call 14; refine (knownCrc _).mono ?_; rintro e w8 ⟨rfl, b8⟩)
                go_ret
                exact ⟨rfl, b7.trans (b8.mono b7.size)⟩
            · have hfq : far0 (0 : Int).toNat q = f := by rw [← Hf.out, HQ.out, show n.toNat = 0 by omega]; rfl
              rw [hfq] at c20z
              clear c20
              have h5 : ¬ 500 < n := by omega
              go_wp2_with (go_at_call 20; refine c20z.mono ?_; clear c20z; rintro e w6 ⟨rfl, b6⟩)
              replace b6 := hbm.trans (b6.mono hbm.size)
              have c21' := c21 w6
              go_wp2_with (go_at_call 21; refine c21'.mono ?_; clear c21'; rintro e w7 ⟨rfl, b7⟩)
              replace b7 := b6.trans (b7.mono b6.size)
              have c22' := c22 w7 (by omega)
              go_wp2_with (go_at_call 22; refine c22'.mono ?_; clear c22'; rintro e w7' ⟨rfl, rfl⟩)
              go_wp2_with (go_at_call 14; refine (knownCrc _).mono ?_; rintro e w8 ⟨rfl, b8⟩)
              go_ret
              exact ⟨rfl, b7.trans (b8.mono b7.size)⟩

end Go.Proofs.Ytpnagblbhlglhaa
