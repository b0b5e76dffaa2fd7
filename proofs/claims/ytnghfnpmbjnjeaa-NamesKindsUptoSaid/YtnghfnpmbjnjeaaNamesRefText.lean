/- The document's Text. Conditions: those that it states. -/
import Derived.Test.YtnghfnpmbjnjeaaNamesText2
import Derived.Deep.RegionHeldLaw
namespace Go.Proofs.Ytnghfnpmbjnjeaa
open Go.RowKit

set_option maxHeartbeats 4000000 in
set_option maxRecDepth 100000 in
theorem refText_any (w : World) (B : Nat) (A : Option Addr) (n c : Nat) (b : List Nat) (h : Reads w B 1 A n (byts b)) (hs : Small b) (hB : B ≤ w.heap.size) (hn : n ≤ 40000000000000) :
    Calls Try.prog 32 #[.slice A n c] w fun e w' => e = .returned (.string (strN (textN b))) ∧ Below w.heap.size w w' := by
  obtain ⟨i0, hi, hz0, hz1, hz2⟩ := info_parts Try.info5w
  have hl : b.length = n := by have := h.1; rw [byts_length] at this; omega
  by_cases h0 : n = 0
  · subst h0
    have e : textN b = [37] := by unfold textN; rw [if_pos hl]
    rw [e]
    go_enter Try.func32, Try.ntmps32
    go_wp2
    go_ret
    exact ⟨rfl, Below.refl _ _⟩
  · have e : textN b = textF b := by unfold textN; rw [if_neg (by omega)]
    rw [e]
    have st := textF_small hs
    obtain ⟨T, hT⟩ : ∃ T, textF b = T := ⟨_, rfl⟩
    rw [hT] at st ⊢
    have z0 : ((n : Int) == 0) = false := by rw [beq_eq_false_iff_ne]; omega
    have HL := Lib.hid hl
    have HT := Lib.hid hT
    have fle : ∀ k, k ≤ n → (textF (b.take k)).length ≤ 3 * k := fun k hk => by
      have := textF_le (b.take k)
      rw [List.length_take] at this
      omega
    clear hl hT e
    go_enter Try.func32, Try.ntmps32
    go_wp2
    go_loopw [3, 4] (fun sv iv wr => ∃ (k : Nat) (G : Option Addr) (gc : Nat), k ≤ n ∧ iv = .int .i64 k ∧ sv = .slice G (textF (b.take k)).length gc ∧ wr.ownsRow w.heap.size 5 1 (.slice G (textF (b.take k)).length gc) (textF (b.take k)).length (byts (textF (b.take k))) ∧ Below w.heap.size w wr) (fun _ iv _ => n - (intOf iv).toNat)
    case atStart => exact ⟨0, none, 0, Nat.zero_le _, rfl, rfl, World.ownsRow_nil _ _ _ _, Below.refl _ _⟩
    case round =>
      obtain ⟨k, G, gc, hk, rfl, rfl, ho, hb⟩ := hrel
      by_cases hlt : k < n
      · have hkl : k < b.length := by have := HL.out; omega
        obtain ⟨ad, v, rfl, hab, hxv, hcell0⟩ := h.at_ hlt
        have hcW : ∀ W, Below w.heap.size w W → W.cell? (ad.add k) = some v := fun W hW => (hW.cell (by rw [block_of_add]; omega)).trans hcell0
        have hcell := hcW wr hb
        obtain ⟨d, hd⟩ : ∃ d, b[k] = d := ⟨_, rfl⟩
        have hd8 : d < 256 := by rw [← hd]; exact hs.at_ _ hkl
        obtain rfl : v = .int .u8 (d : Nat) := by
          simp [byts, List.getElem?_eq_getElem hkl, hd] at hxv
          exact hxv.symm
        have hstep : textF (b.take (k + 1)) = textF (b.take k) ++ letF d := by
          rw [List.take_succ_eq_append_getElem hkl, textF_append, hd]
          simp [textF]
        have hfl := fle k (by omega)
        obtain ⟨U, hU⟩ : ∃ U, textF (b.take k) = U := ⟨_, rfl⟩
        rw [hU] at hstep hfl ho ⊢
        have hsz := hb.size
        have q59 := refPlain_any wr d
        have k0 : (0 : Int) ≤ (k : Int) := by omega
        have k1 : (k : Int) < (n : Int) := by omega
        by_cases hp : plainN d = true
        · have hstep2 : textF (b.take (k + 1)) = U ++ [d] := by rw [hstep]; unfold letF; rw [if_pos hp]
          rw [hp] at q59
          have HS := Lib.hid hstep2
          clear hstep hstep2 hU hd hxv hcW hcell0
          go_wp2_with (first
            | (go_at_call 62; refine q59.mono ?_; clear q59; rintro e w' ⟨rfl, rfl⟩)
            | (at_builtin; refine wpList_append_any _ rfl _ _ 22 rfl w.heap.size 5 i0 (.int .u8 0) 1 1 Try.underlying22 hi hz0 hz1 hz2 rfl (by decide) _ _ _ rfl (ho.alloc _) (wr.heap.size + 1) (some ⟨wr.heap.size, 0, none⟩) 1 1 _ rfl (reads_one wr d) ?c1 ?c2 ?c3 ?c4 ?_))
          case c1 => exact byts_one _
          case c2 => unfold maxLen; omega
          case c3 => omega
          case c4 => simp; omega
          intro v2 w2 o2 g2 _
          obtain ⟨G2, e2, rfl⟩ := own_shape o2
          have hb2 : Below w.heap.size w w2 := (hb.alloc hsz _).grown g2 (by simp; omega) (own_base ho)
          rw [← byts_append] at o2
          go_wp2
          go_roundw
          case rel =>
            refine ⟨k + 1, G2, e2, by omega, by go_num, ?_, ?_, hb2⟩
            · rw [HS.out]; simp
            · rw [HS.out]; simpa using o2
          case measure => simp [intOf]; omega
        · have hp' : plainN d = false := by simpa using hp
          have hstep2 : textF (b.take (k + 1)) = U ++ [37, digN (d / 16), digN (d % 16)] := by rw [hstep]; unfold letF; rw [if_neg hp]
          rw [hp'] at q59
          obtain ⟨x1, hx1⟩ : ∃ x, d / 16 = x := ⟨_, rfl⟩
          obtain ⟨x2, hx2⟩ : ∃ x, d % 16 = x := ⟨_, rfl⟩
          have l1 : x1 < 16 := by omega
          have l2 : x2 < 16 := by omega
          have u1 : (d : Int) / 16 = (x1 : Int) := by omega
          have u1' : (d : Int).tdiv 16 = (x1 : Int) := by rw [Int.tdiv_eq_ediv_of_nonneg (by omega)]; exact u1
          have u3 : IntKind.u8.wrap (x1 : Int) = (x1 : Int) := by rw [IntKind.wrap_u8']; omega
          have u3' : IntKind.u8.wrap (x2 : Int) = (x2 : Int) := by rw [IntKind.wrap_u8']; omega
          have u2 : (d : Int) % 16 = (x2 : Int) := by omega
          have u2' : (d : Int).tmod 16 = (x2 : Int) := by rw [Int.tmod_eq_emod_of_nonneg (by omega)]; exact u2
          rw [hx1, hx2] at hstep2
          have HS := Lib.hid hstep2
          clear hstep hstep2 hU hd hxv hx1 hx2
          go_wp2_with (go_at_call 62; refine q59.mono ?_; clear q59; rintro e w' ⟨rfl, rfl⟩)
          have hr3 := (reads_lit wr [37, digN x1, digN x2]).drew
          have ho' : ((wr.alloc (.cells (byts [37, digN x1, digN x2]).toArray 5)).drew).ownsRow w.heap.size 5 1 (.slice G U.length gc) U.length (byts U) := ho.alloc _
          have hbA : Below w.heap.size w ((wr.alloc (.cells (byts [37, digN x1, digN x2]).toArray 5)).drew) := (hb.alloc hsz _).drew
          have hcd : wr.drew.cell? (ad.add k) = some (.int .u8 (d : Nat)) := hcell
          go_region_held_law (fun w' => w'.cell? (ad.add k) = some (.int .u8 (d : Nat))) (first | assumption | go_keep) (first
            | (go_at_call 63; refine (digit_any _ _ (by assumption)).mono ?_; rintro e w' ⟨rfl, rfl⟩)
            | (refine step_append_any ((wr.alloc (.cells (byts [37, digN x1, digN x2]).toArray 5)).drew) rfl _ _ 22 rfl w.heap.size 5 i0 (.int .u8 0) 1 1 Try.underlying22 hi hz0 hz1 hz2 rfl (by decide) _ _ _ rfl ho' (wr.heap.size + 1) (some ⟨wr.heap.size, 0, none⟩) 3 3 _ rfl hr3 (byts_one _) (by unfold maxLen; omega) (by omega) hbA.size ?_; intro v2 w2 o2 g2 _; obtain ⟨G2, e2, rfl⟩ := own_shape o2; have hb9 : Below w.heap.size w w2 := hbA.grown g2 hbA.size (own_base ho); have hc9 := hcW w2 hb9))
          all_goals
            have hb2 : Below w.heap.size w w2 := hbA.grown g2 hbA.size (own_base ho)
            rw [← byts_append] at o2
            go_wp2
            go_roundw
            case rel =>
              refine ⟨k + 1, G2, e2, by omega, by go_num, ?_, ?_, hb2⟩
              · rw [HS.out]; simp
              · rw [HS.out]; simpa using o2
            case measure => simp [intOf]; omega
      · have hkn : k = n := by omega
        subst hkn
        have hb1 : b.take k = b := List.take_of_length_le (by have := HL.out; omega)
        rw [hb1, HT.out] at ho ⊢
        have t1 := run_str (P := Try.prog) (src := 22) (dst := 9) (c := gc) rfl rfl rfl (Reads.of_own ho) st
        clear hb1
        go_wp2
        go_ret
        exact ⟨rfl, hb⟩

end Go.Proofs.Ytnghfnpmbjnjeaa
