/- names.Text: bytes as a text. Conditions: those that it states. -/
import Derived.Test.YtnghfnpmbjnjeaaNamesSmall
import Derived.Deep.RegionLaw
namespace Go.Proofs.Ytnghfnpmbjnjeaa
open Go.RowKit

def digS : ByteArray := { data := #[48, 49, 50, 51, 52, 53, 54, 55, 56, 57, 65, 66, 67, 68, 69, 70] }
theorem digS_get (x : Nat) (h : x < 16) (h2 : x < digS.size) : (digS[x]'h2).toNat = digN x := by
  have : ∀ y : Fin 16, (digS[y.1]'(by have := y.2; exact this)).toNat = digN y.1 := by decide
  exact this ⟨x, h⟩
theorem run_dig (W : World) (x : Nat) (h : x < 16) : (Instr.index 9 (.string { data := #[48, 49, 50, 51, 52, 53, 54, 55, 56, 57, 65, 66, 67, 68, 69, 70] }) (.int .u8 (x : Int))).run Try.prog W = .ok (.int .u8 (digN x : Nat)) W := by
  have hs : digS.size = 16 := rfl
  have e := run_index_string (P := Try.prog) W 9 digS .u8 (x : Int) Try.underlying9
  rw [dif_pos ⟨by omega, by rw [hs]; omega⟩] at e
  have e2 : ((digS[((x : Int)).toNat]'(by rw [hs]; omega)).toNat) = digN x := by
    have := digS_get x h (by rw [hs]; exact h)
    simpa using this
  rw [e2] at e
  exact e
theorem reads_lit (w : World) (l : List Nat) : Reads (w.alloc (.cells (byts l).toArray 5)) (w.heap.size + 1) 1 (some ⟨w.heap.size, 0, none⟩) l.length (byts l) := by
  refine ⟨by simp [byts], fun _ => ⟨_, rfl, by simp, fun j u hu => ?_⟩⟩
  rw [addr_add, (Blk.new w 5 _).cell j]
  simpa using hu

set_option maxHeartbeats 4000000 in
set_option maxRecDepth 100000 in
theorem text_any (w : World) (B : Nat) (A : Option Addr) (n c : Nat) (b : List Nat) (h : Reads w B 1 A n (byts b)) (hs : Small b) (hB : B ≤ w.heap.size) (hn : n ≤ 40000000000000) :
    Calls Try.prog 31 #[.slice A n c] w fun e w' => e = .returned (.string (strN (textN b))) ∧ Below w.heap.size w w' := by
  obtain ⟨i0, hi, hz0, hz1, hz2⟩ := info_parts Try.info5w
  have hl : b.length = n := by have := h.1; rw [byts_length] at this; omega
  by_cases h0 : n = 0
  · subst h0
    have e : textN b = [37] := by unfold textN; rw [if_pos hl]
    rw [e]
    go_enter Try.func31, Try.ntmps31
    go_wp2
    go_ret
    exact ⟨rfl, Below.refl _ _⟩
  · have e : textN b = textF b := by unfold textN; rw [if_neg (by omega)]
    rw [e]
    have st := textF_small hs
    obtain ⟨T, hT⟩ : ∃ T, textF b = T := ⟨_, rfl⟩
    rw [hT] at st ⊢
    have z0 : ((n : Int) == 0) = false := by rw [beq_eq_false_iff_ne]; omega
    have HL := Lib.hid hl
    have HT := Lib.hid hT
    have fle : ∀ k, k ≤ n → (textF (b.take k)).length ≤ 3 * k := fun k hk => by
      have := textF_le (b.take k)
      rw [List.length_take] at this
      omega
    clear hl hT e
    go_enter Try.func31, Try.ntmps31
    go_wp2_with (refine wpList_make_own _ rfl _ _ 22 rfl w.heap.size 5 i0 (.int .u8 0) 1 Try.underlying22 hi hz0 hz1 .i64 .i64 _ n rfl rfl rfl ?c1 ?c2 ?c3 ?_)
    case c1 => rw [hz2]; omega
    case c2 => unfold maxLen; omega
    case c3 => exact Nat.le_refl _
    intro w1 ho hg
    go_wp2
    replace hg := (Below.refl w.heap.size w).grown hg (Nat.le_refl _) (fun _ h => by cases h)
    go_loopw [3, 14] (fun sv iv wr => ∃ (k : Nat) (G : Option Addr) (gc : Nat), k ≤ n ∧ iv = .int .i64 k ∧ sv = .slice G (textF (b.take k)).length gc ∧ wr.ownsRow w.heap.size 5 1 (.slice G (textF (b.take k)).length gc) (textF (b.take k)).length (byts (textF (b.take k))) ∧ Below w.heap.size w wr) (fun _ iv _ => n - (intOf iv).toNat)
    case atStart => exact ⟨0, _, n, Nat.zero_le _, rfl, rfl, ho, hg⟩
    case round =>
      clear ho hg
      obtain ⟨k, G, gc, hk, rfl, rfl, ho, hb⟩ := hrel
      by_cases hlt : k < n
      · have hkl : k < b.length := by have := HL.out; omega
        have hr := h.below (hb.mono hB)
        obtain ⟨ad, v, rfl, _, hxv, hcell⟩ := hr.at_ hlt
        obtain ⟨d, hd⟩ : ∃ d, b[k] = d := ⟨_, rfl⟩
        have hd8 : d < 256 := by rw [← hd]; exact hs.at_ _ hkl
        obtain rfl : v = .int .u8 (d : Nat) := by
          simp [byts, List.getElem?_eq_getElem hkl, hd] at hxv
          exact hxv.symm
        have hstep : textF (b.take (k + 1)) = textF (b.take k) ++ letF d := by
          rw [List.take_succ_eq_append_getElem hkl, textF_append, hd]
          simp [textF]
        have hfl := fle k (by omega)
        obtain ⟨U, hU⟩ : ∃ U, textF (b.take k) = U := ⟨_, rfl⟩
        rw [hU] at hstep hfl ho ⊢
        have hsz := hb.size
        have q59 := plain_any wr d hd8
        have k0 : (0 : Int) ≤ (k : Int) := by omega
        have k1 : (k : Int) < (n : Int) := by omega
        by_cases hp : plainN d = true
        · have hstep2 : textF (b.take (k + 1)) = U ++ [d] := by rw [hstep]; unfold letF; rw [if_pos hp]
          rw [hp] at q59
          have HS := Lib.hid hstep2
          clear hstep hstep2 hU hd hxv hr
          go_wp2_with (first
            | (go_at_call 59; refine q59.mono ?_; clear q59; rintro e w' ⟨rfl, rfl⟩)
            | (at_builtin; refine wpList_append_any _ rfl _ _ 22 rfl w.heap.size 5 i0 (.int .u8 0) 1 1 Try.underlying22 hi hz0 hz1 hz2 rfl (by decide) _ _ _ rfl (ho.alloc _) (wr.heap.size + 1) (some ⟨wr.heap.size, 0, none⟩) 1 1 _ rfl (reads_one wr d) ?c1 ?c2 ?c3 ?c4 ?_))
          case c1 => exact byts_one _
          case c2 => unfold maxLen; omega
          case c3 => omega
          case c4 => simp; omega
          intro v2 w2 o2 g2 _
          obtain ⟨G2, e2, rfl⟩ := own_shape o2
          have hb2 : Below w.heap.size w w2 := (hb.alloc hsz _).grown g2 (by simp; omega) (own_base ho)
          rw [← byts_append] at o2
          go_wp2
          go_roundw
          case rel =>
            refine ⟨k + 1, G2, e2, by omega, by go_num, ?_, ?_, hb2⟩
            · rw [HS.out]; simp
            · rw [HS.out]; simpa using o2
          case measure => simp [intOf]; omega
        · have hp' : plainN d = false := by simpa using hp
          have hstep2 : textF (b.take (k + 1)) = U ++ [37, digN (d / 16), digN (d % 16)] := by rw [hstep]; unfold letF; rw [if_neg hp]
          rw [hp'] at q59
          obtain ⟨x1, hx1⟩ : ∃ x, d / 16 = x := ⟨_, rfl⟩
          obtain ⟨x2, hx2⟩ : ∃ x, d % 16 = x := ⟨_, rfl⟩
          have hd1 := fun W : World => run_dig W x1 (by omega)
          have hd2 := fun W : World => run_dig W x2 (by omega)
          have u1 : (d : Int) / 16 = (x1 : Int) := by omega
          have u2 : bits .and .u8 (d : Int) 15 = (x2 : Int) := by
            have := u8_and_nat d 15 hd8 (by omega)
            rw [nat_mask4, hx2] at this
            exact this
          rw [hx1, hx2] at hstep2
          have HS := Lib.hid hstep2
          clear hstep hstep2 hU hd hxv hr hx1 hx2
          go_wp2_with (go_at_call 59; refine q59.mono ?_; clear q59; rintro e w' ⟨rfl, rfl⟩)
          have hr3 := (reads_lit wr [37, digN x1, digN x2]).drew
          have ho' : ((wr.alloc (.cells (byts [37, digN x1, digN x2]).toArray 5)).drew).ownsRow w.heap.size 5 1 (.slice G U.length gc) U.length (byts U) := ho.alloc _
          have hbA : Below w.heap.size w ((wr.alloc (.cells (byts [37, digN x1, digN x2]).toArray 5)).drew) := (hb.alloc hsz _).drew
          go_region_law (first | (refine step_append_any ((wr.alloc (.cells (byts [37, digN x1, digN x2]).toArray 5)).drew) rfl _ _ 22 rfl w.heap.size 5 i0 (.int .u8 0) 1 1 Try.underlying22 hi hz0 hz1 hz2 rfl (by decide) _ _ _ rfl ho' (wr.heap.size + 1) (some ⟨wr.heap.size, 0, none⟩) 3 3 _ rfl hr3 (byts_one _) (by unfold maxLen; omega) (by omega) hbA.size ?_; intro v2 w2 o2 g2 _; obtain ⟨G2, e2, rfl⟩ := own_shape o2))
          all_goals
            have hb2 : Below w.heap.size w w2 := hbA.grown g2 hbA.size (own_base ho)
            rw [← byts_append] at o2
            go_wp2
            go_roundw
            case rel =>
              refine ⟨k + 1, G2, e2, by omega, by go_num, ?_, ?_, hb2⟩
              · rw [HS.out]; simp
              · rw [HS.out]; simpa using o2
            case measure => simp [intOf]; omega
      · have hkn : k = n := by omega
        subst hkn
        have hb1 : b.take k = b := List.take_of_length_le (by have := HL.out; omega)
        rw [hb1, HT.out] at ho ⊢
        have t1 := run_str (P := Try.prog) (src := 22) (dst := 9) (c := gc) rfl rfl rfl (Reads.of_own ho) st
        clear hb1
        go_wp2
        go_ret
        exact ⟨rfl, hb⟩

end Go.Proofs.Ytnghfnpmbjnjeaa
