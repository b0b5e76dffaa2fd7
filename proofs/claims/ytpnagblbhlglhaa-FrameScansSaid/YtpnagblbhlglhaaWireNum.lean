/- wire.Number and the document's. Conditions: those that each states. -/
import Derived.Test.YtpnagblbhlglhaaWireMath
import Derived.Test.YtpnagblbhlglhaaProg
import Derived.WalkLawsBesides
import Derived.WalkSpells
import Derived.BigQuiet
import Derived.Outline
import Derived.LoopTactic
import Derived.Laws.BitsAllLaws
import Derived.IntWalk
namespace Go.Proofs.Ytpnagblbhlglhaa
open Go.RowKit

theorem Try.info5w : (Try.prog.info? 5).map (fun i => (i.zero, i.size, i.bytes)) = some (some (.int .u8 0), 1, 1) := by kernel_rfl

/-- One byte in a block of its own, as an append's second argument. -/
theorem reads_one (w : World) (v : Nat) : Reads (w.alloc (.cells #[.int .u8 (v : Int)] 5)) (w.heap.size + 1) 1 (some ⟨w.heap.size, 0, none⟩) 1 (byts [v]) := by
  refine ⟨rfl, fun _ => ⟨_, rfl, by simp, fun j u hu => ?_⟩⟩
  have hj : j = 0 := by
    have := (List.getElem?_eq_some_iff.1 hu).1
    simpa [byts] using this
  subst hj
  rw [addr_add, (Blk.new w 5 #[.int .u8 (v : Int)]).cell 0]
  simpa [byts] using hu

set_option maxHeartbeats 1000000 in
theorem number_any (w : World) (n : Nat) (hn : n < 18446744073709551616) :
    Calls Try.prog 24 #[.int .u64 n] w fun e w' => ∃ A c, e = .returned (.slice A (numF n).length c) ∧ w'.ownsRow w.heap.size 5 1 (.slice A (numF n).length c) (numF n).length (byts (numF n)) ∧ Below w.heap.size w w' := by
  obtain ⟨i0, hi, hz0, hz1, hz2⟩ := info_parts Try.info5w
  go_enter Try.func24, Try.ntmps24
  go_wp2_with (refine wpList_make_own _ rfl _ _ 24 rfl w.heap.size 5 i0 (.int .u8 0) 1 Try.underlying24 hi hz0 hz1 .i64 .i64 _ 10 rfl rfl rfl ?c1 ?c2 ?c3 ?_)
  case c1 => rw [hz2]; omega
  case c2 => unfold maxLen; omega
  case c3 => exact Nat.le_refl _
  intro w1 ho hg
  go_wp2
  replace hg := (Below.refl w.heap.size w).grown hg (Nat.le_refl _) (fun _ h => by cases h)
  go_loopw [0, 3] (fun nv sv wr => ∃ (m : Nat) (d : List Nat) (A : Option Addr) (c : Nat), m < 18446744073709551616 ∧ nv = .int .u64 m ∧ sv = .slice A d.length c ∧ wr.ownsRow w.heap.size 5 1 (.slice A d.length c) d.length (byts d) ∧ numF n = d ++ numF m ∧ Below w.heap.size w wr) (fun nv _ _ => (intOf nv).toNat)
  case atStart => exact ⟨n, [], _, _, hn, rfl, rfl, ho, rfl, hg⟩
  case round =>
    clear ho hg
    obtain ⟨m, d, A, c, hm, rfl, rfl, ho, hd, hb⟩ := hrel
    have hlen := numF_le n hn
    rw [hd, List.length_append] at hlen
    have hpos := numF_pos m
    have hsz := hb.size
    have HD := Lib.hid hd
    clear hd
    by_cases hlt : m < 128
    · have e1 : (m : Int) % 256 = (m : Int) := by omega
      have ho' := ho.alloc (.cells #[.int .u8 (m : Int)] 5)
      have hr1 := reads_one wr m
      have l1 : ¬ (127 : Int) < (m : Int) := by omega
      go_wp2_with (at_builtin; refine wpList_append_any _ rfl _ _ 24 rfl w.heap.size 5 i0 (.int .u8 0) 1 1 Try.underlying24 hi hz0 hz1 hz2 rfl (by decide) _ _ _ rfl ho' _ _ 1 _ _ rfl hr1 ?c1 ?c2 ?c3 ?c4 ?_)
      case c1 => exact byts_one _
      case c2 => unfold maxLen; omega
      case c3 => omega
      case c4 => first | omega | (simp; omega)
      intro v2 w2 ho2 hg2 _
      obtain ⟨A2, c2, rfl⟩ := own_shape ho2
      go_wp2
      go_ret
      have e2 : numF n = d ++ [m] := by rw [HD.out, numF_low hlt]
      have e3 : (numF n).length = d.length + 1 := by rw [e2]; simp
      rw [e3]
      refine ⟨A2, c2, rfl, ?_, (hb.alloc hsz _).grown hg2 (by simp; omega) (own_base ho')⟩
      rw [e2, byts_append]
      exact ho2
    · have hfl : bits .or .u8 ((m : Int) % 256) 128 = ((m % 128 + 128 : Nat) : Int) := by
        have h1 := u8_or_nat (m % 256) 128 (by omega) (by omega)
        have h2 := or128 (m % 256) (by omega)
        rw [h2, show m % 256 % 128 = m % 128 by omega, show ((m % 256 : Nat) : Int) = (m : Int) % 256 by omega] at h1
        exact h1
      have ho' := ho.alloc (.cells #[.int .u8 ((m % 128 + 128 : Nat) : Int)] 5)
      have hr1 := reads_one wr (m % 128 + 128)
      have l1 : (127 : Int) < (m : Int) := by omega
      obtain ⟨y, hy⟩ : ∃ y, m % 128 + 128 = y := ⟨_, rfl⟩
      rw [hy] at hfl ho' hr1
      go_wp2_with (at_builtin; refine wpList_append_any _ rfl _ _ 24 rfl w.heap.size 5 i0 (.int .u8 0) 1 1 Try.underlying24 hi hz0 hz1 hz2 rfl (by decide) _ _ _ rfl ho' _ _ 1 _ _ rfl hr1 ?c1 ?c2 ?c3 ?c4 ?_)
      case c1 => exact byts_one _
      case c2 => unfold maxLen; omega
      case c3 => omega
      case c4 => first | omega | (simp; omega)
      intro v2 w2 ho2 hg2 _
      obtain ⟨A2, c2, rfl⟩ := own_shape ho2
      go_wp2
      go_roundw
      case rel =>
        refine ⟨m / 128, d ++ [y], A2, c2, by omega, by go_num, by simp, ?_, ?_, (hb.alloc hsz _).grown hg2 (by simp; omega) (own_base ho')⟩
        · rw [byts_append]; simpa using ho2
        · rw [HD.out, numF_high hlt, hy]; simp
      case measure => simp [intOf]; omega

set_option maxHeartbeats 1000000 in
theorem refNumber_any (w : World) (n : Nat) (hn : n < 18446744073709551616) :
    Calls Try.prog 27 #[.int .u64 n] w fun e w' => ∃ A c, e = .returned (.slice A (numF n).length c) ∧ w'.ownsRow w.heap.size 5 1 (.slice A (numF n).length c) (numF n).length (byts (numF n)) ∧ Below w.heap.size w w' := by
  obtain ⟨i0, hi, hz0, hz1, hz2⟩ := info_parts Try.info5w
  go_enter Try.func27, Try.ntmps27
  go_wp2
  go_loopw [0, 3] (fun nv sv wr => ∃ (m : Nat) (d : List Nat) (A : Option Addr) (c : Nat), m < 18446744073709551616 ∧ nv = .int .u64 m ∧ sv = .slice A d.length c ∧ wr.ownsRow w.heap.size 5 1 (.slice A d.length c) d.length (byts d) ∧ numF n = d ++ numF m ∧ Below w.heap.size w wr) (fun nv _ _ => (intOf nv).toNat)
  case atStart => exact ⟨n, [], none, 0, hn, rfl, rfl, World.ownsRow_nil _ _ _ _, rfl, Below.refl _ _⟩
  case round =>
    obtain ⟨m, d, A, c, hm, rfl, rfl, ho, hd, hb⟩ := hrel
    have hlen := numF_le n hn
    rw [hd, List.length_append] at hlen
    have hpos := numF_pos m
    have hsz := hb.size
    have HD := Lib.hid hd
    clear hd
    by_cases hlt : m < 128
    · have e1 : (m : Int) % 256 = (m : Int) := by omega
      have ho' := ho.alloc (.cells #[.int .u8 (m : Int)] 5)
      have hr1 := reads_one wr m
      have l1 : ¬ (127 : Int) < (m : Int) := by omega
      go_wp2_with (at_builtin; refine wpList_append_any _ rfl _ _ 24 rfl w.heap.size 5 i0 (.int .u8 0) 1 1 Try.underlying24 hi hz0 hz1 hz2 rfl (by decide) _ _ _ rfl ho' _ _ 1 _ _ rfl hr1 ?c1 ?c2 ?c3 ?c4 ?_)
      case c1 => exact byts_one _
      case c2 => unfold maxLen; omega
      case c3 => omega
      case c4 => first | omega | (simp; omega)
      intro v2 w2 ho2 hg2 _
      obtain ⟨A2, c2, rfl⟩ := own_shape ho2
      go_wp2
      go_ret
      have e2 : numF n = d ++ [m] := by rw [HD.out, numF_low hlt]
      have e3 : (numF n).length = d.length + 1 := by rw [e2]; simp
      rw [e3]
      refine ⟨A2, c2, rfl, ?_, (hb.alloc hsz _).grown hg2 (by simp; omega) (own_base ho')⟩
      rw [e2, byts_append]
      exact ho2
    · have ho' := ho.alloc (.cells #[.int .u8 ((m % 128 + 128 : Nat) : Int)] 5)
      have hr1 := reads_one wr (m % 128 + 128)
      have l1 : (127 : Int) < (m : Int) := by omega
      obtain ⟨y, hy⟩ : ∃ y, m % 128 + 128 = y := ⟨_, rfl⟩
      have hfl : (m : Int) % 128 + 128 = (y : Int) := by omega
      have hfl2 : (y : Int) % 256 = (y : Int) := by omega
      rw [hy] at ho' hr1
      have HY := Lib.hid hy
      clear hy
      go_wp2_with (at_builtin; refine wpList_append_any _ rfl _ _ 24 rfl w.heap.size 5 i0 (.int .u8 0) 1 1 Try.underlying24 hi hz0 hz1 hz2 rfl (by decide) _ _ _ rfl ho' _ _ 1 _ _ rfl hr1 ?c1 ?c2 ?c3 ?c4 ?_)
      case c1 => exact byts_one _
      case c2 => unfold maxLen; omega
      case c3 => omega
      case c4 => first | omega | (simp; omega)
      intro v2 w2 ho2 hg2 _
      obtain ⟨A2, c2, rfl⟩ := own_shape ho2
      go_wp2
      go_roundw
      case rel =>
        refine ⟨m / 128, d ++ [y], A2, c2, by omega, by go_num, by simp, ?_, ?_, (hb.alloc hsz _).grown hg2 (by simp; omega) (own_base ho')⟩
        · rw [byts_append]; simpa using ho2
        · rw [HD.out, numF_high hlt, HY.out]; simp
      case measure => simp [intOf]; omega

end Go.Proofs.Ytpnagblbhlglhaa
