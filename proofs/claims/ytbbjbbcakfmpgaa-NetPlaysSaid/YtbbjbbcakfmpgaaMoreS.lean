/- Net[string]: Clone, Copy, Lose, Keep, what a full net answers, All. Conditions: those that each states. -/
import Derived.Test.YtbbjbbcakfmpgaaTakeS
import Derived.Deep.RegionHeld3
import Derived.Lib.SliceRun
namespace Go.Proofs.Ytbbjbbcakfmpgaa
open Go.RowKit

theorem cloneS (w : World) (B n c : Nat) (A : Option Addr) (xs : List ByteArray) (hr : Reads w B 1 A n (strs xs)) (hA : A = none → n = 0 ∧ c = 0) (hn : n ≤ 65536) (hB : B ≤ w.heap.size) :
    Calls Try.prog 35 #[.slice A n c] w fun e w' => ∃ A1 c1, e = .returned (.slice A1 n c1) ∧ w'.ownsRow w.heap.size 9 1 (.slice A1 n c1) n (strs xs) ∧ (A1 = none → n = 0 ∧ c1 = 0) ∧ Below w.heap.size w w' := by
  cases A with
  | none =>
    obtain ⟨rfl, rfl⟩ := hA rfl
    have hx : xs = [] := by
      have := hr.1
      rw [strs_length] at this
      exact List.eq_nil_of_length_eq_zero this
    subst hx
    have hnn := fun (W : World) => Lib.run_eql_slice_nil (P := Try.prog) W 38 9 none 0 0 0 0 Try.underlying38
    go_enter Try.func35, Try.ntmps35
    go_wp2
    go_ret
    exact ⟨_, _, rfl, World.ownsRow_nil _ _ _ _, fun _ => by simp, Below.refl _ _⟩
  | some ad =>
    obtain ⟨i0, hi, hz0, hz1, hz2⟩ := info_parts Try.info9s
    have one := strs_one xs
    obtain ⟨R, hR⟩ : ∃ R, strs xs = R := ⟨_, rfl⟩
    rw [hR] at hr one ⊢
    clear hR hA
    have ho : (w.alloc (.cells #[] 9)).ownsRow w.heap.size 9 1 (.slice (some ⟨w.heap.size, 0, none⟩) 0 0) 0 [] := World.ownsRow_made w #[] 0 (Nat.le_refl _) (by unfold maxLen; omega) rfl
    have hr2 := hr.alloc hB (.cells #[] 9)
    have hnn := fun (W : World) => Lib.run_eql_slice_nil (P := Try.prog) W 38 9 (some ad) n c 0 0 Try.underlying38
    have hb1 : Below w.heap.size w (w.alloc (.cells #[] 9)) := (Below.refl _ w).alloc (Nat.le_refl _) _
    go_enter Try.func35, Try.ntmps35
    go_wp2_with (at_builtin; refine wpList_append_any _ rfl _ _ 38 rfl w.heap.size 9 i0 _ 1 16 Try.underlying38 hi hz0 hz1 hz2 rfl (by decide) _ _ _ rfl ho _ _ n _ _ rfl hr2 ?c1 ?c2 ?c3 ?c4 ?_)
    case c1 => exact one
    case c2 => unfold maxLen; omega
    case c3 => omega
    case c4 => simp
    intro v2 w2 ho2 hg2 hat
    try simp only [Nat.zero_add, List.nil_append] at ho2
    obtain ⟨A1, c1, rfl⟩ := own_shape ho2
    go_wp2
    go_ret
    refine ⟨A1, c1, rfl, ho2, ?_, hb1.grown hg2 (by simp) (own_base ho)⟩
    intro e
    subst e
    rcases hat with h | h <;> simp [Value.ownBlock] at h

set_option maxHeartbeats 1000000 in
theorem loseS_in (w : World) (B b c : Nat) (A : Option Addr) (xs : List ByteArray) (sent : Int) (i : Nat) (h : NetS w B b A c xs sent) (hi : i < xs.length) (hx : xs.length ≤ 65536) :
    Calls Try.prog 17 #[.pointer (some ⟨b, 0, none⟩), .int .i64 i] w fun e w' => e = .returned (.int .i64 0) ∧ TookS w' B b A (xs.eraseIdx i) sent w := by
  have ht := takeS_in w B b c A xs sent i h hi hx
  go_enter Try.func17, Try.ntmps17
  go_wp2_with (go_at_call 16; refine ht.mono ?_; clear ht; rintro e w' ⟨rfl, ht⟩)
  go_ret
  exact ⟨rfl, ht⟩

set_option maxHeartbeats 400000 in
theorem loseS_out (w : World) (B b c : Nat) (A : Option Addr) (xs : List ByteArray) (sent : Int) (i : Int) (h : NetS w B b A c xs sent) (hi : i < 0 ∨ (xs.length : Int) ≤ i) :
    Calls Try.prog 17 #[.pointer (some ⟨b, 0, none⟩), .int .i64 i] w fun e w' => e = .returned (.int .i64 5) ∧ w = w' := by
  go_enter Try.func17, Try.ntmps17
  go_wp2_with (go_at_call 16; refine (takeS_out _ _ _ _ _ _ _ _ h hi).mono ?_; rintro e w' ⟨rfl, rfl⟩)
  go_ret
  exact ⟨rfl, rfl⟩

set_option maxHeartbeats 400000 in
theorem sendS_full (w : World) (B b c : Nat) (A : Option Addr) (xs : List ByteArray) (sent : Int) (h : NetS w B b A c xs sent) (A' : Option Addr) (n c' : Nat) (hx2 : xs.length ≤ 65536) (hx : 65536 - (xs.length : Int) < n) :
    Calls Try.prog 15 #[.pointer (some ⟨b, 0, none⟩), .slice A' n c'] w fun e w' => e = .returned (.int .i64 7) ∧ w = w' := by
  have c0 : w.cell? ⟨b, 0, none⟩ = some (.slice A xs.length c) := (h.blk.cell 0).trans rfl
  have c2 : w.cell? ⟨b, 2, none⟩ = some (.bool true) := (h.blk.cell 2).trans rfl
  have u : IntKind.i64.wrap (65536 - (xs.length : Int)) = 65536 - xs.length := IntWalk.i64_in _ (by omega)
  go_enter Try.func15, Try.ntmps15
  go_wp2_with (go_at_call 33; refine (there_someS _ _ _ (by assumption)).mono ?_; rintro e w' ⟨rfl, rfl⟩)
  go_ret
  exact ⟨rfl, rfl⟩

set_option maxHeartbeats 400000 in
theorem twinS_full (w : World) (B b c : Nat) (A : Option Addr) (xs : List ByteArray) (sent : Int) (i : Nat) (h : NetS w B b A c xs sent) (hi : i < xs.length) (hx : xs.length = 65536) :
    Calls Try.prog 19 #[.pointer (some ⟨b, 0, none⟩), .int .i64 i] w fun e w' => e = .returned (.int .i64 7) ∧ Below w.heap.size w w' := by
  have hal : NetS (w.alloc (.cells #[.string (gets xs i)] 9)) B b A c xs sent := h.below ((Below.refl w.heap.size w).alloc (Nat.le_refl _) _) (Nat.le_refl _)
  have hcall := sendS_full _ B b c A xs sent hal (some ⟨w.heap.size, 0, none⟩) 1 1 (by omega) (by omega)
  go_enter Try.func19, Try.ntmps19
  go_wp2_with (first | (go_at_call 18; refine (atS_in _ _ _ _ _ _ _ _ h hi (by omega)).mono ?_; rintro e w' ⟨rfl, rfl⟩) | (go_at_call 15; refine hcall.mono ?_; rintro e w1 ⟨rfl, rfl⟩))
  go_ret
  exact ⟨rfl, (Below.refl _ w).alloc (Nat.le_refl _) _⟩

theorem net_nil {w : World} {B n c : Nat} {A : Option Addr} {vs : List Value} (h : w.ownsRow B 9 1 (.slice A n c) n vs) : A = none → n = 0 ∧ c = 0 := by
  rintro rfl
  rcases h.2 with ⟨hn, h0⟩ | ⟨g', cap', cur, hv', _, _, hle, _⟩
  · simp at hn
    exact ⟨h0, hn.2⟩
  · cases hv'

set_option maxHeartbeats 1000000 in
set_option maxRecDepth 100000 in
theorem copyS (w : World) (B b c : Nat) (A : Option Addr) (xs : List ByteArray) (sent : Int) (h : NetS w B b A c xs sent) (hx : xs.length ≤ 65536) :
    Calls Try.prog 23 #[.pointer (some ⟨b, 0, none⟩)] w fun e w' => ∃ b2, e = .returned (.pointer (some ⟨b2, 0, none⟩)) ∧ ∃ A1 c1, NetS w' w.heap.size b2 A1 c1 xs sent ∧ Below w.heap.size w w' := by
  have hB : B ≤ w.heap.size := by have := h.blk.lt; have := h.base; omega
  have ht := there_someS w b true ((h.blk.cell 2).trans rfl)
  have hc := fun (W : World) (hb : Below w.heap.size w W) => cloneS W w.heap.size xs.length c A xs (((Reads.of_own h.own).below (hb.mono (Nat.le_refl _)))) (net_nil h.own) hx hb.size
  have hcl := fun (W : World) (hb : Below w.heap.size w W) => h.below hb (Nat.le_refl _)
  have hbd : Below w.heap.size w w.drew := (Below.refl _ w).drew
  have e0 : w.drew.cell? ⟨b, 0, none⟩ = some (.slice A xs.length c) := (h.blk.cell 0).trans rfl
  have e1 : w.drew.cell? ⟨b, 1, none⟩ = some (.int .i64 sent) := (h.blk.cell 1).trans rfl
  have H := Lib.hid h
  clear h
  go_enter Try.func23, Try.ntmps23
  go_wp2_with (go_at_call 33; refine ht.mono ?_; clear ht; rintro e w' ⟨rfl, rfl⟩)
  go_region_held3 (fun w' => w'.cell? ⟨b, 0, none⟩ = some (.slice A xs.length c) ∧ w'.cell? ⟨b, 1, none⟩ = some (.int .i64 sent)) (first | (refine ⟨?_, ?_⟩ <;> assumption) | go_keep)
    ((go_at_call 35; refine (hc _ (by assumption)).mono ?_; rintro e w1 ⟨A1, c1, rfl, o1, z1, m1⟩; have n1 := hbd.trans m1; have d0 := ((hcl _ n1).blk.cell 0).trans rfl; have d1 := ((hcl _ n1).blk.cell 1).trans rfl))
  have hs1 := n1.size
  go_wp2
  go_ret
  refine ⟨_, rfl, A1, c1, ⟨Blk.new w1 57 _, hs1, ?_⟩, n1.alloc hs1 _⟩
  exact o1.alloc _

end Go.Proofs.Ytbbjbbcakfmpgaa
