/- The walk of wicketlaw01.WireNil: a closed sentence. Conditions: none. -/
import Derived.Test.YtpnagblbhlglhaaWireKnown
namespace Go.Proofs.Ytpnagblbhlglhaa
open Go.RowKit

/-- A reader that is not there: nil, or a zero one. -/
def Zero (w : World) (p : Option Addr) : Prop := p = none ∨ ∃ r, p = some ⟨r, 0, none⟩ ∧ Blk w r 83 #[.slice none 0 0, .int .i64 0]

section
variable {w : World} {p : Option Addr}
theorem z_there (h : Zero w p) : Calls Try.prog 71 #[.pointer p] w fun e w' => e = .returned (.bool false) ∧ w = w' := by
  rcases h with rfl | ⟨r, rfl, hb⟩
  · go_enter Try.func71, Try.ntmps71
    go_wp2
    go_ret
    exact ⟨rfl, rfl⟩
  · have c0 : w.cell? ⟨r, 0, none⟩ = some (.slice none 0 0) := (hb.cell 0).trans rfl
    go_enter Try.func71, Try.ntmps71
    go_wp2
    go_ret
    exact ⟨rfl, rfl⟩
theorem z_num (h : Zero w p) : Calls Try.prog 35 #[.pointer p] w fun e w' => e = .returned (.tuple #[.int .u64 0, .int .i64 1]) ∧ w = w' := by
  have ht := z_there h
  go_enter Try.func35, Try.ntmps35
  go_wp2
  go_step3
  go_wp2_with (go_at_call 71; refine ht.mono ?_; clear ht; rintro e w' ⟨rfl, rfl⟩)
  simp (config := { zetaDelta := true }) only [Exit.noGoto, Exit.then, Exit.inBlock]
  go_ret2
  exact ⟨rfl, rfl⟩
theorem z_signed (h : Zero w p) : Calls Try.prog 36 #[.pointer p] w fun e w' => e = .returned (.tuple #[.int .i64 0, .int .i64 1]) ∧ w = w' := by
  have ht := z_num h
  have b1 : bits .and .u64 0 1 = 0 := by decide
  have b2 : bits .xor .i64 0 0 = 0 := by decide
  go_enter Try.func36, Try.ntmps36
  go_wp2_with (go_at_call 35; refine ht.mono ?_; clear ht; rintro e w' ⟨rfl, rfl⟩)
  go_ret2
  exact ⟨rfl, rfl⟩
theorem z_flag (h : Zero w p) : Calls Try.prog 38 #[.pointer p] w fun e w' => e = .returned (.tuple #[.bool false, .int .i64 1]) ∧ w = w' := by
  have ht := z_there h
  go_enter Try.func38, Try.ntmps38
  go_wp2_with (go_at_call 71; refine ht.mono ?_; clear ht; rintro e w' ⟨rfl, rfl⟩)
  go_ret2
  exact ⟨rfl, rfl⟩
theorem z_bytes (h : Zero w p) : Calls Try.prog 37 #[.pointer p, .int .i64 (-1)] w fun e w' => e = .returned (.tuple #[.slice none 0 0, .int .i64 1]) ∧ w = w' := by
  have ht := z_there h
  go_enter Try.func37, Try.ntmps37
  go_wp2_with (go_at_call 71; refine ht.mono ?_; clear ht; rintro e w' ⟨rfl, rfl⟩)
  go_ret2
  exact ⟨rfl, rfl⟩
theorem z_end (h : Zero w p) : Calls Try.prog 40 #[.pointer p] w fun e w' => e = .returned (.int .i64 1) ∧ w = w' := by
  have ht := z_there h
  go_enter Try.func40, Try.ntmps40
  go_wp2_with (go_at_call 71; refine ht.mono ?_; clear ht; rintro e w' ⟨rfl, rfl⟩)
  go_ret
  exact ⟨rfl, rfl⟩
theorem z_left (h : Zero w p) : Calls Try.prog 41 #[.pointer p] w fun e w' => e = .returned (.int .i64 0) ∧ w = w' := by
  have ht := z_there h
  go_enter Try.func41, Try.ntmps41
  go_wp2_with (go_at_call 71; refine ht.mono ?_; clear ht; rintro e w' ⟨rfl, rfl⟩)
  go_ret
  exact ⟨rfl, rfl⟩
set_option maxHeartbeats 2000000 in
set_option maxRecDepth 100000 in
theorem z_nothing (h : Zero w p) : Calls Try.prog 51 #[.pointer p] w fun e w' => e = .returned (.bool true) ∧ w = w' := by
  have h1 := z_num h
  have h2 := z_signed h
  have h3 := z_flag h
  have h4 := z_bytes h
  have h5 := z_end h
  have h6 := z_left h
  go_enter Try.func51, Try.ntmps51
  go_wp2_with (first
    | (go_at_call 35; refine h1.mono ?_; clear h1; rintro e w' ⟨rfl, rfl⟩)
    | (go_at_call 36; refine h2.mono ?_; clear h2; rintro e w' ⟨rfl, rfl⟩)
    | (go_at_call 38; refine h3.mono ?_; clear h3; rintro e w' ⟨rfl, rfl⟩)
    | (go_at_call 37; refine h4.mono ?_; clear h4; rintro e w' ⟨rfl, rfl⟩)
    | (go_at_call 40; refine h5.mono ?_; clear h5; rintro e w' ⟨rfl, rfl⟩)
    | (go_at_call 41; refine h6.mono ?_; clear h6; rintro e w' ⟨rfl, rfl⟩)
    | (go_at_call 39; refine (num_any _ _).mono ?_; rintro e w' ⟨rfl, rfl⟩))
  go_ret
  exact ⟨rfl, rfl⟩
end

set_option maxHeartbeats 2000000 in
set_option maxRecDepth 100000 in
theorem put_nil (w : World) : Calls Try.prog 48 #[.slice none 0 0, .nilFunc] w fun e w' => e = .returned (.tuple #[.slice none 0 0, .int .i64 1]) ∧ w = w' := by
  have hrun : Sem.run Try.prog (binOp BinOp.eql 78 Value.nilFunc Value.nilFunc) w = .ok (.bool true) w := by kernel_rfl
  go_enter Try.func48, Try.ntmps48
  go_wp2
  go_ret2
  exact ⟨rfl, rfl⟩
set_option maxHeartbeats 2000000 in
set_option maxRecDepth 100000 in
theorem put_none (w : World) : Calls Try.prog 48 #[.slice none 0 0, .func (.func 49) #[] #[]] w fun e w' => ∃ A c, e = .returned (.tuple #[.slice A 1 c, .int .i64 0]) ∧ Reads w' w'.heap.size 1 A 1 (byts [0]) ∧ Below w.heap.size w w' := by
  have q := number_tells w 0 (by omega)
  rw [numF_low (by omega)] at q
  unfold Tells at q
  have hrun : Sem.run Try.prog (binOp BinOp.eql 78 (Value.func (.func 49) #[] #[]) Value.nilFunc) w = .ok (.bool false) w := by kernel_rfl
  go_enter Try.func48, Try.ntmps48
  go_wp2_with (go_at_call 24; refine q.mono ?_; clear q; rintro e w1 ⟨A, c, rfl, ho, hb⟩)
  go_loop [6, 17] (fun bv iv => bv = .slice A 1 c ∧ iv = .int .i64 0) (fun _ _ => 0)
  case atStart => exact ⟨rfl, rfl⟩
  case round =>
    obtain ⟨rfl, rfl⟩ := hrel
    go_wp2
    go_ret2
    first
      | exact ⟨A, c, rfl, Reads.of_own ho, hb⟩
      | exact ⟨A, ⟨c, rfl⟩, Reads.of_own ho, hb⟩
set_option maxHeartbeats 2000000 in
set_option maxRecDepth 100000 in
theorem take_int_nil (w : World) (r : Nat) (A : Addr) (c : Nat) (bs : List Nat) (h : RdI w r A c bs 0) : Calls Try.prog 50 #[.pointer (some ⟨r, 0, none⟩), .int .i64 5, .nilFunc] w fun e w' => e = .returned (.tuple #[.slice none 0 0, .int .i64 1]) ∧ w = w' := by
  have ht := there_any w r A c bs 0 h
  have hrun : Sem.run Try.prog (binOp BinOp.eql 130 Value.nilFunc Value.nilFunc) w = .ok (.bool true) w := by kernel_rfl
  go_enter Try.func50, Try.ntmps50
  go_wp2_with (go_at_call 71; refine ht.mono ?_; clear ht; rintro e w' ⟨rfl, rfl⟩)
  go_ret2
  exact ⟨rfl, rfl⟩
set_option maxHeartbeats 2000000 in
set_option maxRecDepth 100000 in
theorem take_nil (w : World) : Calls Try.prog 44 #[.pointer none, .int .i64 (-1), .func (.func 45) #[] #[]] w fun e w' => e = .returned (.tuple #[.slice none 0 0, .int .i64 1]) ∧ w = w' := by
  have ht := z_there (w := w) (p := none) (.inl rfl)
  go_enter Try.func44, Try.ntmps44
  go_wp2_with (go_at_call 71; refine ht.mono ?_; clear ht; rintro e w' ⟨rfl, rfl⟩)
  go_ret2
  exact ⟨rfl, rfl⟩

set_option maxHeartbeats 4000000 in
set_option maxRecDepth 100000 in
theorem wireNil_walk (w : World) : Calls Try.prog 9 #[] w fun e w' => e = .returned (.bool true) ∧ Below w.heap.size w w' := by
  have q1 := put_nil w
  have q2 := put_none w
  have q4 := fun W : World => take_nil W
  have q5 := fun W : World => z_nothing (w := W) (p := none) (.inl rfl)
  have q6 := fun (W : World) (H : Nat) (hH : W.heap.size = H) => z_nothing (w := W.alloc (.cells #[.slice none 0 0, .int .i64 0] 83)) (p := some ⟨H, 0, none⟩) (.inr ⟨H, rfl, by subst hH; exact Blk.new W 83 _⟩)
  have s1 : strN [0] = { data := #[0] } := rfl
  go_enter Try.func9, Try.ntmps9
  go_wp2_with (first
    | (go_at_call 48; refine q1.mono ?_; clear q1; rintro e w' ⟨rfl, rfl⟩)
    | (go_at_call 48; refine q2.mono ?_; clear q2; rintro e w1 ⟨A, c, rfl, hr, b1⟩; have q3 := open_any (w1.alloc (.cells #[.int .u8 0] 5)) (w1.heap.size + 1) (some ⟨w1.heap.size, 0, none⟩) 1 1 [0] (reads_one w1 0) (small_of (by decide)) (by simp) (by omega))
    | (go_at_call 34; refine q3.mono ?_; clear q3; rintro e w2 ⟨g, A2, c2, rfl, hR, _, _, b2⟩; have q50 := take_int_nil w2 g A2 c2 [0] hR; have bb : Below w.heap.size w w2 := (b1.alloc b1.size (.cells #[.int .u8 0] 5)).trans (b2.mono (by have := b1.size; simp; omega)); have t1 := run_str (P := Try.prog) (src := 24) (dst := 9) (c := c) rfl rfl rfl ((hr.alloc (Nat.le_refl _) (.cells #[.int .u8 0] 5)).below (b2.mono (by simp))) (small_of (l := [0]) (by decide)); rw [s1] at t1)
    | (go_at_call 50; refine q50.mono ?_; clear q50; rintro e w' ⟨rfl, rfl⟩)
    | (go_at_call 44; refine (q4 _).mono ?_; clear q4; rintro e w' ⟨rfl, rfl⟩)
    | (go_at_call 39; refine (num_any _ _).mono ?_; rintro e w' ⟨rfl, rfl⟩)
    | (go_at_call 51; refine (q5 _).mono ?_; clear q5; rintro e w' ⟨rfl, rfl⟩)
    | (go_at_call 51; refine (q6 _ _ rfl).mono ?_; clear q6; rintro e w' ⟨rfl, rfl⟩)
    | (go_at_call 33; refine (knownWire _).mono ?_; rintro e w9 ⟨rfl, b9⟩))
  go_ret
  exact ⟨rfl, (bb.alloc bb.size (.cells #[.slice none 0 0, .int .i64 0] 83)).trans (b9.mono (by have := bb.size; simp; omega))⟩

end Go.Proofs.Ytpnagblbhlglhaa
