/- The document's Same, of frames that are alike. Conditions: those that each states. -/
import Derived.Test.YtpnagblbhlglhaaFrameRefPut
namespace Go.Proofs.Ytpnagblbhlglhaa
open Go.RowKit

set_option maxRecDepth 100000 in
theorem same_any (w : World) (k : Int) (A1 A2 : Option Addr) (n c1 c2 : Nat) (b : List Nat) (h1 : Reads w w.heap.size 1 A1 n (byts b)) (h2 : Reads w w.heap.size 1 A2 n (byts b)) (hs : Small b) :
    Calls Try.prog 57 #[.agg #[.int .i64 k, .slice A1 n c1], .agg #[.int .i64 k, .slice A2 n c2]] w fun e w' => e = .returned (.bool true) ∧ Below w.heap.size w w' := by
  have hb : Below w.heap.size w ((w.alloc (.cells #[.int .i64 k, .slice A1 n c1] 94)).alloc (.cells #[.int .i64 k, .slice A2 n c2] 94)) := ((Below.refl _ w).alloc (Nat.le_refl _) _).alloc (by simp) _
  have t1 := run_str (P := Try.prog) (src := 24) (dst := 9) (c := c1) rfl rfl rfl (h1.below hb) hs
  have t2 := run_str (P := Try.prog) (src := 24) (dst := 9) (c := c2) rfl rfl rfl (h2.below hb) hs
  generalize strN b = X at *
  have HB := Lib.hid hb
  clear hb h1 h2
  go_enter Try.func57, Try.ntmps57
  go_wp2
  go_ret
  exact ⟨rfl, HB.out⟩
end Go.Proofs.Ytpnagblbhlglhaa
