/- frame.walk itself. Conditions: those that each states. -/
import Derived.Test.YtpnagblbhlglhaaFrameWalk
namespace Go.Proofs.Ytpnagblbhlglhaa
open Go.RowKit Go.Shelf

set_option maxHeartbeats 1000000 in
set_option maxRecDepth 100000 in
theorem walk_any (w : World) (A : Option Addr) (n c : Nat) (p : Option Addr) :
    Calls Try.prog 79 #[.slice A n c, .pointer p] w fun e w' => e = .returned (.func (.func 90) #[] #[.pointer (some ⟨w.heap.size, 0, none⟩), .pointer (some ⟨w.heap.size + 1, 0, none⟩)]) ∧ w' = (w.alloc (.cells #[.slice A n c] 24)).alloc (.cells #[.pointer p] 132) := by
  go_enter Try.func79, Try.ntmps79
  go_wp2
  refine bodyPost_ret (results_tmp rfl _ _ _) rfl ⟨?_, rfl⟩
  simp
end Go.Proofs.Ytpnagblbhlglhaa
