/- The document's Begin: the frame with which bytes begin. Conditions: those that it states. -/
import Derived.Test.YtpnagblbhlglhaaFrameRefBegin2
import Derived.Test.YtpnagblbhlglhaaFrameRefBegin3
namespace Go.Proofs.Ytpnagblbhlglhaa
open Go.RowKit
theorem refBegin_any (w : World) (B : Nat) (A : Option Addr) (n c : Nat) (b : List Nat) (h : Reads w B 1 A n (byts b)) (hs : Small b) (hB : B ≤ w.heap.size) (hn : n ≤ 100000) (hc : n ≤ c) :
    Calls Try.prog 80 #[.slice A n c] w (BegPost w b) := by
  by_cases hc9 : c = 9
  · exact refBegin_nine w B A n c b h hs hB hn hc hc9
  · exact refBegin_more w B A n c b h hs hB hn hc hc9
end Go.Proofs.Ytpnagblbhlglhaa
