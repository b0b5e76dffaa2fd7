/- What lasts: the plain law of a disk. Conditions: none. -/
import Derived.Test.YtapgcglpkilofaaDiskSee2
namespace Go.Proofs.Ytapgcglpkilofaa
open Go.RowKit
namespace DS
variable {s : DS}
theorem stop_len (ok : s.Ok) (keep : Int) : (s.stopS keep).log.length = s.left keep := by
  show (s.log.take (s.left keep)).length = _
  rw [List.length_take]
  have := left_le ok keep
  omega
theorem stop_left (ok : s.Ok) (keep : Int) : (s.stopS keep).left keep = s.left keep := by
  unfold left
  show (s.stopS keep).sure + min keep.toNat ((s.stopS keep).log.length - (s.stopS keep).sure) = _
  rw [stop_len ok keep]
  show s.left keep + min keep.toNat (s.left keep - s.left keep) = s.left keep
  omega
/-- What a stop made stops to itself. -/
theorem stop_stop (ok : s.Ok) (keep : Int) : ((s.stopS keep).stopS keep).log = (s.stopS keep).log := by
  show (s.log.take (s.left keep)).take ((s.stopS keep).left keep) = s.log.take (s.left keep)
  rw [stop_left ok keep, List.take_take, Nat.min_self]
/-- A snapshot that is put is not the last one. -/
theorem snap_put (s : DS) (b : List Nat) : (s.putS b).snapV = s.snapV := by
  unfold putS
  by_cases h : s.last = 0
  · rw [if_pos h]
    show (if s.last < 0 then ([], false) else (if s.last = 0 then s.d0 else b, true)) = (if s.last < 0 then ([], false) else (if s.last = 0 then s.d0 else s.d1, true))
    rw [if_pos h, if_pos h]
  · rw [if_neg h]
    show (if s.last < 0 then ([], false) else (if s.last = 0 then b else s.d1, true)) = (if s.last < 0 then ([], false) else (if s.last = 0 then s.d0 else s.d1, true))
    rw [if_neg h, if_neg h]
theorem put_log (s : DS) (b : List Nat) : (s.putS b).log = s.log := by
  unfold putS
  split <;> rfl
/-- Behind a Sync each stop has all. -/
theorem sync_stop (s : DS) (keep : Int) : (s.syncS.stopS keep).log = s.log := by
  show s.log.take (s.log.length + min keep.toNat (s.log.length - s.log.length)) = s.log
  exact List.take_of_length_le (by omega)
end DS
end Go.Proofs.Ytapgcglpkilofaa
