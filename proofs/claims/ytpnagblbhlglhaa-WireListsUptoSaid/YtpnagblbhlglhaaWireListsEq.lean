/- Two arrays of two words compared. Conditions: none. -/
import Derived.Test.YtpnagblbhlglhaaWirePut
import Derived.ChangeKeysEq
namespace Go.Proofs.Ytpnagblbhlglhaa
open Go.RowKit

theorem word_eq (W : World) (d : Nat) (a : Int) : (Op.equalIn (d + 1) 35 (.int .u64 a) (.int .u64 a)).run Try.prog W = .ok true W := by
  have h35 : Try.prog.underlying 35 = some (.int .u64) := by kernel_rfl
  simp [Op.equalIn, run_underlying h35]
theorem part_w (W : World) (cs : Array Value) (i : Nat) (v : Value) (h : cs[i]? = some v) : (part 35 cs i).run Try.prog W = .ok v W := by
  have h35 : Try.prog.underlying 35 = some (.int .u64) := by kernel_rfl
  simp [part, isAgg, run_underlying h35, h]
theorem pair_eqIn (W : World) (d : Nat) (a b : Int) : (Op.equalIn (d + 2) 61 (.agg #[.int .u64 a, .int .u64 b]) (.agg #[.int .u64 a, .int .u64 b])).run Try.prog W = .ok true W := by
  obtain ⟨i0, hi, _, _, _⟩ := info_parts Try.info35w
  have hc : Try.prog.cellsOf 35 = 1 := by kernel_rfl
  have h61 : Try.prog.underlying 61 = some (.array 2 35) := by kernel_rfl
  rw [run_equalIn_array (P := Try.prog) W (d + 1) _ _ h61 hi, hc]
  have p0 := part_w W #[.int .u64 a, .int .u64 b] 0 _ rfl
  have p1 := part_w W #[.int .u64 a, .int .u64 b] 1 _ rfl
  simp only [List.range_succ, List.range_zero, List.nil_append, List.cons_append, Op.eqItems, Sem.run_bind, Nat.mul_one, p0, p1, Result.andThen_ok, word_eq, if_true, Bool.not_true]
  simp [word_eq, p1]
theorem pair_neq (W : World) (a b : Int) : (binOp .neq 61 (.agg #[.int .u64 a, .int .u64 b]) (.agg #[.int .u64 a, .int .u64 b])).run Try.prog W = .ok (.bool false) W := by
  simp only [binOp]
  simp [Op.equal, Op.maxDepth, pair_eqIn W 9998 a b]
end Go.Proofs.Ytpnagblbhlglhaa
