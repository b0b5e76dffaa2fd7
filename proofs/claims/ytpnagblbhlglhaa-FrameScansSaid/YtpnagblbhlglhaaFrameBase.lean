/- wicket/frame and the document's: check, header, Size, word. Conditions: those that each states. -/
import Derived.Test.YtpnagblbhlglhaaCrcSum
import Derived.Test.YtpnagblbhlglhaaWireForms
namespace Go.Proofs.Ytpnagblbhlglhaa
open Go.RowKit

/-- Four bytes, the highest first. -/
def word4 (n : Nat) : List Nat := [n / 16777216 % 256, n / 65536 % 256, n / 256 % 256, n % 256]
theorem word4_small (n : Nat) : Small (word4 n) := fun c hc => by
  simp [word4] at hc
  omega
/-- What stands ahead of a body, without the sum. -/
def headN (k n : Nat) : List Nat := k :: word4 n
/-- A frame. -/
def frameN (k : Nat) (b : List Nat) : List Nat := headN k b.length ++ word4 (crcSum (headN k b.length ++ b)) ++ b
theorem frameN_len (k : Nat) (b : List Nat) : (frameN k b).length = 9 + b.length := by simp [frameN, headN, word4]; omega

theorem check_any (w : World) (k : Int) (A : Option Addr) (n c : Nat) : Calls Try.prog 83 #[.int .i64 k, .slice A n c] w fun e w' => e = .returned (.int .i64 (if k < 0 ∨ 255 < k then 2 else if 2147483647 < n then 3 else 0)) ∧ w = w' := by
  by_cases h1 : k < 0
  · rw [if_pos (.inl h1)]
    go_enter Try.func83, Try.ntmps83
    go_wp2
    go_ret
    exact ⟨rfl, rfl⟩
  by_cases h2 : 255 < k
  · rw [if_pos (.inr h2)]
    go_enter Try.func83, Try.ntmps83
    go_wp2
    go_ret
    exact ⟨rfl, rfl⟩
  rw [if_neg (by omega)]
  by_cases h3 : 2147483647 < n
  · rw [if_pos h3]
    have h3' : (2147483647 : Int) < (n : Int) := by omega
    go_enter Try.func83, Try.ntmps83
    go_wp2
    go_ret
    exact ⟨rfl, rfl⟩
  · rw [if_neg h3]
    have h3' : ¬ (2147483647 : Int) < (n : Int) := by omega
    go_enter Try.func83, Try.ntmps83
    go_wp2
    go_ret
    exact ⟨rfl, rfl⟩

theorem size_any (w : World) (A : Option Addr) (n c : Nat) (hn : n ≤ 140737488355328) : Calls Try.prog 61 #[.slice A n c] w fun e w' => e = .returned (.int .i64 (9 + n : Nat)) ∧ w = w' := by
  have u : IntKind.i64.wrap (9 + (n : Int)) = ((9 + n : Nat) : Int) := by rw [IntWalk.i64_in _ (by omega)]; omega
  go_enter Try.func61, Try.ntmps61
  go_wp2
  go_ret
  exact ⟨rfl, rfl⟩

theorem word4_cells (n : Nat) (hn : n < 4294967296) : (#[Value.int .u8 ((n : Int) / 16777216), .int .u8 ((n : Int) / 65536 % 256), .int .u8 ((n : Int) / 256 % 256), .int .u8 ((n : Int) % 256)] : Array Value) = (byts (word4 n)).toArray := by
  have e1 : (n : Int) / 16777216 = ((n / 16777216 % 256 : Nat) : Int) := by omega
  have e2 : (n : Int) / 65536 % 256 = ((n / 65536 % 256 : Nat) : Int) := by omega
  have e3 : (n : Int) / 256 % 256 = ((n / 256 % 256 : Nat) : Int) := by omega
  have e4 : (n : Int) % 256 = ((n % 256 : Nat) : Int) := by omega
  rw [e1, e2, e3, e4]
  rfl
theorem head_cells (k n : Nat) (hn : n < 4294967296) : (#[Value.int .u8 k, .int .u8 ((n : Int) / 16777216), .int .u8 ((n : Int) / 65536 % 256), .int .u8 ((n : Int) / 256 % 256), .int .u8 ((n : Int) % 256)] : Array Value) = (byts (headN k n)).toArray := by
  have h := congrArg Array.toList (word4_cells n hn)
  apply Array.ext'
  show Value.int .u8 k :: _ = Value.int .u8 (k : Nat) :: byts (word4 n)
  rw [← show (byts (word4 n)).toArray.toList = byts (word4 n) from rfl, ← h]
theorem header_any (w : World) (k n : Nat) (hk : k < 256) (hn : n < 4294967296) : Calls Try.prog 84 #[.int .i64 k, .int .i64 n] w fun e w' => e = .returned (.agg (byts (headN k n)).toArray) ∧ Below w.heap.size w w' := by
  go_enter Try.func84, Try.ntmps84
  go_wp2
  rw [head_cells k n hn]
  refine bodyPost_ret (results_cell_row rfl _ _ w.heap.size 139 (byts (headN k n)).toArray (0, 0) _ rfl (Blk.new w 139 _) Try.underlying139 rfl (by rw [List.size_toArray, byts_length]; kernel_rfl)) rfl ?_
  exact ⟨rfl, (Below.refl _ w).alloc (Nat.le_refl _) _⟩
theorem word_any (w : World) (n : Nat) (hn : n < 4294967296) : Calls Try.prog 85 #[.int .u32 n] w fun e w' => e = .returned (.slice (some ⟨w.heap.size, 0, none⟩) 4 4) ∧ w' = w.alloc (.cells (byts (word4 n)).toArray 5) := by
  go_enter Try.func85, Try.ntmps85
  go_wp2
  go_ret
  exact ⟨rfl, by rw [word4_cells n hn]⟩
end Go.Proofs.Ytpnagblbhlglhaa
