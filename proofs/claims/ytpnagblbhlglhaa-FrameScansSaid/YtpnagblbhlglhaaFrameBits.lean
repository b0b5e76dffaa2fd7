/- Four bytes put together as a number. Conditions: those that each states. -/
import Derived.Test.YtpnagblbhlglhaaFrameRefPut
import Derived.Laws.BitsAllLaws
namespace Go.Proofs.Ytpnagblbhlglhaa
open Go.RowKit

/-- Four bytes as a number. -/
def num4 (a b c d : Nat) : Nat := a * 16777216 + b * 65536 + c * 256 + d
theorem i64_or_nat (a b : Nat) (ha : a < 4294967296) (hb : b < 4294967296) : bits .or .i64 (a : Int) (b : Int) = ((a ||| b : Nat) : Int) := by
  have hx : a ||| b < 2 ^ 32 := Nat.or_lt_two_pow (by omega) (by omega)
  show IntKind.i64.wrap ((BitVec.ofInt 64 (a : Int) ||| BitVec.ofInt 64 (b : Int)).toNat : Int) = _
  rw [BitVec.toNat_or, ofInt_u64 a (by omega), ofInt_u64 b (by omega), IntWalk.i64_in _ (by omega)]
theorem or4 (a b c d : Nat) (hb : b < 256) (hc : c < 256) (hd : d < 256) : ((a * 16777216 ||| b * 65536) ||| c * 256) ||| d = num4 a b c d := by
  rw [nat_join 24 (a * 16777216) (b * 65536) (by omega) (by omega), nat_join 16 _ (c * 256) (by omega) (by omega), nat_join 8 _ d (by omega) (by omega)]
  rfl
theorem or4_i64 (a b c d : Nat) (ha : a < 256) (hb : b < 256) (hc : c < 256) (hd : d < 256) :
    bits .or .i64 (bits .or .i64 (bits .or .i64 ((a : Int) * 16777216) ((b : Int) * 65536)) ((c : Int) * 256)) (d : Int) = ((num4 a b c d : Nat) : Int) := by
  have h1 : a * 16777216 ||| b * 65536 < 2 ^ 32 := Nat.or_lt_two_pow (by omega) (by omega)
  have h2 : (a * 16777216 ||| b * 65536) ||| c * 256 < 2 ^ 32 := Nat.or_lt_two_pow h1 (by omega)
  rw [← or4 a b c d hb hc hd, show (a : Int) * 16777216 = ((a * 16777216 : Nat) : Int) by simp, show (b : Int) * 65536 = ((b * 65536 : Nat) : Int) by simp, show (c : Int) * 256 = ((c * 256 : Nat) : Int) by simp,
    i64_or_nat _ _ (by omega) (by omega), i64_or_nat _ _ (by omega) (by omega), i64_or_nat _ _ (by omega) (by omega)]
theorem or4_u32 (a b c d : Nat) (ha : a < 256) (hb : b < 256) (hc : c < 256) (hd : d < 256) :
    bits .or .u32 (bits .or .u32 (bits .or .u32 ((a : Int) * 16777216) ((b : Int) * 65536)) ((c : Int) * 256)) (d : Int) = ((num4 a b c d : Nat) : Int) := by
  have h1 : a * 16777216 ||| b * 65536 < 2 ^ 32 := Nat.or_lt_two_pow (by omega) (by omega)
  have h2 : (a * 16777216 ||| b * 65536) ||| c * 256 < 2 ^ 32 := Nat.or_lt_two_pow h1 (by omega)
  rw [← or4 a b c d hb hc hd, show (a : Int) * 16777216 = ((a * 16777216 : Nat) : Int) by simp, show (b : Int) * 65536 = ((b * 65536 : Nat) : Int) by simp, show (c : Int) * 256 = ((c * 256 : Nat) : Int) by simp,
    u32_or_nat _ _ (by omega) (by omega), u32_or_nat _ _ (by omega) (by omega), u32_or_nat _ _ (by omega) (by omega)]
theorem num4_lt (a b c d : Nat) (ha : a < 256) (hb : b < 256) (hc : c < 256) (hd : d < 256) : num4 a b c d < 4294967296 := by unfold num4; omega
/-- There and back. -/
theorem word4_num4 (a b c d : Nat) (ha : a < 256) (hb : b < 256) (hc : c < 256) (hd : d < 256) : word4 (num4 a b c d) = [a, b, c, d] := by
  unfold word4 num4
  congr 1
  · omega
  · congr 1
    · omega
    · congr 1
      · omega
      · congr 1
        omega
theorem num4_word4 (n : Nat) (hn : n < 4294967296) : num4 (n / 16777216 % 256) (n / 65536 % 256) (n / 256 % 256) (n % 256) = n := by
  unfold num4
  omega
end Go.Proofs.Ytpnagblbhlglhaa
