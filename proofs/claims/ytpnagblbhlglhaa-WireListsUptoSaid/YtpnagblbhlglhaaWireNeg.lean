/- wire.Reader.Bytes below zero; a list's numbers, plainly. Conditions: those that each states. -/
import Derived.Test.YtpnagblbhlglhaaWireRef3
namespace Go.Proofs.Ytpnagblbhlglhaa
open Go.RowKit

section
variable (w : World) (r : Nat) (A : Addr) (c : Nat) (bs : List Nat) (at_ : Nat) (M : Int) (hM : M < 0) (h : RdI w r A c bs at_)
theorem count_neg (hM : M < 0) (w : World) (r : Nat) : Calls Try.prog 72 #[.pointer (some ⟨r, 0, none⟩), .int .i64 M] w fun e w' => e = .returned (.tuple #[.int .i64 0, .int .i64 2]) ∧ w = w' := by
  go_enter Try.func72, Try.ntmps72
  go_wp2
  go_ret2
  exact ⟨rfl, rfl⟩
include hM h
set_option maxHeartbeats 1000000 in
set_option maxRecDepth 100000 in
theorem rdbytes_neg : Calls Try.prog 37 #[.pointer (some ⟨r, 0, none⟩), .int .i64 M] w fun e w' => e = .returned (.tuple #[.slice none 0 0, .int .i64 2]) ∧ RdI w' r A c bs at_ ∧ Fr (fun k => k = r) w w' := by
  have c1 : w.cell? ⟨r, 1, none⟩ = some (.int .i64 at_) := (h.blk.cell 1).trans rfl
  have f1 := h.blk.frozen 1
  have ht := there_any w r A c bs at_ h
  have hc := count_neg M hM w r
  go_enter Try.func37, Try.ntmps37
  go_wp2_with (first
    | (go_at_call 71; refine ht.mono ?_; clear ht; rintro e w' ⟨rfl, rfl⟩)
    | (go_at_call 72; refine hc.mono ?_; clear hc; rintro e w' ⟨rfl, rfl⟩))
  go_ret2
  exact ⟨rfl, h.set_ h.le, Fr.setCell (S := fun k => k = r) (Fr.refl _ w) (p := ⟨r, 1, none⟩) (fun _ => rfl) _⟩
end

/-- n numbers, one behind the other: their values, and how many bytes they take. -/
def numsN : Nat → List Nat → Option (List Nat × Nat)
  | 0, _ => some ([], 0)
  | n + 1, l => match rdNum l with
    | some (v, k) => match numsN n (l.drop k) with
      | some (vs, m) => some (v :: vs, k + m)
      | none => none
    | none => none
theorem numsN_zero (l : List Nat) : numsN 0 l = some ([], 0) := rfl
theorem numsN_none {n : Nat} {l : List Nat} (h : rdNum l = none) : numsN (n + 1) l = none := by simp only [numsN, h]
theorem numsN_some {n v k : Nat} {l : List Nat} (h : rdNum l = some (v, k)) : numsN (n + 1) l = (numsN n (l.drop k)).map (fun p => (v :: p.1, k + p.2)) := by
  simp only [numsN, h]
  cases numsN n (l.drop k) <;> rfl

end Go.Proofs.Ytpnagblbhlglhaa
