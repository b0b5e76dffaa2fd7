/- wire.Reader: open, there, Left, End, Number, Signed, count, Bytes, Flag. Conditions: those that each states. -/
import Derived.Test.YtpnagblbhlglhaaWireForms
import Derived.Deep.CutRange
import Derived.Deep.CutBlock
namespace Go.Proofs.Ytpnagblbhlglhaa
open Go.RowKit

/-! ### The plain law of reading a number -/
/-- From digit i on, with n read. -/
def rdN (i n : Nat) : List Nat → Option (Nat × Nat)
  | [] => none
  | c :: r => if (i = 9 ∧ 1 < c) ∨ (0 < i ∧ c = 0) then none else if c < 128 then some (n + c % 128 * 2 ^ (7 * i), i + 1) else rdN (i + 1) (n + c % 128 * 2 ^ (7 * i)) r
def rdNum (l : List Nat) : Option (Nat × Nat) := rdN 0 0 l

/-- A reader: its bytes lie in a row that is not nil. -/
structure RdI (w : World) (r : Nat) (A : Addr) (c : Nat) (bs : List Nat) (at_ : Nat) : Prop where
  blk : Blk w r 83 #[.slice (some A) bs.length c, .int .i64 at_]
  reads : Reads w w.heap.size 1 (some A) bs.length (byts bs)
  small : Small bs
  le : at_ ≤ bs.length
  cap : bs.length < c
  ne : A.block ≠ r
  len : bs.length ≤ 140737488355328
theorem RdI.drewN {w : World} {r : Nat} {A : Addr} {c : Nat} {bs : List Nat} {a : Nat} (h : RdI w r A c bs a) (m : Nat) : RdI (w.drewN m) r A c bs a :=
  ⟨h.blk.drewN m, h.reads.drewN m, h.small, h.le, h.cap, h.ne, h.len⟩
theorem RdI.lt {w : World} {r : Nat} {A : Addr} {c : Nat} {bs : List Nat} {a : Nat} (h : RdI w r A c bs a) : r < w.heap.size := h.blk.lt
/-- What turns neither the reader nor its bytes. -/
theorem RdI.fr {S : Nat → Prop} {w w' : World} {r : Nat} {A : Addr} {c : Nat} {bs : List Nat} {a : Nat} (h : RdI w r A c bs a) (hf : Fr S w w') (h1 : ¬ S r) (h2 : ¬ S A.block) : RdI w' r A c bs a :=
  ⟨h.blk.fr hf h1, (h.reads.fr hf (Nat.le_refl _) (fun k hk => by cases hk; exact h2)).more hf.size, h.small, h.le, h.cap, h.ne, h.len⟩
theorem RdI.set_ {w : World} {r : Nat} {A : Addr} {c : Nat} {bs : List Nat} {a : Nat} (h : RdI w r A c bs a) {a' : Nat} (ha : a' ≤ bs.length) : RdI (w.setCell ⟨r, 1, none⟩ (.int .i64 a')) r A c bs a' :=
  ⟨by simpa using h.blk.set_ 1 (.int .i64 a'), by
    have := h.reads.fr (Fr.setCell (S := fun k => k = r) (Fr.refl _ w) (p := ⟨r, 1, none⟩) (fun _ => rfl) (.int .i64 a')) (Nat.le_refl _) (fun k hk => by cases hk; exact h.ne)
    exact this.more (by simp [World.setCell]), h.small, ha, h.cap, h.ne, h.len⟩

section
variable (w : World) (r : Nat) (A : Addr) (c : Nat) (bs : List Nat) (at_ : Nat) (h : RdI w r A c bs at_)
include h

theorem there_any : Calls Try.prog 71 #[.pointer (some ⟨r, 0, none⟩)] w fun e w' => e = .returned (.bool true) ∧ w = w' := by
  have c0 : w.cell? ⟨r, 0, none⟩ = some (.slice (some A) bs.length c) := (h.blk.cell 0).trans rfl
  go_enter Try.func71, Try.ntmps71
  go_wp2
  go_ret
  exact ⟨rfl, rfl⟩

theorem left_any : Calls Try.prog 41 #[.pointer (some ⟨r, 0, none⟩)] w fun e w' => e = .returned (.int .i64 (bs.length - at_ : Nat)) ∧ ∃ m, w' = w.drewN m := by
  have c0 : w.cell? ⟨r, 0, none⟩ = some (.slice (some A) bs.length c) := (h.blk.cell 0).trans rfl
  have c1 : w.cell? ⟨r, 1, none⟩ = some (.int .i64 at_) := (h.blk.cell 1).trans rfl
  have hle := h.le
  have hlen := h.len
  have u1 : IntKind.i64.wrap ((bs.length : Int) - (at_ : Int)) = ((bs.length - at_ : Nat) : Int) := by rw [IntWalk.i64_in _ (by omega)]; omega
  have ht := there_any w r A c bs at_ h
  go_enter Try.func41, Try.ntmps41
  go_wp2_with (go_at_call 71; refine ht.mono ?_; clear ht; rintro e w' ⟨rfl, rfl⟩)
  go_quiet (fail)
  go_wp2
  go_ret
  exact ⟨rfl, _, rfl⟩

theorem end_any : Calls Try.prog 40 #[.pointer (some ⟨r, 0, none⟩)] w fun e w' => e = .returned (.int .i64 (if at_ < bs.length then 4 else 0)) ∧ ∃ m, w' = w.drewN m := by
  have ht := there_any w r A c bs at_ h
  have hl := left_any w r A c bs at_ h
  by_cases hlt : at_ < bs.length
  · have u1 : (0 : Int) < ((bs.length - at_ : Nat) : Int) := by omega
    obtain ⟨z, hz⟩ : ∃ z, bs.length - at_ = z := ⟨_, rfl⟩
    rw [hz] at hl u1
    rw [if_pos hlt]
    go_enter Try.func40, Try.ntmps40
    go_wp2_with (first | (go_at_call 71; refine ht.mono ?_; clear ht; rintro e w' ⟨rfl, rfl⟩) | (go_at_call 41; refine hl.mono ?_; clear hl; rintro e w' ⟨rfl, m, rfl⟩))
    go_ret
    exact ⟨rfl, _, rfl⟩
  · have u1 : bs.length - at_ = 0 := by omega
    rw [u1] at hl
    rw [if_neg hlt]
    go_enter Try.func40, Try.ntmps40
    go_wp2_with (first | (go_at_call 71; refine ht.mono ?_; clear ht; rintro e w' ⟨rfl, rfl⟩) | (go_at_call 41; refine hl.mono ?_; clear hl; rintro e w' ⟨rfl, m, rfl⟩))
    go_ret
    exact ⟨rfl, _, rfl⟩
end

end Go.Proofs.Ytpnagblbhlglhaa
