/- The document's window: its cells; Mark, Len, Out, Get. Conditions: those that each states. -/
import Derived.Test.YtmdohddiddlpiaaWinMath
import Derived.Test.YtmdohddiddlpiaaProg
import Derived.WalkLawsBesides
import Derived.WalkSpells
import Derived.BigQuiet
import Derived.Outline
import Derived.LoopTactic
import Derived.IntWalk
namespace Go.Proofs.Ytmdohddiddlpiaa
open Go.RowKit

def strsV (l : List ByteArray) : List Value := l.map Value.string
def boolsV (l : List Bool) : List Value := l.map Value.bool
theorem strsV_one (l : List ByteArray) : ∀ u ∈ strsV l, u.oneCell' = true := by
  intro u hu
  obtain ⟨n, _, rfl⟩ := List.mem_map.1 hu
  rfl
theorem boolsV_one (l : List Bool) : ∀ u ∈ boolsV l, u.oneCell' = true := by
  intro u hu
  obtain ⟨n, _, rfl⟩ := List.mem_map.1 hu
  rfl
/-- How many are back, from the first on. -/
def mk : List Bool → Nat
  | true :: r => mk r + 1
  | _ => 0
theorem mk_le (l : List Bool) : mk l ≤ l.length := by
  induction l with
  | nil => exact Nat.le_refl _
  | cons b r ih => cases b <;> simp [mk] <;> omega
theorem mk_true (l : List Bool) : ∀ k, k < mk l → l[k]? = some true := by
  induction l with
  | nil => intro k h; simp [mk] at h
  | cons b r ih =>
    intro k h
    cases b with
    | false => simp [mk] at h
    | true =>
      cases k with
      | zero => rfl
      | succ k => simp [mk] at h; simpa using ih k h
theorem mk_false (l : List Bool) (h : mk l < l.length) : l[mk l]? = some false := by
  induction l with
  | nil => simp at h
  | cons b r ih =>
    cases b with
    | false => rfl
    | true => simp [mk] at h ⊢; exact ih h
/-- The document's window. -/
structure RfW (w : World) (base q : Nat) (A : Option Addr) (c : Nat) (B : Option Addr) (d : Nat) (size : Nat) (th : List ByteArray) (bk : List Bool) : Prop where
  blk : Blk w q 45 #[.int .i64 size, .slice A th.length c, .slice B bk.length d]
  o1 : w.ownsRow base 9 1 (.slice A th.length c) th.length (strsV th)
  o2 : w.ownsRow base 4 1 (.slice B bk.length d) bk.length (boolsV bk)
  len : bk.length = th.length
  few : bk.length ≤ 100000
  sz : size ≤ 64
namespace RfW
variable {w w' : World} {base q : Nat} {A : Option Addr} {c : Nat} {B : Option Addr} {d size : Nat} {th : List ByteArray} {bk : List Bool}
theorem c0 (h : RfW w base q A c B d size th bk) : w.cell? ⟨q, 0, none⟩ = some (.int .i64 size) := (h.blk.cell 0).trans rfl
theorem c1 (h : RfW w base q A c B d size th bk) : w.cell? ⟨q, 1, none⟩ = some (.slice A th.length c) := (h.blk.cell 1).trans rfl
theorem c2 (h : RfW w base q A c B d size th bk) : w.cell? ⟨q, 2, none⟩ = some (.slice B bk.length d) := (h.blk.cell 2).trans rfl
theorem fr {S : Nat → Prop} (h : RfW w base q A c B d size th bk) (hf : Fr S w w') (h1 : ¬ S q) (h2 : ∀ k, blkOf A = some k → ¬ S k) (h3 : ∀ k, blkOf B = some k → ¬ S k) : RfW w' base q A c B d size th bk :=
  ⟨h.blk.fr hf h1, own_fr h.o1 hf (fun k hk => h2 k (by rw [ownBlock_slice] at hk; exact hk)), own_fr h.o2 hf (fun k hk => h3 k (by rw [ownBlock_slice] at hk; exact hk)), h.len, h.few, h.sz⟩
theorem new (h : RfW w base q A c B d size th bk) (hb : Below w.heap.size w w') : RfW w' base q A c B d size th bk :=
  h.fr (S := noB) (Fr.of_new hb) (fun h => h) (fun _ _ h => h) (fun _ _ h => h)
/-- A place of the second row. -/
theorem at2 (h : RfW w base q A c B d size th bk) {k : Nat} {b : Bool} (hb : bk[k]? = some b) : ∃ g, B = some ⟨g, 0, none⟩ ∧ w.cell? ⟨g, k, none⟩ = some (.bool b) ∧ w.frozen? ⟨g, k, none⟩ = false := by
  have hk : k < bk.length := (List.getElem?_eq_some_iff.1 hb).1
  obtain ⟨g, e, _, _, hc, hf, _⟩ := own_open h.o2 (by omega)
  exact ⟨g, e, hc k _ (by rw [boolsV, List.getElem?_map, hb]; rfl), hf k⟩
theorem at1 (h : RfW w base q A c B d size th bk) {k : Nat} {b : ByteArray} (hb : th[k]? = some b) : ∃ g, A = some ⟨g, 0, none⟩ ∧ w.cell? ⟨g, k, none⟩ = some (.string b) ∧ w.frozen? ⟨g, k, none⟩ = false := by
  have hk : k < th.length := (List.getElem?_eq_some_iff.1 hb).1
  obtain ⟨g, e, _, _, hc, hf, _⟩ := own_open h.o1 (by omega)
  exact ⟨g, e, hc k _ (by rw [strsV, List.getElem?_map, hb]; rfl), hf k⟩
end RfW

/-- How many are out. -/
def nOut (l : List Bool) : Nat := (l.filter (fun b => !b)).length
theorem nOut_step (l : List Bool) (k : Nat) (b : Bool) (hb : l[k]? = some b) : nOut (l.take (k + 1)) = nOut (l.take k) + (if b = true then 0 else 1) := by
  obtain ⟨hk, e⟩ := List.getElem?_eq_some_iff.1 hb
  rw [nOut, List.take_succ_eq_append_getElem hk, e, List.filter_append, List.length_append]
  cases b <;> rfl

section
variable (w : World) (base q : Nat) (A : Option Addr) (c : Nat) (B : Option Addr) (d size : Nat) (th : List ByteArray) (bk : List Bool) (h : RfW w base q A c B d size th bk)
include h

theorem rMark : Calls Try.prog 20 #[.pointer (some ⟨q, 0, none⟩)] w fun e w' => e = .returned (.int .i64 (mk bk)) ∧ w = w' := by
  have c2 := h.c2
  have hle := mk_le bk
  have hfew := h.few
  have ht := mk_true bk
  have hf := mk_false bk
  obtain ⟨M, hM⟩ : ∃ M, mk bk = M := ⟨_, rfl⟩
  rw [hM] at hle ht hf ⊢
  have HT := Lib.hid ht
  have HF := Lib.hid hf
  clear hM ht hf
  go_enter Try.func20, Try.ntmps20
  go_wp2
  go_loop [3] (fun nv => ∃ k : Nat, k ≤ M ∧ nv = .int .i64 k) (fun nv => M - (intOf nv).toNat)
  case atStart => exact ⟨0, by omega, rfl⟩
  case round =>
    obtain ⟨k, hk, rfl⟩ := hrel
    have x0 : (0 : Int) ≤ (k : Int) := by omega
    by_cases hlt : k < M
    · obtain ⟨g, rfl, hc, _⟩ := h.at2 (HT.out k hlt)
      have x1 : (k : Int) < (bk.length : Int) := by omega
      clear h
      go_wp2
      go_round
      case rel => exact ⟨k + 1, by omega, by go_num⟩
      case measure => simp [intOf]; omega
    · obtain rfl : k = M := by omega
      by_cases hlt2 : k < bk.length
      · obtain ⟨g, rfl, hc, _⟩ := h.at2 (HF.out hlt2)
        have x1 : (k : Int) < (bk.length : Int) := by omega
        clear h
        go_wp2
        go_ret
        exact ⟨rfl, rfl⟩
      · have x1 : ¬ (k : Int) < (bk.length : Int) := by omega
        clear h
        go_wp2
        go_ret
        exact ⟨rfl, rfl⟩

theorem rLen : Calls Try.prog 23 #[.pointer (some ⟨q, 0, none⟩)] w fun e w' => e = .returned (.int .i64 (nOut bk)) ∧ w = w' := by
  have c2 := h.c2
  have hfew := h.few
  go_enter Try.func23, Try.ntmps23
  go_wp2
  go_loop [3, 4] (fun nv iv => ∃ k y : Nat, k ≤ bk.length ∧ y ≤ k ∧ iv = .int .i64 k ∧ nv = .int .i64 y ∧ Hid (y = nOut (bk.take k))) (fun _ iv => bk.length - (intOf iv).toNat)
  case atStart => exact ⟨0, 0, by omega, by omega, rfl, rfl, Lib.hid rfl⟩
  case round =>
    obtain ⟨k, y, hk, hyk, rfl, rfl, hy⟩ := hrel
    have x0 : (0 : Int) ≤ (k : Int) := by omega
    by_cases hlt : k < bk.length
    · obtain ⟨b, hb⟩ : ∃ b, bk[k]? = some b := ⟨bk[k], List.getElem?_eq_getElem hlt⟩
      have hst := nOut_step bk k b hb
      obtain ⟨g, rfl, hc, _⟩ := h.at2 hb
      have x1 : (k : Int) < (bk.length : Int) := by omega
      have HS := Lib.hid hst
      clear h hst hb
      cases b with
      | true =>
        go_wp2
        go_round
        case rel => exact ⟨k + 1, y, by omega, by omega, by go_num, rfl, Lib.hid (by rw [HS.out, hy.out]; rfl)⟩
        case measure => simp [intOf]; omega
      | false =>
        go_wp2
        go_round
        case rel => exact ⟨k + 1, y + 1, by omega, by omega, by go_num, by go_num, Lib.hid (by rw [HS.out, hy.out]; rfl)⟩
        case measure => simp [intOf]; omega
    · have x1 : ¬ (k : Int) < (bk.length : Int) := by omega
      have hyy := hy.out
      rw [List.take_of_length_le (by omega)] at hyy
      subst hyy
      go_wp2
      go_ret
      exact ⟨rfl, rfl⟩
end
end Go.Proofs.Ytmdohddiddlpiaa
