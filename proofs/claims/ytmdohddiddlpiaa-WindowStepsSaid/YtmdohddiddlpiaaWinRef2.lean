/- The document's window: Out, Get, Set, Back, Give, Copy. Conditions: those that each states. -/
import Derived.Test.YtmdohddiddlpiaaWinRef
import Derived.Deep.RegionHeldLaw
namespace Go.Proofs.Ytmdohddiddlpiaa
open Go.RowKit

/-- A number is out. -/
def OutB (bk : List Bool) (z : Int) : Prop := 1 ≤ z ∧ bk[z.toNat - 1]? = some false
/-- The blocks of the document's window. -/
def ftR (q : Nat) (A B : Option Addr) : Nat → Prop := fun k => k = q ∨ blkOf A = some k ∨ blkOf B = some k

section
variable (w : World) (base q : Nat) (A : Option Addr) (c : Nat) (B : Option Addr) (d size : Nat) (th : List ByteArray) (bk : List Bool) (h : RfW w base q A c B d size th bk)
include h

theorem rOutNo (z : Int) (hz : ¬ OutB bk z) : Calls Try.prog 43 #[.pointer (some ⟨q, 0, none⟩), .int .i64 z] w fun e w' => e = .returned (.bool false) ∧ w = w' := by
  have c1 := h.c1
  have hlen := h.len
  have hfew := h.few
  by_cases h1 : z < 1
  · have q1 : ¬ 1 ≤ z := by omega
    go_enter Try.func43, Try.ntmps43
    go_wp2
    go_ret
    exact ⟨rfl, rfl⟩
  · have q1 : 1 ≤ z := by omega
    obtain ⟨j, rfl⟩ : ∃ j : Nat, z = (j : Int) + 1 := ⟨(z - 1).toNat, by omega⟩
    obtain ⟨n, hn⟩ : ∃ n, th.length = n := ⟨_, rfl⟩
    rw [hn] at c1 hlen
    by_cases h2 : j < n
    · have q2 : (j : Int) + 1 ≤ (n : Int) := by omega
      have hb : bk[j]? = some true := by
        obtain ⟨b, hb⟩ : ∃ b, bk[j]? = some b := ⟨bk[j]'(by omega), List.getElem?_eq_getElem (by omega)⟩
        cases b with
        | true => exact hb
        | false => exact absurd ⟨q1, by rw [show ((j : Int) + 1).toNat - 1 = j by omega]; exact hb⟩ hz
      obtain ⟨g, rfl, hc, _⟩ := h.at2 hb
      have c2 := h.c2
      have q3 : (0 : Int) ≤ (j : Int) := by omega
      have q4 : (j : Int) < (bk.length : Int) := by omega
      clear h hz hn hlen hb
      go_enter Try.func43, Try.ntmps43
      go_wp2
      go_ret
      exact ⟨rfl, rfl⟩
    · have q2 : ¬ (j : Int) + 1 ≤ (n : Int) := by omega
      clear h hz hn hlen
      go_enter Try.func43, Try.ntmps43
      go_wp2
      go_ret
      exact ⟨rfl, rfl⟩

theorem rOutYes (j : Nat) (hb : bk[j]? = some false) : Calls Try.prog 43 #[.pointer (some ⟨q, 0, none⟩), .int .i64 ((j : Int) + 1)] w fun e w' => e = .returned (.bool true) ∧ w = w' := by
  have c1 := h.c1
  have c2 := h.c2
  have hlen := h.len
  have hfew := h.few
  have hj := (List.getElem?_eq_some_iff.1 hb).1
  obtain ⟨n, hn⟩ : ∃ n, th.length = n := ⟨_, rfl⟩
  rw [hn] at c1 hlen
  obtain ⟨g, rfl, hc, _⟩ := h.at2 hb
  have q1 : (1 : Int) ≤ (j : Int) + 1 := by omega
  have q2 : (j : Int) + 1 ≤ (n : Int) := by omega
  have q3 : (0 : Int) ≤ (j : Int) := by omega
  have q4 : (j : Int) < (bk.length : Int) := by omega
  have q5 : (j : Int) ≤ 100000 := by omega
  clear h hn hlen hb
  go_enter Try.func43, Try.ntmps43
  go_wp2
  go_ret
  exact ⟨rfl, rfl⟩

theorem rGetNo (z : Int) (hz : ¬ OutB bk z) : Calls Try.prog 38 #[.pointer (some ⟨q, 0, none⟩), .int .i64 z] w fun e w' => e = .returned (.tuple #[.string ⟨#[]⟩, .int .i64 5]) ∧ w = w' := by
  have ho := rOutNo w base q A c B d size th bk h z hz
  clear h hz
  go_enter Try.func38, Try.ntmps38
  go_wp2_with (go_at_call 43; refine ho.mono ?_; clear ho; rintro e w' ⟨rfl, rfl⟩)
  go_ret2
  exact ⟨rfl, rfl⟩

theorem rGetYes (j : Nat) (x : ByteArray) (hb : bk[j]? = some false) (hx : th[j]? = some x) : Calls Try.prog 38 #[.pointer (some ⟨q, 0, none⟩), .int .i64 ((j : Int) + 1)] w fun e w' => e = .returned (.tuple #[.string x, .int .i64 0]) ∧ w = w' := by
  have ho := rOutYes w base q A c B d size th bk h j hb
  have c1 := h.c1
  have hfew := h.few
  have hlen := h.len
  have hj := (List.getElem?_eq_some_iff.1 hx).1
  obtain ⟨g, rfl, hc, _⟩ := h.at1 hx
  have q3 : (0 : Int) ≤ (j : Int) := by omega
  have q4 : (j : Int) < (th.length : Int) := by omega
  have q5 : (j : Int) ≤ 100000 := by omega
  clear h hb hx hlen
  go_enter Try.func38, Try.ntmps38
  go_wp2_with (go_at_call 43; refine ho.mono ?_; clear ho; rintro e w' ⟨rfl, rfl⟩)
  go_ret2
  exact ⟨rfl, rfl⟩

theorem rSetNo (z : Int) (x : ByteArray) (hz : ¬ OutB bk z) : Calls Try.prog 40 #[.pointer (some ⟨q, 0, none⟩), .int .i64 z, .string x] w fun e w' => e = .returned (.int .i64 5) ∧ w = w' := by
  have ho := rOutNo w base q A c B d size th bk h z hz
  clear h hz
  go_enter Try.func40, Try.ntmps40
  go_wp2_with (go_at_call 43; refine ho.mono ?_; clear ho; rintro e w' ⟨rfl, rfl⟩)
  go_ret
  exact ⟨rfl, rfl⟩

theorem rSetYes (j : Nat) (x : ByteArray) (hb : bk[j]? = some false) : Calls Try.prog 40 #[.pointer (some ⟨q, 0, none⟩), .int .i64 ((j : Int) + 1), .string x] w fun e w' => e = .returned (.int .i64 0) ∧
    RfW w' base q A c B d size (th.set j x) bk ∧ Fr (ftR q A B) w w' := by
  have ho := rOutYes w base q A c B d size th bk h j hb
  have c1 := h.c1
  have hfew := h.few
  have hlen := h.len
  have hj2 := (List.getElem?_eq_some_iff.1 hb).1
  have hj : j < th.length := by omega
  obtain ⟨g, rfl, hgb, hgl, hcell, hfr, hset⟩ := own_open h.o1 (by omega)
  have hc := hcell j (.string th[j]) (by simp [strsV, hj])
  have hf := hfr j
  have q3 : (0 : Int) ≤ (j : Int) := by omega
  have q4 : (j : Int) < (th.length : Int) := by omega
  have q5 : (j : Int) ≤ 100000 := by omega
  have hne1 : q ≠ g := by
    rintro rfl
    exact own_blk_ne h.o1 h.blk (by decide) rfl
  have hne2 : (Value.slice B bk.length d).ownBlock ≠ some g := by
    intro e
    obtain ⟨g', cap, hv, hr⟩ : ∃ cs, Blk w g 9 cs ∧ True := by
      rcases h.o1.2 with ⟨h1, _⟩ | ⟨g', cap, cur, hv, _, hh, _⟩
      · injection h1 with h1; cases h1
      · injection hv with h1; injection h1 with h1; injection h1 with h1; subst h1; exact ⟨cur, hh, trivial⟩
    exact own_blk_ne h.o2 cap (by decide) e
  have h2 : RfW (w.setCell ⟨g, j, none⟩ (.string x)) base q (some ⟨g, 0, none⟩) c B d size (th.set j x) bk := by
    refine ⟨by rw [List.length_set]; exact h.blk.far hne1 _, ?_, own_setCell h.o2 hne2 _, by rw [List.length_set]; exact h.len, h.few, h.sz⟩
    have := hset j (.string x) hj
    rw [List.length_set]
    rw [show (strsV th).set j (.string x) = strsV (th.set j x) by simp [strsV, List.map_set]] at this
    exact this
  have f2 : Fr (ftR q (some ⟨g, 0, none⟩) B) w (w.setCell ⟨g, j, none⟩ (.string x)) := (Fr.refl (ftR q (some ⟨g, 0, none⟩) B) w).setCell (p := ⟨g, j, none⟩) (fun _ => .inr (.inl rfl)) _
  have HS := Lib.hid (And.intro h2 f2)
  clear h hb hlen hcell hfr hset h2 f2 hne2
  go_enter Try.func40, Try.ntmps40
  go_wp2_with (go_at_call 43; refine ho.mono ?_; clear ho; rintro e w' ⟨rfl, rfl⟩)
  go_ret
  exact ⟨rfl, HS.out.1, HS.out.2⟩

theorem rBackNo (z : Int) (hz : ¬ OutB bk z) : Calls Try.prog 41 #[.pointer (some ⟨q, 0, none⟩), .int .i64 z] w fun e w' => e = .returned (.tuple #[.string ⟨#[]⟩, .int .i64 5]) ∧ w = w' := by
  have ho := rGetNo w base q A c B d size th bk h z hz
  clear h hz
  go_enter Try.func41, Try.ntmps41
  go_wp2_with (go_at_call 38; refine ho.mono ?_; clear ho; rintro e w' ⟨rfl, rfl⟩)
  go_ret2
  exact ⟨rfl, rfl⟩

theorem rBackYes (j : Nat) (x : ByteArray) (hb : bk[j]? = some false) (hx : th[j]? = some x) : Calls Try.prog 41 #[.pointer (some ⟨q, 0, none⟩), .int .i64 ((j : Int) + 1)] w fun e w' => e = .returned (.tuple #[.string x, .int .i64 0]) ∧
    RfW w' base q A c B d size th (bk.set j true) ∧ Fr (ftR q A B) w w' := by
  have ho := rGetYes w base q A c B d size th bk h j x hb hx
  have c2 := h.c2
  have hfew := h.few
  have hlen := h.len
  have hj := (List.getElem?_eq_some_iff.1 hb).1
  obtain ⟨g, rfl, hgb, hgl, hcell, hfr, hset⟩ := own_open h.o2 (by omega)
  have hc := hcell j (.bool false) (by rw [boolsV, List.getElem?_map, hb]; rfl)
  have hf := hfr j
  have q3 : (0 : Int) ≤ (j : Int) := by omega
  have q4 : (j : Int) < (bk.length : Int) := by omega
  have q5 : (j : Int) ≤ 100000 := by omega
  have hne1 : q ≠ g := by
    rintro rfl
    exact own_blk_ne h.o2 h.blk (by decide) rfl
  have hne2 : (Value.slice A th.length c).ownBlock ≠ some g := by
    intro e
    obtain ⟨g', cap, hv⟩ : ∃ cs, Blk w g 4 cs ∧ True := by
      rcases h.o2.2 with ⟨h1, _⟩ | ⟨g', cap, cur, hv, _, hh, _⟩
      · injection h1 with h1; cases h1
      · injection hv with h1; injection h1 with h1; injection h1 with h1; subst h1; exact ⟨cur, hh, trivial⟩
    exact own_blk_ne h.o1 cap (by decide) e
  have h2 : RfW (w.setCell ⟨g, j, none⟩ (.bool true)) base q A c (some ⟨g, 0, none⟩) d size th (bk.set j true) := by
    refine ⟨by rw [List.length_set]; exact h.blk.far hne1 _, own_setCell h.o1 hne2 _, ?_, by rw [List.length_set]; exact h.len, by rw [List.length_set]; exact h.few, h.sz⟩
    have := hset j (.bool true) hj
    rw [List.length_set]
    rw [show (boolsV bk).set j (.bool true) = boolsV (bk.set j true) by simp [boolsV, List.map_set]] at this
    exact this
  have f2 : Fr (ftR q A (some ⟨g, 0, none⟩)) w (w.setCell ⟨g, j, none⟩ (.bool true)) := (Fr.refl (ftR q A (some ⟨g, 0, none⟩)) w).setCell (p := ⟨g, j, none⟩) (fun _ => .inr (.inr rfl)) _
  have HS := Lib.hid (And.intro h2 f2)
  clear h hb hlen hcell hfr hset h2 f2 hne2 hx
  go_enter Try.func41, Try.ntmps41
  go_wp2_with (go_at_call 38; refine ho.mono ?_; clear ho; rintro e w' ⟨rfl, rfl⟩)
  go_ret2
  exact ⟨rfl, HS.out.1, HS.out.2⟩
end
end Go.Proofs.Ytmdohddiddlpiaa
