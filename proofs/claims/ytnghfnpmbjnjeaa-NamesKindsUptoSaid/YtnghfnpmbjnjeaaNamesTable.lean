/- names.Table: may a text be a table's name? Conditions: those that each states. -/
import Derived.Test.YtnghfnpmbjnjeaaNamesRead2
namespace Go.Proofs.Ytnghfnpmbjnjeaa
open Go.RowKit

def letN (c : Nat) : Bool := !((decide (c < 97) || decide (122 < c)) && (decide (c < 48) || decide (57 < c)))
def tableN (l : List Nat) : Bool := !(decide (l.length < 1) || decide (16 < l.length)) && l.all letN

theorem drawn_alloc (w : World) (k : Nat) (o : Obj) : (w.drewN k).alloc o = (w.alloc o).drewN k := rfl

/-- '[]byte(s)': new bytes. -/
theorem conv_reads (w : World) (l : List Nat) (hs : Small l) : ∃ c w', (convert 9 22 (.string (strN l))).run Try.prog w = .ok (.slice (some ⟨w.heap.size, 0, none⟩) l.length c) w' ∧ Reads w' w'.heap.size 1 (some ⟨w.heap.size, 0, none⟩) l.length (byts l) ∧ Below w.heap.size w w' ∧ l.length ≤ c := by
  have h := run_bytes_of_string (P := Try.prog) w 9 22 5 (strN l) Try.underlying9 Try.underlying22 Try.underlying5
  rw [strN_size] at h
  obtain ⟨c, hc⟩ : ∃ c, grownCap w l.length 0 5 = c := ⟨_, rfl⟩
  rw [hc] at h
  refine ⟨c, _, h, ⟨by simp [byts], fun _ => ⟨_, rfl, ?_, fun j u hu => ?_⟩⟩, ((Below.refl _ w).drew).alloc (Nat.le_refl _) _, ?_⟩
  · show w.heap.size < (w.drew.alloc _).heap.size
    rw [World.size_alloc]
    exact Nat.lt_succ_self _
  · have hj : j < l.length := by have := (List.getElem?_eq_some_iff.1 hu).1; simpa [byts] using this
    have hjs : j < (strN l).data.size := by simp [strN]; omega
    have hb := bytesRow_at (strN l) c j hjs
    rw [addr_add]
    refine (cell_of_row _ _ j _ _ _ (heap_alloc_new w.drew _)).trans ?_
    rw [hb]
    have hu' : u = .int .u8 (l[j] : Nat) := by
      simp [byts, List.getElem?_eq_getElem hj] at hu
      exact hu.symm
    rw [hu']
    have := hs.at_ j hj
    simp [strN]
    omega
  · rw [← hc]
    exact grownCap_ge _ _ _ _

set_option maxHeartbeats 2000000 in
set_option maxRecDepth 100000 in
theorem table_any (w : World) (l : List Nat) (hs : Small l) (hn : l.length ≤ 140737488355328) :
    Calls Try.prog 25 #[.string (strN l)] w fun e w' => e = .returned (.bool (tableN l)) ∧ Below w.heap.size w w' := by
  obtain ⟨c, w2, hconv, hr, hb, _⟩ := conv_reads w l hs
  have xs := strN_size l
  obtain ⟨X, hX⟩ : ∃ X, strN l = X := ⟨_, rfl⟩
  obtain ⟨n, hnl⟩ : ∃ n, l.length = n := ⟨_, rfl⟩
  obtain ⟨R, hR⟩ : ∃ R, tableN l = R := ⟨_, rfl⟩
  rw [hR]
  unfold tableN at hR
  rw [hX] at xs hconv ⊢
  rw [hnl] at xs hn hconv hr hR
  have HN := Lib.hid hnl
  clear hX hnl
  by_cases h1 : n < 1
  · have e : R = false := by rw [← hR, decide_eq_true h1]; rfl
    subst e
    have q1 : decide ((n : Int) < 1) = true := decide_eq_true (by omega)
    clear hR hconv hr hb
    go_enter Try.func25, Try.ntmps25
    go_wp2
    go_ret
    exact ⟨rfl, Below.refl _ _⟩
  · by_cases h2 : 16 < n
    · have e : R = false := by rw [← hR, decide_eq_true h2, Bool.or_true]; rfl
      subst e
      have q1 : decide ((n : Int) < 1) = false := decide_eq_false (by omega)
      have q2 : (16 : Int) < (n : Int) := by omega
      clear hR hconv hr hb
      go_enter Try.func25, Try.ntmps25
      go_wp2
      go_ret
      exact ⟨rfl, Below.refl _ _⟩
    · have hR2 : R = l.all letN := by rw [← hR, decide_eq_false h1, decide_eq_false h2]; rfl
      have q1 : decide ((n : Int) < 1) = false := decide_eq_false (by omega)
      have q2 : ¬ (16 : Int) < (n : Int) := by omega
      have HR := Lib.hid hR2
      clear hR hR2
      go_enter Try.func25, Try.ntmps25
      go_wp2
      go_loop [16] (fun iv => ∃ k : Nat, k ≤ n ∧ iv = .int .i64 k ∧ R = (l.drop k).all letN) (fun iv => n - (intOf iv).toNat)
      case atStart => exact ⟨0, Nat.zero_le _, rfl, HR.out⟩
      case round =>
        obtain ⟨k, hk, rfl, hr2⟩ := hrel
        by_cases hlt : k < n
        · have hkl : k < l.length := by have := HN.out; omega
          obtain ⟨ad, v, e, hab, hxv, hcell⟩ := hr.at_ hlt
          injection e with e
          subst e
          obtain ⟨d, hd⟩ : ∃ d, l[k] = d := ⟨_, rfl⟩
          obtain rfl : v = .int .u8 (d : Nat) := by
            simp [byts, List.getElem?_eq_getElem hkl, hd] at hxv
            exact hxv.symm
          rw [addr_add] at hcell
          rw [List.drop_eq_getElem_cons hkl, hd, List.all_cons] at hr2
          have k0 : (0 : Int) ≤ (k : Int) := by omega
          have k1 : (k : Int) < (n : Int) := by omega
          by_cases hg : letN d = true
          · rw [hg, Bool.true_and] at hr2
            have HR2 := Lib.hid hr2
            by_cases g1 : 97 ≤ d ∧ d ≤ 122
            · have p1 : decide ((d : Int) < 97) = false := decide_eq_false (by omega)
              have p2 : decide ((122 : Int) < (d : Int)) = false := decide_eq_false (by omega)
              clear hr2 hd hxv hg
              go_wp2
              go_round
              case rel => exact ⟨k + 1, by omega, by go_num, HR2.out⟩
              case measure => simp [intOf]; omega
            · have g2 : 48 ≤ d ∧ d ≤ 57 := by
                simp [letN] at hg
                omega
              have p1 : decide ((d : Int) < 97) = true := decide_eq_true (by omega)
              have p3 : decide ((d : Int) < 48) = false := decide_eq_false (by omega)
              have p4 : decide ((57 : Int) < (d : Int)) = false := decide_eq_false (by omega)
              clear hr2 hd hxv hg
              go_wp2
              go_round
              case rel => exact ⟨k + 1, by omega, by go_num, HR2.out⟩
              case measure => simp [intOf]; omega
          · have hg' : letN d = false := by simpa using hg
            rw [hg', Bool.false_and] at hr2
            subst hr2
            have g2 : (d < 97 ∨ 122 < d) ∧ (d < 48 ∨ 57 < d) := by
              simp [letN] at hg'
              omega
            clear HR hd hxv hg hg'
            by_cases g3 : d < 97
            · have p1 : decide ((d : Int) < 97) = true := decide_eq_true (by omega)
              by_cases g4 : d < 48
              · have p3 : decide ((d : Int) < 48) = true := decide_eq_true (by omega)
                go_wp2
                go_ret
                exact ⟨rfl, hb⟩
              · have p3 : decide ((d : Int) < 48) = false := decide_eq_false (by omega)
                have p4 : decide ((57 : Int) < (d : Int)) = true := decide_eq_true (by omega)
                go_wp2
                go_ret
                exact ⟨rfl, hb⟩
            · have p1 : decide ((d : Int) < 97) = false := decide_eq_false (by omega)
              have p2 : decide ((122 : Int) < (d : Int)) = true := decide_eq_true (by omega)
              have p3 : decide ((d : Int) < 48) = false := decide_eq_false (by omega)
              have p4 : decide ((57 : Int) < (d : Int)) = true := decide_eq_true (by omega)
              go_wp2
              go_ret
              exact ⟨rfl, hb⟩
        · have hkn : k = n := by omega
          subst hkn
          rw [List.drop_eq_nil_of_le (by have := HN.out; omega)] at hr2
          subst hr2
          clear HR
          go_wp2
          go_ret
          exact ⟨rfl, hb⟩

end Go.Proofs.Ytnghfnpmbjnjeaa
