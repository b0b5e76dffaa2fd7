/- wicketlaw05.known answers true. Conditions: none. -/
import Derived.Test.YtnghfnpmbjnjeaaNamesTable
import Derived.Test.YtnghfnpmbjnjeaaNamesBehind
import Derived.Test.YtnghfnpmbjnjeaaNamesMeet
import Derived.Lib.SmallJoins
namespace Go.Proofs.Ytnghfnpmbjnjeaa
open Go.RowKit

theorem const_at (w : World) (C : Array Value) (n c H : Nat) (hH : w.heap.size = H) : (convert 22 22 (.slice (some ⟨H, 0, none⟩) n c)).run Try.prog (w.alloc (.cells C 5)) = .ok (.slice (some ⟨H, 0, none⟩) n c) (w.alloc (.cells C 5 (C.size, C.size + 1))) := by
  subst hH
  exact Lib.run_convert_bytes_const (P := Try.prog) w 22 5 C n c Try.underlying22 Try.underlying5
theorem cell_new_fr (w : World) (C : Array Value) (t : TypeId) (fr : Nat × Nat) (j : Nat) : (w.alloc (.cells C t fr)).cell? ⟨w.heap.size, j, none⟩ = C[j]? := cell_of_row _ _ j C t fr (heap_alloc_new w _)
theorem reads_new (w : World) (cs : List Nat) (n : Nat) (fr : Nat × Nat) (h : cs.length = n) : Reads (w.alloc (.cells (byts cs).toArray 5 fr)) (w.heap.size + 1) 1 (some ⟨w.heap.size, 0, none⟩) n (byts cs) := by
  refine ⟨by rw [byts_length]; omega, fun _ => ⟨_, rfl, by simp, fun j u hu => ?_⟩⟩
  rw [addr_add, cell_new_fr, ← hu]
  simp
theorem small_of {l : List Nat} (h : l.all (fun c => decide (c < 256)) = true) : Small l := fun c hc => by simpa using List.all_eq_true.1 h c hc

theorem num_any (w : World) (n : Int) : Calls Try.prog 33 #[.int .i64 n] w fun e w' => e = .returned (.int .i64 n) ∧ w = w' := by
  go_enter Try.func33, Try.ntmps33
  go_wp2
  go_ret
  exact ⟨rfl, rfl⟩
theorem text_nil (w : World) : Calls Try.prog 31 #[.slice none 0 0] w fun e w' => e = .returned (.string { data := #[37] }) ∧ w = w' := by
  go_enter Try.func31, Try.ntmps31
  go_wp2
  go_ret
  exact ⟨rfl, rfl⟩

theorem k_beh (W : World) (a b : Nat) (m : List Nat) (ha : a < 256) (hb : b < 256) (hm : behN [a, b] = some m) : Calls Try.prog 12 #[.slice (some ⟨W.heap.size, 0, none⟩) 2 2] (W.alloc (.cells #[.int .u8 (a : Int), .int .u8 (b : Int)] 5 (2, 3))) fun e w' =>
    ∃ A, e = .returned (.tuple #[.slice A m.length m.length, .bool true]) ∧ Reads w' w'.heap.size 1 A m.length (byts m) ∧ Below W.heap.size W w' := by
  have hs : Small [a, b] := fun c hc => by simp at hc; omega
  refine (behind_any _ _ _ 2 2 [a, b] (reads_new W [a, b] 2 (2, 3) rfl) hs (by simp) (by omega) (by omega)).mono ?_
  rintro e w' ⟨A, c, m', rfl, hm', ho, hb'⟩
  rw [hm] at hm' ⊢
  obtain rfl : m' = m := hm'
  exact ⟨A, rfl, by
    have := Reads.of_own ho
    obtain ⟨g, hg⟩ : ∃ g, c = g := ⟨_, rfl⟩
    exact this, ((Below.refl _ W).alloc (Nat.le_refl _) _).trans (hb'.mono (by simp))⟩

theorem k_meet (W : World) : Calls Try.prog 14 #[.slice (some ⟨W.heap.size, 0, none⟩) 1 1, .slice (some ⟨W.heap.size + 1, 0, none⟩) 1 1, .slice (some ⟨W.heap.size + 1 + 1, 0, none⟩) 1 1, .slice (some ⟨W.heap.size + 1 + 1 + 1, 0, none⟩) 1 1]
    ((((W.alloc (.cells #[.int .u8 97] 5 (1, 2))).alloc (.cells #[.int .u8 99] 5 (1, 2))).alloc (.cells #[.int .u8 98] 5 (1, 2))).alloc (.cells #[.int .u8 100] 5 (1, 2))) fun e w' =>
    ∃ A1 A2, e = .returned (.tuple #[.slice A1 1 1, .slice A2 1 1, .bool true]) ∧ Reads w' w'.heap.size 1 A1 1 (byts [98]) ∧ Reads w' w'.heap.size 1 A2 1 (byts [99]) ∧ Below W.heap.size W w' := by
  have e1 : ∀ x : Nat, (#[.int .u8 (x : Int)] : Array Value) = (byts [x]).toArray := fun _ => rfl
  have e97 := e1 97
  have e99 := e1 99
  have e98 := e1 98
  have e100 := e1 100
  have r1 := (((reads_new W [97] 1 (1, 2) rfl).alloc (by simp) (.cells #[.int .u8 99] 5 (1, 2))).alloc (by simp) (.cells #[.int .u8 98] 5 (1, 2))).alloc (by simp) (.cells #[.int .u8 100] 5 (1, 2))
  have r2 := ((reads_new (W.alloc (.cells #[.int .u8 97] 5 (1, 2))) [99] 1 (1, 2) rfl).alloc (by simp) (.cells #[.int .u8 98] 5 (1, 2))).alloc (by simp) (.cells #[.int .u8 100] 5 (1, 2))
  have r3 := (reads_new ((W.alloc (.cells #[.int .u8 97] 5 (1, 2))).alloc (.cells #[.int .u8 99] 5 (1, 2))) [98] 1 (1, 2) rfl).alloc (by simp) (.cells #[.int .u8 100] 5 (1, 2))
  have r4 := reads_new (((W.alloc (.cells #[.int .u8 97] 5 (1, 2))).alloc (.cells #[.int .u8 99] 5 (1, 2))).alloc (.cells #[.int .u8 98] 5 (1, 2))) [100] 1 (1, 2) rfl
  simp only [World.size_alloc] at r1 r2 r3 r4
  have sm : ∀ x : Nat, x < 256 → Small [x] := fun x hx c hc => by simp at hc; omega
  refine (meet_any _ (W.heap.size + 1 + 1 + 1 + 1) _ _ _ _ 1 1 1 1 1 1 1 1 [97] [99] [98] [100] (by simp) ⟨r1.more (by omega), sm 97 (by omega), by omega⟩ ⟨r2.more (by omega), sm 99 (by omega), by omega⟩ ⟨r3.more (by omega), sm 98 (by omega), by omega⟩ ⟨r4, sm 100 (by omega), by omega⟩).mono ?_
  rintro e w' ⟨A1, c1, A2, c2, x, y, rfl, hxy, ho1, ho2, _, hb⟩
  have hm : meetN [97] [99] [98] [100] = some ([98], [99]) := by decide
  rw [hm] at hxy ⊢
  obtain ⟨rfl, rfl⟩ : x = [98] ∧ y = [99] := by simpa using hxy
  exact ⟨A1, A2, rfl, Reads.of_own ho1, Reads.of_own ho2, ((((((Below.refl _ W).alloc (Nat.le_refl _) _).alloc (by simp) _).alloc (by simp; omega) _).alloc (by simp; omega) _)).trans (hb.mono (by simp; omega))⟩

theorem k_read1 (W : World) : Calls Try.prog 23 #[.string { data := #[97, 37, 50, 53, 98] }] W fun e w' => ∃ A c, e = .returned (.tuple #[.slice A 3 c, .int .i64 0]) ∧ Reads w' w'.heap.size 1 A 3 (byts [97, 37, 98]) ∧ Below W.heap.size W w' := by
  have h := read_any W [97, 37, 50, 53, 98] (small_of (by decide)) (by decide)
  rw [show readA [97, 37, 50, 53, 98] = ([97, 37, 98], 0) by decide] at h
  refine h.mono ?_
  rintro e w' ⟨A, c, rfl, ho, hb⟩
  exact ⟨A, c, rfl, Reads.of_own ho, hb⟩
theorem k_read2 (W : World) : Calls Try.prog 23 #[.string { data := #[37, 54, 49] }] W fun e w' => ∃ A c, e = .returned (.tuple #[.slice A 0 c, .int .i64 4]) ∧ Below W.heap.size W w' := by
  have h := read_any W [37, 54, 49] (small_of (by decide)) (by decide)
  rw [show readA [37, 54, 49] = ([], 4) by decide] at h
  refine h.mono ?_
  rintro e w' ⟨A, c, rfl, ho, hb⟩
  exact ⟨A, c, rfl, hb⟩
theorem k_table1 (W : World) : Calls Try.prog 25 #[.string { data := #[97, 48] }] W fun e w' => e = .returned (.bool true) ∧ Below W.heap.size W w' :=
  table_any W [97, 48] (small_of (by decide)) (by decide)
theorem k_table2 (W : World) : Calls Try.prog 25 #[.string { data := #[65] }] W fun e w' => e = .returned (.bool false) ∧ Below W.heap.size W w' :=
  table_any W [65] (small_of (by decide)) (by decide)
theorem k_cmp (W : World) : Calls Try.prog 16 #[.slice (some ⟨W.heap.size, 0, none⟩) 1 1, .slice (some ⟨W.heap.size + 1, 0, none⟩) 2 2]
    ((W.alloc (.cells #[.int .u8 97] 5 (1, 2))).alloc (.cells #[.int .u8 97, .int .u8 98] 5 (2, 3))) fun e w' => e = .returned (.int .i64 (-1)) ∧ Below W.heap.size W w' := by
  have r1 := (reads_new W [97] 1 (1, 2) rfl).alloc (by simp) (.cells #[.int .u8 97, .int .u8 98] 5 (2, 3))
  have r2 := reads_new (W.alloc (.cells #[.int .u8 97] 5 (1, 2))) [97, 98] 2 (2, 3) rfl
  simp only [World.size_alloc] at r1 r2
  refine (cmp_any _ (c1 := 1) (c2 := 2) r1 (small_of (by decide)) r2 (small_of (by decide))).mono ?_
  rintro e w' ⟨rfl, rfl⟩
  exact ⟨by rw [show cmpN [97] [97, 98] = -1 by decide], ((Below.refl _ W).alloc (Nat.le_refl _) _).alloc (by simp) _⟩
theorem k_in (W : World) : Calls Try.prog 18 #[.slice (some ⟨W.heap.size, 0, none⟩) 1 1, .slice (some ⟨W.heap.size + 1, 0, none⟩) 1 1, .slice none 0 0]
    ((W.alloc (.cells #[.int .u8 122] 5 (1, 2))).alloc (.cells #[.int .u8 97] 5 (1, 2))) fun e w' => e = .returned (.bool true) ∧ Below W.heap.size W w' := by
  have r1 := (reads_new W [122] 1 (1, 2) rfl).alloc (by simp) (.cells #[.int .u8 97] 5 (1, 2))
  have r2 := reads_new (W.alloc (.cells #[.int .u8 122] 5 (1, 2))) [97] 1 (1, 2) rfl
  simp only [World.size_alloc] at r1 r2
  refine (in_any _ (ck := 1) (cf := 1) (ct := 0) r1 (small_of (by decide)) r2 (small_of (by decide)) (Reads.none_ (B := 0)) (small_of (l := []) (by decide))).mono ?_
  rintro e w' ⟨rfl, rfl⟩
  exact ⟨by rw [show inN [122] [97] [] = true by decide], ((Below.refl _ W).alloc (Nat.le_refl _) _).alloc (by simp) _⟩

set_option maxHeartbeats 4000000 in
set_option maxRecDepth 100000 in
theorem knownN (w : World) : Calls Try.prog 22 #[] w fun e w' => e = .returned (.bool true) ∧ Below w.heap.size w w' := by
  have kc := const_at
  have b1 := fun W : World => k_beh W 97 255 [98] (by decide) (by decide) (by decide)
  have b2 := fun W : World => k_beh W 97 254 [97, 255] (by decide) (by decide) (by decide)
  simp only [List.length_cons, List.length_nil, Nat.reduceAdd] at b1 b2
  have st := fun (l : List Nat) (W w' : World) (A : Option Addr) (n c : Nat) (h : Reads W W.heap.size 1 A n (byts l)) (hb : Below W.heap.size W w') (hs : Small l) => run_str (P := Try.prog) (src := 22) (dst := 9) (c := c) rfl rfl rfl (h.below hb) hs
  have s1 : strN [98] = { data := #[98] } := rfl
  have s2 : strN [97, 255] = { data := #[97, 255] } := rfl
  have s4 : strN [99] = { data := #[99] } := rfl
  have s5 : strN [97, 37, 98] = { data := #[97, 37, 98] } := rfl
  have q1 := k_read1
  have q2 := k_read2
  have q3 := k_table1
  have q4 := k_table2
  go_enter Try.func22, Try.ntmps22
  go_wp2_with (first
    | (go_at_call 12; refine (b1 _).mono ?_; clear b1; rintro e w1 ⟨A1, rfl, r1, l1⟩)
    | (go_at_call 12; refine (b2 _).mono ?_; clear b2; rintro e w2 ⟨A2, rfl, r2, l2⟩)
    | (go_at_call 14; refine (k_meet _).mono ?_; rintro e w3 ⟨A3, A4, rfl, r3, r4, l3⟩)
    | (go_at_call 23; refine (q1 _).mono ?_; clear q1; rintro e w4 ⟨A5, c5, rfl, r5, l4⟩)
    | (go_at_call 23; refine (q2 _).mono ?_; clear q2; rintro e w5 ⟨A6, c6, rfl, l5⟩)
    | (go_at_call 25; refine (q3 _).mono ?_; clear q3; rintro e w6 ⟨rfl, l6⟩)
    | (go_at_call 25; refine (q4 _).mono ?_; clear q4; rintro e w7 ⟨rfl, l7⟩)
    | (go_at_call 16; refine (k_cmp _).mono ?_; rintro e w8 ⟨rfl, l8⟩)
    | (go_at_call 18; refine (k_in _).mono ?_; rintro e w9 ⟨rfl, l9⟩; (have h8 := l8.trans (l9.mono l8.size)); (have h7 := l7.trans (h8.mono l7.size)); (have h6 := l6.trans (h7.mono l6.size)); (have h5 := l5.trans (h6.mono l5.size)); (have h4 := l4.trans (h5.mono l4.size)); (have h3 := l3.trans (h4.mono l3.size)); (have h2 := l2.trans (h3.mono l2.size)); (have f1 := st [98] _ _ A1 1 1 r1 h2 (small_of (by decide))); (have f2 := st [97, 255] _ _ A2 2 2 r2 h3 (small_of (by decide))); (have f3 := st [98] _ _ A3 1 1 r3 h4 (small_of (by decide))); (have f4 := st [99] _ _ A4 1 1 r4 h4 (small_of (by decide))); (have f5 := st [97, 37, 98] _ _ A5 3 c5 r5 h5 (small_of (by decide))); rw [s1] at f1 f3; rw [s2] at f2; rw [s4] at f4; rw [s5] at f5)
    | (go_at_call 33; refine (num_any _ _).mono ?_; rintro e w' ⟨rfl, rfl⟩)
    | (go_at_call 31; refine (text_nil _).mono ?_; rintro e w' ⟨rfl, rfl⟩))
  go_ret
  exact ⟨rfl, l1.trans (h2.mono l1.size |>.mono (Nat.le_refl _) |> fun x => (l2.mono l1.size).trans (h3.mono (Nat.le_trans l1.size l2.size)))⟩

end Go.Proofs.Ytnghfnpmbjnjeaa
