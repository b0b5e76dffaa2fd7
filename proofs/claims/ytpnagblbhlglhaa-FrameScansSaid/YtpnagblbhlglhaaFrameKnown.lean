/- wicketlaw04.known answers true. Conditions: none. -/
import Derived.Test.YtpnagblbhlglhaaFrameScan
import Derived.Test.YtpnagblbhlglhaaFrameMath
import Derived.Test.YtpnagblbhlglhaaFrameFlip
import Derived.Test.YtpnagblbhlglhaaFrameSame
import Derived.Deep.RegionHeld3
import Derived.Deep.RegionHeld
import Derived.Lib.SlBytesConst
namespace Go.Proofs.Ytpnagblbhlglhaa
open Go.RowKit

theorem constF_at (w : World) (C : Array Value) (n c H : Nat) (hH : w.heap.size = H) : (convert 24 24 (.slice (some ⟨H, 0, none⟩) n c)).run Try.prog (w.alloc (.cells C 5)) = .ok (.slice (some ⟨H, 0, none⟩) n c) (w.alloc (.cells C 5 (C.size, C.size + 1))) := by
  subst hH
  exact Lib.run_convert_bytes_const (P := Try.prog) w 24 5 C n c Try.underlying24 Try.underlying5
theorem cellF_new (w : World) (C : Array Value) (t : TypeId) (fr : Nat × Nat) (j : Nat) : (w.alloc (.cells C t fr)).cell? ⟨w.heap.size, j, none⟩ = C[j]? := cell_of_row _ _ j C t fr (heap_alloc_new w _)
theorem readsF_new (w : World) (cs : List Nat) (n : Nat) (fr : Nat × Nat) (h : cs.length = n) : Reads (w.alloc (.cells (byts cs).toArray 5 fr)) (w.heap.size + 1) 1 (some ⟨w.heap.size, 0, none⟩) n (byts cs) := by
  refine ⟨by rw [byts_length]; omega, fun _ => ⟨_, rfl, by simp, fun j u hu => ?_⟩⟩
  rw [addr_add, cellF_new, ← hu]
  simp

theorem numE_any (w : World) (n : Int) : Calls Try.prog 55 #[.int .i64 n] w fun e w' => e = .returned (.int .i64 n) ∧ w = w' := by
  go_enter Try.func55, Try.ntmps55
  go_wp2
  go_ret
  exact ⟨rfl, rfl⟩
theorem put_no (w : World) (k : Int) (A : Option Addr) (n c : Nat) (hk : k < 0 ∨ 255 < k) : Calls Try.prog 60 #[.int .i64 k, .slice A n c] w fun e w' => e = .returned (.tuple #[.slice none 0 0, .int .i64 2]) ∧ w = w' := by
  have c1 := check_any w k A n c
  rw [if_pos hk] at c1
  go_enter Try.func60, Try.ntmps60
  go_wp2_with (go_at_call 83; refine c1.mono ?_; clear c1; rintro e w1 ⟨rfl, rfl⟩)
  refine bodyPost_ret (v := .tuple #[.slice none 0 0, .int .i64 2]) ?_ rfl ⟨rfl, rfl⟩
  simp [results, Try.f60, go_sem]
theorem nine_zeros : scanL (List.replicate 9 0) = [] ∧ scanE (List.replicate 9 0) = 141 := by
  have h : beginE (List.replicate 9 0) = 141 := by decide +kernel
  have hne : List.replicate 9 0 ≠ ([] : List Nat) := by decide
  exact ⟨scanL_end hne (by rw [h]; decide), by rw [scanE_end hne (by rw [h]; decide), h]⟩
theorem one_two : scanL (frameN 1 [97] ++ [0, 0]) = [(1, [97])] ∧ scanE (frameN 1 [97] ++ [0, 0]) = 140 := by
  have h : beginE [0, 0] = 140 := beginE_short (by decide)
  have hne : [0, 0] ≠ ([] : List Nat) := by decide
  rw [scanL_frame 1 [97] _ (by decide), scanE_frame 1 [97] _ (by decide), scanL_end hne (by rw [h]; decide), scanE_end hne (by rw [h]; decide), h]
  exact ⟨rfl, rfl⟩
theorem abs_one {xs : List FrT} {k : Nat} {b : List Nat} (h : xs.map FrT.abs = [(k, b)]) : ∃ x, xs = [x] ∧ x.kind = k ∧ x.body = b := by
  match xs, h with
  | [x], h => exact ⟨x, rfl, by simpa [FrT.abs] using h⟩
theorem abs_nil {xs : List FrT} (h : xs.map FrT.abs = []) : xs = [] := List.map_eq_nil_iff.1 h
/-- A row of frames, opened. -/
theorem row2_open {w : World} {base n c : Nat} {e : TypeId} {A : Option Addr} {xs : List Value} (h : w.ownsRow base e 2 (.slice A n c) n xs) (hn : 0 < n) :
    ∃ g, A = some ⟨g, 0, none⟩ ∧ base ≤ g ∧ g < w.heap.size ∧ (∀ j u, xs[j]? = some u → w.cell? ⟨g, j, none⟩ = some u) := by
  rcases h.2 with ⟨h1, h2⟩ | ⟨g, cap, cur, hv, hb, hh, hnc, hm, hsz, ht⟩
  · omega
  · injection hv with h1 h2 h3
    subst h1; subst h3
    have hblk : Blk w g e cur := hh
    refine ⟨g, rfl, hb, hblk.lt, fun j u hu => ?_⟩
    rw [hblk.cell]
    rw [← ht, List.getElem?_take] at hu
    split at hu
    · simpa using hu
    · cases hu

set_option maxHeartbeats 4000000 in
set_option maxRecDepth 100000 in
theorem knownF (w : World) : Calls Try.prog 52 #[] w fun e w' => e = .returned (.bool true) ∧ Below w.heap.size w w' := by
  obtain ⟨i0, hi, hz0, hz1, hz2⟩ := info_parts Try.info5w
  have kc := constF_at
  have sm1 : Small [97] := fun c hc => by simp at hc; omega
  have p1 : ∀ W : World, Calls Try.prog 60 #[.int .i64 1, .slice (some ⟨W.heap.size, 0, none⟩) 1 1] (W.alloc (.cells #[.int .u8 97] 5 (1, 2))) fun e w' => ∃ A2 c2, e = .returned (.tuple #[.slice A2 10 c2, .int .i64 0]) ∧ w'.ownsRow W.heap.size 5 1 (.slice A2 10 c2) 10 (byts (frameN 1 [97])) ∧ Below W.heap.size W w' := by
    intro W
    refine (put_any _ _ 1 _ 1 1 [97] (by omega) (readsF_new W [97] 1 (1, 2) rfl) sm1 (by simp) (by omega)).mono ?_
    rintro e w' ⟨A2, c2, rfl, ho, hb⟩
    exact ⟨A2, c2, rfl, own_mono ho (by simp), ((Below.refl _ W).alloc (Nat.le_refl _) _).trans (hb.mono (by simp))⟩
  have p2 : ∀ W : World, Calls Try.prog 62 #[.int .i64 1, .slice (some ⟨W.heap.size, 0, none⟩) 1 1] (W.alloc (.cells #[.int .u8 97] 5 (1, 2))) fun e w' => ∃ A2 c2, e = .returned (.slice A2 10 c2) ∧ Reads w' w'.heap.size 1 A2 10 (byts (frameN 1 [97])) ∧ Below W.heap.size W w' := by
    intro W
    refine (refPut_any _ _ 1 _ 1 1 [97] (by omega) (readsF_new W [97] 1 (1, 2) rfl) sm1 (by simp) (by omega)).mono ?_
    rintro e w' ⟨A2, c2, rfl, ho, hb⟩
    exact ⟨A2, c2, rfl, Reads.of_own ho, ((Below.refl _ W).alloc (Nat.le_refl _) _).trans (hb.mono (by simp))⟩
  have p3 := fun W : World => put_no W 256 none 0 0 (by omega)
  have fs : Small (frameN 1 [97]) := by
    unfold frameN
    exact small_append (small_append (headN_small (by decide)) (word4_small _)) sm1
  have s1 : ∀ (W : World) (A : Option Addr) (c : Nat), Reads W W.heap.size 1 A 12 (byts (frameN 1 [97] ++ [0, 0])) → 12 ≤ c → Calls Try.prog 53 #[.slice A 12 c] W fun e w' => ∃ g A2 c1 c2, e = .returned (.tuple #[.slice (some ⟨g, 0, none⟩) 1 c1, .int .i64 10, .int .i64 140]) ∧ w'.cell? ⟨g, 0, none⟩ = some (.int .i64 1) ∧ w'.cell? ⟨g, 1, none⟩ = some (.slice A2 1 c2) ∧ g < w'.heap.size ∧ Reads w' w'.heap.size 1 A2 1 (byts [97]) ∧ Below W.heap.size W w' := by
    intro W A c hr hc
    refine (scan_any W _ A 12 c _ hr (small_append fs (fun c hc => by simp at hc; omega)) (Nat.le_refl _) (by omega) hc).mono ?_
    rintro e w' ⟨xs, v, hxs, rfl, ho, hbd, hb⟩
    rw [one_two.1] at hxs
    obtain ⟨⟨at0, k0, A2, c2, bd⟩, rfl, hk, hbb⟩ := abs_one hxs
    dsimp only at hk hbb
    subst hk hbb
    obtain ⟨A1, c1, rfl⟩ := own_shape ho
    obtain ⟨g, rfl, hg1, hg2, hg3⟩ := row2_open ho Nat.one_pos
    refine ⟨g, A2, c1, c2, ?_, hg3 0 _ rfl, hg3 1 _ rfl, hg2, Reads.of_own (hbd.own _ (List.mem_singleton.2 rfl)), hb⟩
    rw [one_two.1, one_two.2]
    rfl
  have s2 : ∀ (W : World) (A : Option Addr) (c : Nat), Reads W W.heap.size 1 A 9 (byts (List.replicate 9 0)) → 9 ≤ c → Calls Try.prog 53 #[.slice A 9 c] W fun e w' => ∃ v, e = .returned (.tuple #[v, .int .i64 0, .int .i64 141]) ∧ Below W.heap.size W w' := by
    intro W A c hr hc
    refine (scan_any W _ A 9 c _ hr (fun c hc => by rw [List.eq_of_mem_replicate hc]; omega) (Nat.le_refl _) (by omega) hc).mono ?_
    rintro e w' ⟨xs, v, hxs, rfl, ho, hbd, hb⟩
    refine ⟨v, ?_, hb⟩
    rw [nine_zeros.1, nine_zeros.2]
    rfl
  obtain ⟨F, hF⟩ : ∃ F, frameN 1 [97] = F := ⟨_, rfl⟩
  rw [hF] at fs
  simp only [hF] at p1 p2 s1
  clear hF
  go_enter Try.func52, Try.ntmps52
  go_wp2_with (first
    | (go_at_call 60; refine (p1 _).mono ?_; clear p1; rintro e w1 ⟨A1, c1, rfl, o1, b1⟩; have r1 := Reads.of_own o1)
    | (at_builtin; refine wpList_append_any _ rfl _ _ 24 rfl w1.heap.size 5 i0 (.int .u8 0) 1 1 Try.underlying24 hi hz0 hz1 hz2 rfl (by decide) _ _ _ rfl (World.ownsRow_nil _ _ _ _) _ A1 10 _ _ rfl r1 ?c1 ?c2 ?c3 ?c4 ?_))
  case c1 => exact byts_one _
  case c2 => unfold maxLen; omega
  case c3 => omega
  case c4 => exact Nat.le_refl _
  intro v2 w2 o2 g2 _
  obtain ⟨A2, c2, rfl⟩ := own_shape o2
  try simp only [Nat.zero_add, List.nil_append] at o2
  have hb12 : Below w1.heap.size w1 w2 := (Below.refl _ _).grown g2 (Nat.le_refl _) (fun k hk => by cases hk)
  have o2' := o2.alloc (.cells #[.int .u8 0, .int .u8 0] 5)
  have r2 : Reads (w2.alloc (.cells #[.int .u8 0, .int .u8 0] 5)) (w2.heap.size + 1) 1 (some ⟨w2.heap.size, 0, none⟩) 2 (byts [0, 0]) := by
    have := reads_blk (Blk.new w2 5 (byts [0, 0]).toArray) (show ([0, 0] : List Nat).length = 2 from rfl)
    rw [World.size_alloc] at this
    exact this
  go_wp2_with (at_builtin; refine wpList_append_any _ rfl _ _ 24 rfl w1.heap.size 5 i0 (.int .u8 0) 1 1 Try.underlying24 hi hz0 hz1 hz2 rfl (by decide) _ _ _ rfl o2' _ _ 2 _ _ rfl r2 ?c1 ?c2 ?c3 ?c4 ?_)
  case c1 => exact byts_one _
  case c2 => unfold maxLen; omega
  case c3 => omega
  case c4 => simp; have := hb12.size; omega
  intro v3 w3 o3 g3 _
  obtain ⟨A3, c3, rfl⟩ := own_shape o3
  rw [← byts_append] at o3
  have hb13 : Below w1.heap.size w1 w3 := (hb12.alloc hb12.size (.cells #[.int .u8 0, .int .u8 0] 5)).grown g3 (by simp; have := hb12.size; omega) (own_base o2')
  have q1 := s1 w3 A3 c3 (Reads.of_own o3) (own_cap o3).1
  have r1w3 := ((Reads.of_own o1).below hb13)
  clear s1 o2 o2' g2 g3 r2 o3
  go_wp2_with (first
    | (go_at_call 53; refine q1.mono ?_; clear q1; rintro e w4 ⟨gl, A4, cl, c4, rfl, d0, d1, dl, r4, b4⟩)
    | (refine wpList_make_full _ rfl _ _ 24 rfl w4.heap.size 5 i0 (.int .u8 0) 1 Try.underlying24 hi hz0 hz1 .i64 .i64 _ _ 9 rfl rfl rfl rfl ?c1 ?c2 ?c3 ?_))
  case c1 => rw [hz2]; omega
  case c2 => unfold maxLen; omega
  case c3 => exact Nat.le_refl _
  intro wz hoz hgz
  have hoz' : wz.ownsRow w4.heap.size 5 1 (.slice (some ⟨w4.heap.size, 0, none⟩) 9 9) 9 (byts (List.replicate 9 0)) := by
    rw [← made_bytes]
    simpa [Value.cells] using hoz
  have hbz : Below w4.heap.size w4 wz := (Below.refl _ w4).grown hgz (Nat.le_refl _) (fun _ h => by cases h)
  have q2 := s2 wz (some ⟨w4.heap.size, 0, none⟩) 9 (Reads.of_own hoz') (Nat.le_refl _)
  clear s2 hoz hgz hoz'
  go_wp2_with (first
    | (go_at_call 53; refine q2.mono ?_; clear q2; rintro e w5 ⟨v5, rfl, b5⟩)
    | (go_at_call 60; refine (p3 _).mono ?_; clear p3; rintro e w6 ⟨rfl, rfl⟩))
  -- the last region
  have h41 : Below w3.heap.size w3 w5 := b4.trans ((hbz.trans (b5.mono hbz.size)).mono b4.size)
  have h45 : Below w4.heap.size w4 w5 := hbz.trans (b5.mono hbz.size)
  have h05 : Below w.heap.size w w5 := b1.trans ((hb13.trans (h41.mono hb13.size)).mono b1.size)
  have rA := fun (W : World) (hW : Below w5.heap.size w5 W) => run_str (P := Try.prog) (src := 24) (dst := 9) (c := c1) rfl rfl rfl ((r1w3.below (h41.mono hb13.size)).below (hW.mono (Nat.le_trans hb13.size h41.size))) fs
  have rB := fun (W : World) (hW : Below w5.heap.size w5 W) => run_str (P := Try.prog) (src := 24) (dst := 9) (c := c4) rfl rfl rfl ((r4.below h45).below (hW.mono h45.size)) sm1
  have rC := fun (W : World) (hW : Below w5.heap.size w5 W) => (hW.cell (p := ⟨gl, 0, none⟩) (Nat.lt_of_lt_of_le dl h45.size)).trans ((h45.cell (p := ⟨gl, 0, none⟩) dl).trans d0)
  have rD := fun (W : World) (hW : Below w5.heap.size w5 W) => (hW.cell (p := ⟨gl, 1, none⟩) (Nat.lt_of_lt_of_le dl h45.size)).trans ((h45.cell (p := ⟨gl, 1, none⟩) dl).trans d1)
  have rs := fun (W : World) (A : Option Addr) (c : Nat) (h : Reads W W.heap.size 1 A 10 (byts F)) => run_str (P := Try.prog) (src := 24) (dst := 9) (c := c) rfl rfl rfl h fs
  have q62 : ∀ W : World, Below w5.heap.size w5 W → Calls Try.prog 62 #[.int .i64 1, .slice (some ⟨W.heap.size, 0, none⟩) 1 1] (W.alloc (.cells #[.int .u8 97] 5 (1, 2))) fun e w' => ∃ A2 c2, e = .returned (.slice A2 10 c2) ∧ (convert 24 9 (.slice A2 10 c2)).run Try.prog w' = .ok (.string (strN F)) w' ∧ Below w5.heap.size w5 w' := by
    intro W hW
    refine (p2 W).mono ?_
    rintro e w' ⟨A2, c2, rfl, r, b⟩
    exact ⟨A2, c2, rfl, rs _ _ _ r, hW.trans (b.mono hW.size)⟩
  have q62d := fun (W : World) (hW : Below w5.heap.size w5 W) => q62 W.drew hW.drew
  have kd : ∀ (w : World) (C : Array Value) (n c H : Nat), w.heap.size = H → (convert 24 24 (.slice (some ⟨H, 0, none⟩) n c)).run Try.prog (w.alloc (.cells C 5)).drew = .ok (.slice (some ⟨H, 0, none⟩) n c) (w.alloc (.cells C 5 (C.size, C.size + 1))).drew := fun w C n c H hH => constF_at w.drew C n c H hH
  have bel0 : Below w5.heap.size w5 w5 := Below.refl _ w5
  have e97 : strN [97] = { data := #[97] } := rfl
  rw [e97] at rB
  obtain ⟨X, hX⟩ : ∃ X, strN F = X := ⟨_, rfl⟩
  simp only [hX] at rA rs q62 q62d
  have bel : Below w5.heap.size w5 w5.drew := (Below.refl _ w5).drew
  have f0 := rA _ bel
  have f1 := rB _ bel
  have f2 := rC _ bel
  have f3 := rD _ bel
  clear p2 rs hX e97 h45 h41 hbz b5 r1w3 r4 d0 d1 dl b4 hb13 hb12 r1 o1 fs sm1 hi hz0 hz1 hz2
  go_wp2
  go_region_held (fun w' => w'.cell? ⟨gl, 0, none⟩ = some (.int .i64 1) ∧ w'.cell? ⟨gl, 1, none⟩ = some (.slice A4 1 c4) ∧ (convert 24 9 (.slice A1 10 c1)).run Try.prog w' = .ok (.string X) w' ∧ (convert 24 9 (.slice A4 1 c4)).run Try.prog w' = .ok (.string { data := #[97] }) w') (first | (refine ⟨?_, ?_, ?_, ?_⟩ <;> assumption) | (refine ⟨rC _ ?_, rD _ ?_, rA _ ?_, rB _ ?_⟩ <;> (repeat (first | assumption | exact Below.refl _ _ | apply Below.drew | refine Below.alloc ?_ (by simp) _)))) (first
    | (go_at_call 62; refine (q62d _ bel0).mono ?_; rintro e w7 ⟨A7, c7, rfl, t7, g7⟩; have a0 := rA _ g7; have a1 := rB _ g7; have a2 := rC _ g7; have a3 := rD _ g7)
    | (go_at_call 55; refine (numE_any _ _).mono ?_; rintro e w8 ⟨rfl, rfl⟩)
    | (go_at_call 61; refine (size_any _ _ _ _ (by decide)).mono ?_; rintro e w9 ⟨rfl, rfl⟩))
  go_wp2
  go_ret
  exact ⟨rfl, h05.trans (g7.mono h05.size)⟩
end Go.Proofs.Ytpnagblbhlglhaa
