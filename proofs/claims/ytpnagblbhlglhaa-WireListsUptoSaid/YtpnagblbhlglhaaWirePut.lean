/- form, and wire.Put of pairs. Conditions: those that each states. -/
import Derived.Test.YtpnagblbhlglhaaWirePairTake2
import Derived.Deep.RegionHeldLaw
import Derived.Deep.RegionHeld3
namespace Go.Proofs.Ytpnagblbhlglhaa
open Go.RowKit

set_option maxHeartbeats 2000000 in
set_option maxRecDepth 100000 in
theorem form_any (w : World) (a b : Nat) (ha : a < 18446744073709551616) (hb : b < 18446744073709551616) : Tells w 43 #[.agg #[.int .u64 a, .int .u64 b]] (numF a ++ numF b) := by
  obtain ⟨i0, hi, hz0, hz1, hz2⟩ := info_parts Try.info5w
  obtain ⟨wa, hwa⟩ : ∃ wa, w.alloc (.cells #[.int .u64 (a : Int), .int .u64 (b : Int)] 61) = wa := ⟨_, rfl⟩
  have hb0 : Below w.heap.size w wa := by subst hwa; exact (Below.refl _ w).alloc (Nat.le_refl _) _
  have hbk : Blk wa w.heap.size 61 #[.int .u64 (a : Int), .int .u64 (b : Int)] := by subst hwa; exact Blk.new w 61 _
  have hlt := hbk.lt
  have c0 : wa.drew.cell? ⟨w.heap.size, 0, none⟩ = some (.int .u64 a) := (hbk.cell 0).trans rfl
  have c1 : wa.drew.cell? ⟨w.heap.size, 1, none⟩ = some (.int .u64 b) := (hbk.cell 1).trans rfl
  have la := numF_le a ha
  have lb := numF_le b hb
  have lift : ∀ (W : World) (x : Nat), x < 18446744073709551616 → Below wa.heap.size wa W → Calls Try.prog 24 #[.int .u64 x] W fun e w' => ∃ A c, e = .returned (.slice A (numF x).length c) ∧ w'.ownsRow W.heap.size 5 1 (.slice A (numF x).length c) (numF x).length (byts (numF x)) ∧ Below W.heap.size W w' ∧
      Below wa.heap.size wa w' ∧ w'.cell? ⟨w.heap.size, 0, none⟩ = some (.int .u64 a) ∧ w'.cell? ⟨w.heap.size, 1, none⟩ = some (.int .u64 b) := by
    intro W x hx hW
    refine Calls.mono (number_tells W x hx) ?_
    rintro e w' ⟨A, c, rfl, ho, hm⟩
    have h2 := hW.trans (hm.mono hW.size)
    exact ⟨A, c, rfl, ho, hm, h2, ((hbk.below h2 hlt).cell 0).trans rfl, ((hbk.below h2 hlt).cell 1).trans rfl⟩
  have qa := fun (W : World) hW => lift W a ha hW
  have qb := fun (W : World) hW => lift W b hb hW
  have bel0 : Below wa.heap.size wa wa.drew := (Below.refl _ wa).drew
  obtain ⟨F, hF⟩ : ∃ F, numF a = F := ⟨_, rfl⟩
  obtain ⟨G, hG⟩ : ∃ G, numF b = G := ⟨_, rfl⟩
  simp only [hF] at qa
  simp only [hG] at qb
  rw [hF] at la
  rw [hG] at lb
  rw [hF, hG]
  have hz : w.heap.size ≤ wa.heap.size := hb0.size
  clear lift hF hG
  unfold Tells
  go_enter Try.func43, Try.ntmps43
  go_wp2
  go_region_held_law (fun w' => w'.cell? ⟨w.heap.size, 0, none⟩ = some (.int .u64 a) ∧ w'.cell? ⟨w.heap.size, 1, none⟩ = some (.int .u64 b)) (first | (refine ⟨?_, ?_⟩ <;> assumption) | go_keep) (first
    | (go_at_call 24; refine (qa _ (by assumption)).mono ?_; clear qa; rintro e w1 ⟨A1, k1, rfl, o1, m1, n1, d0, d1⟩)
    | (go_at_call 24; refine (qb _ (by assumption)).mono ?_; clear qb; rintro e w2 ⟨A2, k2, rfl, o2, m2, n2, d2, d3⟩)
    | (refine step_append_any _ rfl _ _ 24 rfl wa.heap.size 5 i0 (.int .u8 0) 1 1 Try.underlying24 hi hz0 hz1 hz2 rfl (by decide) _ _ _ rfl (own_mono (own_fr o1 (Fr.of_new (S := noB) m2) (fun _ _ h => h)) (base' := wa.heap.size) (by first | exact Nat.le_refl _ | (simp; omega))) _ _ _ _ _ rfl (Reads.of_own o2) (byts_one _) (by unfold maxLen; omega) (by omega) n2.size ?_; intro v3 w3 o3 g3 _; have n3 : Below wa.heap.size wa w3 := n2.grown g3 n2.size (fun k hk => own_base o1 k hk); have d4 := ((hbk.below n3 hlt).cell 0).trans rfl; have d5 := ((hbk.below n3 hlt).cell 1).trans rfl))
  obtain ⟨A3, k3, rfl⟩ := own_shape o3
  rw [← byts_append] at o3
  simp only [List.getElem_toArray, List.getElem_cons_succ, List.getElem_cons_zero, Act.put]
  go_wp2
  go_ret
  rw [List.length_append]
  exact ⟨A3, k3, rfl, own_mono o3 hz, hb0.trans (n3.mono hz)⟩

theorem add_one_at (a : Addr) : a.add 1 = ⟨a.block, a.off + 1, none⟩ := by simp [Addr.add]

set_option maxHeartbeats 2000000 in
set_option maxRecDepth 100000 in
theorem put_any (w : World) (B : Nat) (A : Option Addr) (n c : Nat) (L : List Nat) (h : Reads w B 2 A n (wrds L)) (hB : B ≤ w.heap.size) (hL : ∀ x ∈ L, x < 18446744073709551616) (hn : n ≤ 1048576) :
    Calls Try.prog 42 #[.slice A n c, .func (.func 43) #[] #[]] w fun e w' => ∃ A2 c2, e = .returned (.tuple #[.slice A2 (numF n ++ formsN L).length c2, .int .i64 0]) ∧
      w'.ownsRow w.heap.size 5 1 (.slice A2 (numF n ++ formsN L).length c2) (numF n ++ formsN L).length (byts (numF n ++ formsN L)) ∧ Below w.heap.size w w' := by
  obtain ⟨i0, hi, hz0, hz1, hz2⟩ := info_parts Try.info5w
  have hll : L.length = 2 * n := by have := h.1; rw [wrds_length] at this; omega
  have hnf : ∀ W : World, Sem.run Try.prog (binOp BinOp.eql 63 (Value.func (.func 43) #[] #[]) Value.nilFunc) W = .ok (.bool false) W := fun _ => by kernel_rfl
  have hcall := number_any w n (by omega)
  have h10 := numF_le n (by omega)
  obtain ⟨F, hF⟩ : ∃ F, numF n = F := ⟨_, rfl⟩
  rw [hF] at hcall h10 ⊢
  clear hF
  have HLL := Lib.hid hll
  clear hll
  go_enter Try.func42, Try.ntmps42
  go_wp2_with (go_at_call 24; refine hcall.mono ?_; clear hcall; rintro e w1 ⟨A1, c1, rfl, ho, hb⟩)
  go_loopw [6, 17] (fun bv iv wr => ∃ (k : Nat) (G : Option Addr) (g : Nat) (Y : List Nat), k ≤ n ∧ iv = .int .i64 k ∧ bv = .slice G Y.length g ∧ Y = F ++ formsN (L.take (2 * k)) ∧ wr.ownsRow w.heap.size 5 1 (.slice G Y.length g) Y.length (byts Y) ∧ Below w.heap.size w wr) (fun _ iv _ => n - (intOf iv).toNat)
  case atStart => exact ⟨0, A1, c1, F, by omega, rfl, rfl, by simp [formsN], ho, hb⟩
  case round =>
    clear ho hb
    obtain ⟨k, G, g, Y, hk, rfl, rfl, hY, ho, hb⟩ := hrel
    have hsz := hb.size
    have HY := Lib.hid hY
    clear hY
    by_cases hlt : k < n
    · have k0 : (0 : Int) ≤ (k : Int) := by omega
      have k1 : (k : Int) < (n : Int) := by omega
      have hle2 : 2 * k + 1 < L.length := by have := HLL.out; omega
      have hYl : Y.length ≤ 20971540 := by
        rw [HY.out, List.length_append]
        have := (formsN_len (L.take (2 * k)) (fun x hx => hL x (List.mem_of_mem_take hx))).2
        rw [List.length_take] at this
        omega
      obtain ⟨ad, rfl, hab, hcell⟩ := (h.below (hb.mono hB)).2 (by omega)
      have c0 := hcell (2 * k) (.int .u64 (L[2 * k]'(by omega) : Nat)) (by simp [wrds, show 2 * k < L.length by omega])
      have c1 := hcell (2 * k + 1) (.int .u64 (L[2 * k + 1]'hle2 : Nat)) (by simp [wrds, hle2])
      have ha := hL L[2 * k] (List.getElem_mem _)
      have hb2 := hL L[2 * k + 1] (List.getElem_mem _)
      have hstep : formsN (L.take (2 * (k + 1))) = formsN (L.take (2 * k)) ++ (numF L[2 * k] ++ numF L[2 * k + 1]) := by
        rw [show 2 * (k + 1) = 2 * k + 1 + 1 by omega, List.take_succ_eq_append_getElem hle2, List.take_succ_eq_append_getElem (by omega), formsN_append, formsN_append, List.append_assoc]
        simp [formsN]
      obtain ⟨x, hx⟩ : ∃ x, L[2 * k] = x := ⟨_, rfl⟩
      obtain ⟨y, hy⟩ : ∃ y, L[2 * k + 1] = y := ⟨_, rfl⟩
      rw [hx] at c0 ha hstep
      rw [hy] at c1 hb2 hstep
      rw [Nat.mul_comm 2 k] at c0 c1
      rw [← add_of_add, add_one_at] at c1
      have hfm := fun W : World => form_any W x y ha hb2
      have lx := numF_le x ha
      have ly := numF_le y hb2
      obtain ⟨Z, hZ⟩ : ∃ Z, numF x ++ numF y = Z := ⟨_, rfl⟩
      have lz : Z.length ≤ 20 := by rw [← hZ, List.length_append]; omega
      unfold Tells at hfm
      rw [hZ] at hstep
      simp only [hZ] at hfm
      have HS := Lib.hid hstep
      clear hstep hx hy hZ lx ly
      have hb3 : Below w.heap.size w (wr.alloc (.cells #[.int .u64 (x : Int), .int .u64 (y : Int)] 61)) := hb.alloc hsz _
      go_wp2_with (first
        | (go_at_call 43; go_must (refine (hfm _).mono ?_); clear hfm; rintro e w2 ⟨A2, c2, rfl, o2, m2⟩; have hb4 : Below w.heap.size w w2 := hb3.trans (m2.mono (by simp; omega)); have o3 := own_fr (own_fr ho (Fr.of_new (S := noB) ((Below.refl _ wr).alloc (Nat.le_refl _) (.cells #[.int .u64 (x : Int), .int .u64 (y : Int)] 61))) (fun _ _ h => h)) (Fr.of_new (S := noB) m2) (fun _ _ h => h))
        | (at_builtin; refine wpList_append_any _ rfl _ _ 24 rfl w.heap.size 5 i0 (.int .u8 0) 1 1 Try.underlying24 hi hz0 hz1 hz2 rfl (by decide) _ _ _ rfl o3 _ _ _ _ _ rfl (Reads.of_own o2) ?c1 ?c2 ?c3 ?c4 ?_))
      case c1 => exact byts_one _
      case c2 => unfold maxLen; omega
      case c3 => omega
      case c4 => exact hb4.size
      intro v5 w5 o5 g5 _
      obtain ⟨A5, c5, rfl⟩ := own_shape o5
      rw [← byts_append] at o5
      have hb5 : Below w.heap.size w w5 := hb4.grown g5 hb4.size (own_base o3)
      have HO := Lib.hid (And.intro o5 hb5)
      clear o5 hb5 g5 o3 o2 m2 hb4 hb3
      go_wp2
      go_roundw
      case rel => exact ⟨k + 1, A5, c5, Y ++ Z, by omega, by go_num, by rw [List.length_append], by rw [HY.out, HS.out, List.append_assoc], by rw [List.length_append]; exact HO.out.1, HO.out.2⟩
      case measure => simp [intOf]; omega
    · have k1 : ¬ (k : Int) < (n : Int) := by omega
      have hk3 : Y = F ++ formsN L := by rw [HY.out, List.take_of_length_le (by have := HLL.out; omega)]
      have HK := Lib.hid hk3
      clear hk3
      go_wp2
      go_ret2
      have hlen : F.length + (formsN L).length = Y.length := by rw [HK.out, List.length_append]
      rw [hlen, ← HK.out]
      exact ⟨G, g, rfl, ho, hb⟩
end Go.Proofs.Ytpnagblbhlglhaa
