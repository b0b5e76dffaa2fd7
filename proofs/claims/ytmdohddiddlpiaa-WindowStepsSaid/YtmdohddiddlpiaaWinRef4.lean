/- The document's window: Copy. Conditions: those that it states. -/
import Derived.Test.YtmdohddiddlpiaaWinRef3
namespace Go.Proofs.Ytmdohddiddlpiaa
open Go.RowKit

set_option maxHeartbeats 1000000 in
set_option maxRecDepth 100000 in
theorem rCopy (w : World) (base q : Nat) (A : Option Addr) (c : Nat) (B : Option Addr) (d size : Nat) (th : List ByteArray) (bk : List Bool) (h : RfW w base q A c B d size th bk) (hb : base ≤ w.heap.size) :
    Calls Try.prog 17 #[.pointer (some ⟨q, 0, none⟩)] w fun e w' => ∃ q2, e = .returned (.pointer (some ⟨q2, 0, none⟩)) ∧ ∃ A2 c2 B2 d2, RfW w' base q2 A2 c2 B2 d2 size th bk ∧ w.heap.size ≤ q2 ∧ (∀ k, blkOf A2 = some k → w.heap.size ≤ k) ∧ (∀ k, blkOf B2 = some k → w.heap.size ≤ k) ∧ Below w.heap.size w w' := by
  obtain ⟨i9, hi, hz0, hz1, hz2⟩ := info_parts Try.info9w
  obtain ⟨i4, hj, hy0, hy1, hy2⟩ := info_parts Try.info4w
  have hN := fun (V : World) (e : Below w.heap.size w V) => h.new e
  have hd : Below w.heap.size w w.drew := (Below.refl _ w).drew
  have c0 := (hN _ hd).c0
  have c1 := (hN _ hd).c1
  have c2 := (hN _ hd).c2
  have hfew := h.few
  have hlen := h.len
  have on9 : w.drew.ownsRow w.heap.size 9 1 (.slice none 0 0) 0 [] := World.ownsRow_nil _ _ _ _
  have r9 := (Reads.of_own h.o1).drew
  have H := Lib.hid h
  obtain ⟨n, hn⟩ : ∃ n, th.length = n := ⟨_, rfl⟩
  obtain ⟨m, hm⟩ : ∃ m, bk.length = m := ⟨_, rfl⟩
  rw [hn] at c1 r9 hlen
  rw [hm] at c2 hlen hfew
  have hfn : n ≤ 100000 := by omega
  have HL := Lib.hid hlen
  have HN := Lib.hid hn
  have HM := Lib.hid hm
  clear h hn hm hlen
  go_enter Try.func17, Try.ntmps17
  go_wp2
  go_region_held_law (fun w' => w'.cell? ⟨q, 0, none⟩ = some (.int .i64 size) ∧ w'.cell? ⟨q, 1, none⟩ = some (.slice A n c) ∧ w'.cell? ⟨q, 2, none⟩ = some (.slice B m d)) (first | (refine ⟨?_, ?_, ?_⟩ <;> assumption) | go_keep) (first
    | (refine step_append_any w.drew rfl _ _ 42 rfl w.heap.size 9 i9 (.string ⟨#[]⟩) 1 16 Try.underlying42 hi hz0 hz1 hz2 rfl (by decide) _ _ _ rfl on9 _ _ _ _ _ rfl r9 (strsV_one _) (by unfold maxLen; omega) (by omega) (Nat.le_refl _) ?_; intro v1 w1 p1 g1 _; obtain ⟨A2, a2, rfl⟩ := own_shape p1; have m1 : Below w.heap.size w w1 := hd.grown g1 hd.size (fun k hk => by cases hk); have d0 := (hN _ m1).c0; have d1 := (hN _ m1).c1; rw [HN.out] at d1; have d2 := (hN _ m1).c2; rw [HM.out] at d2; have on4 : w1.ownsRow w.heap.size 4 1 (.slice none 0 0) 0 [] := World.ownsRow_nil _ _ _ _; have r4 := Reads.of_own (hN _ m1).o2; rw [HM.out] at r4)
    | (refine step_append_any w1 rfl _ _ 43 rfl w.heap.size 4 i4 (.bool false) 1 1 Try.underlying43 hj hy0 hy1 hy2 rfl (by decide) _ _ _ rfl on4 _ _ _ _ _ rfl r4 (boolsV_one _) (by unfold maxLen; omega) (by omega) m1.size ?_; intro v2 w2 p2 g2 _; obtain ⟨B2, b2, rfl⟩ := own_shape p2; have m2 : Below w.heap.size w w2 := m1.grown g2 m1.size (fun k hk => by cases hk); have d3 := (hN _ m2).c0; have d4 := (hN _ m2).c1; rw [HN.out] at d4; have d5 := (hN _ m2).c2; rw [HM.out] at d5))
  have s1 := m1.size
  have s2 := m2.size
  try simp only [Nat.zero_add, List.nil_append] at p1 p2
  have hA2 : ∀ k, blkOf A2 = some k → w.heap.size ≤ k := fun k hk => own_base p1 k (by rw [ownBlock_slice]; exact hk)
  have hB2 : ∀ k, blkOf B2 = some k → w.heap.size ≤ k := fun k hk => own_base p2 k (by rw [ownBlock_slice]; exact hk)
  have p1' := own_fr p1 (Fr.of_grown (S := noB) g2 (fun k hk => by cases hk)) (fun _ _ h => h)
  have hnew : Below w2.heap.size w2 (w2.alloc (.cells #[.int .i64 size, .slice A2 n a2, .slice B2 m b2] 45)) := (Below.refl _ w2).alloc (Nat.le_refl _) _
  have hfin : RfW (w2.alloc (.cells #[.int .i64 size, .slice A2 n a2, .slice B2 m b2] 45)) base w2.heap.size A2 a2 B2 b2 size th bk :=
    ⟨by rw [HN.out, HM.out]; exact Blk.new w2 45 _, by rw [HN.out]; exact own_mono (own_fr p1' (Fr.of_new (S := noB) hnew) (fun _ _ h => h)) hb, by rw [HM.out]; exact own_mono (own_fr p2 (Fr.of_new (S := noB) hnew) (fun _ _ h => h)) hb, by rw [HN.out, HM.out]; exact HL.out, by rw [HM.out]; exact hfew, H.out.sz⟩
  have HF := Lib.hid (And.intro hfin (And.intro hA2 (And.intro hB2 (m2.alloc s2 (.cells #[.int .i64 size, .slice A2 n a2, .slice B2 m b2] 45)))))
  clear hfin hA2 hB2 p1 p1' p2 g1 g2 hnew
  go_wp2
  go_ret
  exact ⟨_, rfl, A2, a2, B2, b2, HF.out.1, s2, HF.out.2.1, HF.out.2.2.1, HF.out.2.2.2⟩
end Go.Proofs.Ytmdohddiddlpiaa
