/- Net[string].Keep of those longer than a number; All. Conditions: those that each states. -/
import Derived.Test.YtbbjbbcakfmpgaaMoreS
namespace Go.Proofs.Ytbbjbbcakfmpgaa
open Go.RowKit

/-- Those longer than N. -/
def longer (N : Int) (xs : List ByteArray) : List ByteArray := xs.filter fun x => decide (N < (x.size : Int))
theorem longer_len (N : Int) (xs : List ByteArray) : (longer N xs).length ≤ xs.length := List.length_filter_le _ _
theorem longer_take (N : Int) (xs : List ByteArray) (i : Nat) (hi : i < xs.length) :
    longer N (xs.take (i + 1)) = if N < ((gets xs i).size : Int) then longer N (xs.take i) ++ [gets xs i] else longer N (xs.take i) := by
  have h : xs.take (i + 1) = xs.take i ++ [gets xs i] := by
    rw [List.take_add_one]
    simp [gets, List.getElem?_eq_getElem hi]
  rw [h, longer, List.filter_append]
  split <;> rename_i hc
  · simp [longer, hc]
  · simp [longer, hc]

set_option maxHeartbeats 400000 in
theorem keepF (w : World) (s : Nat) (k : Value) (N : Int) (t : Value) (x : ByteArray) (hs : Blk w s 40 #[k, .int .i64 N, t]) :
    Calls Try.prog 21 #[.string x, .pointer (some ⟨s, 0, none⟩)] w fun e w' => e = .returned (.bool (decide (N < (x.size : Int)))) ∧ w = w' := by
  have c1 := (hs.cell 1).trans rfl
  go_enter Try.func21, Try.ntmps21
  go_wp2
  go_ret
  exact ⟨rfl, rfl⟩

theorem reads_one_s (w : World) (x : ByteArray) : Reads (w.alloc (.cells #[.string x] 9)) (w.heap.size + 1) 1 (some ⟨w.heap.size, 0, none⟩) 1 [.string x] := by
  refine ⟨rfl, fun _ => ⟨_, rfl, by simp, fun j u hu => ?_⟩⟩
  match j, hu with
  | 0, hu => simp at hu; subst hu; exact ((Blk.new w 9 #[.string x]).cell 0).trans rfl

set_option maxHeartbeats 4000000 in
set_option maxRecDepth 100000 in
theorem keepS (w : World) (B b c : Nat) (A : Option Addr) (xs : List ByteArray) (sent : Int) (h : NetS w B b A c xs sent) (hx : xs.length ≤ 65536) (s : Nat) (k : Value) (N : Int) (t : Value) (hs : Blk w s 40 #[k, .int .i64 N, t]) :
    Calls Try.prog 20 #[.pointer (some ⟨b, 0, none⟩), .func (.func 21) #[] #[.pointer (some ⟨s, 0, none⟩)]] w fun e w' => e = .returned (.int .i64 ((xs.length : Int) - (longer N xs).length)) ∧ TookS w' B b A (longer N xs) sent w := by
  have hB : B ≤ w.heap.size := by have := h.blk.lt; have := h.base; omega
  have ht := there_someS w b true ((h.blk.cell 2).trans rfl)
  have hnf : ∀ (W : World) (a : Option Addr), Sem.run Try.prog (binOp BinOp.eql 45 (Value.func (.func 21) #[] #[.pointer a]) Value.nilFunc) W = .ok (.bool false) W := fun W a => by kernel_rfl
  have c0 : w.cell? ⟨b, 0, none⟩ = some (.slice A xs.length c) := (h.blk.cell 0).trans rfl
  have hcl := cloneS w w.heap.size xs.length c A xs ((Reads.of_own h.own).below (Below.refl _ _)) (net_nil h.own) hx (Nat.le_refl _)
  obtain ⟨i0, hi, hz0, hz1, hz2⟩ := info_parts Try.info9s
  obtain ⟨n, hn⟩ : ∃ n, xs.length = n := ⟨_, rfl⟩
  rw [hn] at c0 hcl hx ⊢
  go_enter Try.func20, Try.ntmps20
  go_wp2_with (first | (go_at_call 33; refine ht.mono ?_; clear ht; rintro e w' ⟨rfl, rfl⟩) | (go_at_call 35; refine hcl.mono ?_; clear hcl; rintro e w1 ⟨A1, c1, rfl, o1, z1, b1⟩))
  clear hnf c0
  go_loopw [5, 22] (fun kv iv wr => ∃ (i : Nat) (G : Option Addr) (m gc : Nat), i ≤ n ∧ iv = .int .i64 i ∧ kv = .slice G m gc ∧ Hid ((longer N (xs.take i)).length = m ∧ wr.ownsRow w.heap.size 9 1 (.slice G m gc) m (strs (longer N (xs.take i))) ∧ Below w1.heap.size w1 wr ∧ (∀ j, blkOf G = some j → w1.heap.size ≤ j))) (fun _ iv _ => n - (intOf iv).toNat)
  case atStart => exact ⟨0, none, 0, 0, by omega, rfl, rfl, Lib.hid ⟨by simp [longer], World.ownsRow_nil _ _ _ _, Below.refl _ _, fun j e => by cases e⟩⟩
  case round =>
  obtain ⟨i, G, m, gc, hin, rfl, rfl, HI⟩ := hrel
  obtain ⟨hm, hown, hbel, hbase⟩ := HI.out
  have hbw : Below w.heap.size w wr := b1.trans (hbel.mono b1.size)
  by_cases hlt : i < n
  · have q1 : (i : Int) < (n : Int) := by omega
    have q2 : (0 : Int) ≤ (i : Int) := by omega
    obtain ⟨g, rfl, hnc, hcell⟩ := own_cellS (own_fr o1 (Fr.of_new (S := noB) hbel) (fun _ _ e => e)) i hlt
    have hf := keepF wr s k N t (gets xs i) (hs.below hbw hs.lt)
    have hstep := longer_take N xs i (by omega)
    have hm65 : m ≤ 65536 := by have := longer_len N (xs.take i); simp at this; omega
    obtain ⟨x, hxe⟩ : ∃ x, gets xs i = x := ⟨_, rfl⟩
    rw [hxe] at hf hstep hcell
    by_cases hc : N < (x.size : Int)
    · rw [if_pos hc] at hstep
      have hR := reads_one_s wr x
      have HS := Lib.hid hstep
      clear hstep
      go_wp2_with (first | (go_at_call 21; refine hf.mono ?_; clear hf; rintro e w' ⟨rfl, rfl⟩) | (at_builtin; refine wpList_append_any _ rfl _ _ 38 rfl w.heap.size 9 i0 (.string ⟨#[]⟩) 1 16 Try.underlying38 hi hz0 hz1 hz2 rfl (by decide) _ _ _ rfl (hown.alloc _) (wr.heap.size + 1) _ 1 1 [.string x] rfl hR ?c1 ?c2 ?c3 ?c4 ?_))
      case c1 => intro u hu; simp at hu; subst hu; rfl
      case c2 => unfold maxLen; omega
      case c3 => omega
      case c4 => have := hbw.size; simp; omega
      intro v4 w4 g4 hg4 hat4
      obtain ⟨G4, c4, rfl⟩ := own_shape g4
      have hbase4 : ∀ j, blkOf G4 = some j → w1.heap.size ≤ j := by
        intro j hj
        rcases own_at hat4 j hj with e | e
        · exact hbase j e
        · have := hbel.size; (try simp at e); omega
      have hbel4 : Below w1.heap.size w1 w4 := (hbel.alloc hbel.size _).grown hg4 (by have := hbel.size; simp; omega) (fun j e => hbase j (by rw [ownBlock_slice] at e; exact e))
      go_wp2
      go_roundw
      case rel => exact ⟨i + 1, G4, m + 1, c4, by omega, by go_num, rfl, Lib.hid ⟨by rw [HS.out, List.length_append, hm]; rfl, by rw [HS.out, strs_append]; exact g4, hbel4, hbase4⟩⟩
      case measure => simp [intOf]; omega
    · rw [if_neg hc] at hstep
      have HS := Lib.hid hstep
      have hcd : decide (N < (x.size : Int)) = false := by simp; omega
      rw [hcd] at hf
      clear hstep hc hcd
      go_wp2_with (first | (go_at_call 21; refine hf.mono ?_; clear hf; rintro e w' ⟨rfl, rfl⟩))
      go_roundw
      case rel => exact ⟨i + 1, G, m, gc, by omega, by go_num, rfl, by rw [HS.out]; exact HI⟩
      case measure => simp [intOf]; omega
  · obtain rfl : i = n := by omega
    have hb2 := h.blk.below hbw h.blk.lt
    have d0 := (hb2.cell 0).trans rfl
    have f0 := hb2.frozen 0
    have htk : xs.take i = xs := List.take_of_length_le (by omega)
    rw [htk] at hm hown
    rw [hn] at d0
    have hm65 : m ≤ 65536 := by have := longer_len N xs; omega
    have u : IntKind.i64.wrap ((i : Int) - (m : Int)) = (i : Int) - m := IntWalk.i64_in _ (by omega)
    have HE := Lib.hid (And.intro hb2 (And.intro hown (And.intro hm htk)))
    clear hb2 hown hm htk HI
    go_wp2
    go_ret
    obtain ⟨hb2, hown, hm, htk⟩ := HE.out
    refine ⟨by rw [hm]; rfl, G, gc, ⟨?_, h.base, ?_⟩, ?_, ?_⟩
    · have := hb2.set_ 0 (.slice G m gc)
      rw [hm]
      simpa using this
    · rw [hm]
      exact own_setCell (own_mono hown hB) (own_blk_ne hown hb2 (by decide)) _
    · exact (Fr.of_new (S := fpI b A) hbw).setCell (p := ⟨b, 0, none⟩) (fun _ => .inl rfl) _
    · intro j hj
      exact .inr (Nat.le_trans b1.size (hbase j hj))

/-- All: a copy, boxed. -/
theorem allS (w : World) (B b c : Nat) (A : Option Addr) (xs : List ByteArray) (sent : Int) (h : NetS w B b A c xs sent) (hx : xs.length ≤ 65536) :
    Calls Try.prog 36 #[.pointer (some ⟨b, 0, none⟩)] w fun e w' => ∃ a, e = .returned (.func (.func 42) #[] #[.pointer (some ⟨a, 0, none⟩)]) ∧ w.heap.size ≤ a ∧ ∃ A1 c1, Blk w' a 38 #[.slice A1 xs.length c1] ∧ w'.ownsRow w.heap.size 9 1 (.slice A1 xs.length c1) xs.length (strs xs) ∧ Below w.heap.size w w' := by
  have hal := h.below ((Below.refl w.heap.size w).alloc (Nat.le_refl _) (.cells #[.slice none 0 0] 38)) (Nat.le_refl _)
  have ht := there_someS _ b true ((hal.blk.cell 2).trans rfl)
  have hB : B ≤ w.heap.size := by have := h.blk.lt; have := h.base; omega
  have c0 := (hal.blk.cell 0).trans rfl
  have hcl := cloneS _ _ xs.length c A xs ((Reads.of_own hal.own).below (Below.refl _ _)) (net_nil h.own) hx (Nat.le_refl _)
  have kb := Blk.new w 38 #[.slice none 0 0]
  have hb0 : Below w.heap.size w (w.alloc (.cells #[.slice none 0 0] 38)) := (Below.refl _ _).alloc (Nat.le_refl _) _
  clear hal
  obtain ⟨n, hn⟩ : ∃ n, xs.length = n := ⟨_, rfl⟩
  rw [hn] at c0 hcl ⊢
  go_enter Try.func36, Try.ntmps36
  go_wp2_with (first | (go_at_call 33; refine ht.mono ?_; clear ht; rintro e w' ⟨rfl, rfl⟩) | (go_at_call 35; refine hcl.mono ?_; clear hcl; rintro e w1 ⟨A1, c1, rfl, o1, z1, b1⟩; have k1 := kb.below b1 kb.lt; have k1c := (k1.cell 0).trans rfl; have k1f := k1.frozen 0))
  go_ret
  refine ⟨_, rfl, Nat.le_refl _, A1, c1, k1.set_ 0 _, ?_, ((hb0.trans (b1.mono hb0.size)).setCell (p := ⟨w.heap.size, 0, none⟩) (Nat.le_refl _) _)⟩
  exact own_mono (own_setCell o1 (own_blk_ne o1 k1 (by decide)) _) (by simp)

end Go.Proofs.Ytbbjbbcakfmpgaa
