/- Net[string]: the contracts of New, there, Len, Sent, At, Send. Conditions: those that each states. -/
import Derived.Test.YtbbjbbcakfmpgaaNetI
import Derived.Test.YtbbjbbcakfmpgaaWords
import Derived.WalkLawsBesides
import Derived.WalkSpells
import Derived.Deep.QuietTactic
import Derived.BigQuiet
import Derived.Outline
namespace Go.Proofs.Ytbbjbbcakfmpgaa
open Go.RowKit

/-- An element, as a word that the walk leaves alone. -/
def gets (xs : List ByteArray) (i : Nat) : ByteArray := xs.getD i ⟨#[]⟩
def strs (xs : List ByteArray) : List Value := xs.map (Value.string)
theorem strs_length (xs : List ByteArray) : (strs xs).length = xs.length := by simp [strs]
theorem strs_append (xs ys : List ByteArray) : strs (xs ++ ys) = strs xs ++ strs ys := by simp [strs]
theorem strs_one (xs : List ByteArray) : ∀ u ∈ strs xs, u.oneCell' = true := by
  intro u hu
  simp only [strs, List.mem_map] at hu
  obtain ⟨x, _, rfl⟩ := hu
  rfl

/-- A net of strs: its struct is block b, its row a row of the call's own from block B on. -/
structure NetS (W : World) (B b : Nat) (A : Option Addr) (c : Nat) (xs : List ByteArray) (sent : Int) : Prop where
  blk : Blk W b 57 #[.slice A xs.length c, .int .i64 sent, .bool true]
  base : B ≤ b
  own : W.ownsRow B 9 1 (.slice A xs.length c) xs.length (strs xs)

theorem NetS.fp_base {W : World} {B b c : Nat} {A : Option Addr} {xs : List ByteArray} {sent : Int} (h : NetS W B b A c xs sent) : ∀ k, fpI b A k → B ≤ k := by
  rintro k (rfl | e)
  · exact h.base
  · exact own_base h.own k (by rw [ownBlock_slice]; exact e)
theorem StS.below {W W' : World} {B b c : Nat} {A A1 : Option Addr} {xs : List ByteArray} {sent : Int} (h : NetS W B b A c xs sent) (hs : StI b A A1 W W') : Below B W W' :=
  hs.fr.below h.fp_base (by have := h.blk.lt; have := h.base; omega)
theorem NetS.fr {W W' : World} {B b c : Nat} {A : Option Addr} {xs : List ByteArray} {sent : Int} {S : Nat → Prop} (h : NetS W B b A c xs sent) (hf : Fr S W W') (hs : ∀ k, fpI b A k → ¬ S k) : NetS W' B b A c xs sent :=
  ⟨h.blk.fr hf (hs _ (.inl rfl)), h.base, own_fr h.own hf fun k hk => hs k (.inr (by rw [ownBlock_slice] at hk; exact hk))⟩

theorem NetS.drewN {W : World} {B b c : Nat} {A : Option Addr} {xs : List ByteArray} {sent : Int} (h : NetS W B b A c xs sent) (n : Nat) : NetS (W.drewN n) B b A c xs sent := ⟨h.blk, h.base, h.own⟩
theorem NetS.below {W W' : World} {B b c : Nat} {A : Option Addr} {xs : List ByteArray} {sent : Int} (h : NetS W B b A c xs sent) {D : Nat} (hb : Below D W W') (hd : W.heap.size ≤ D) : NetS W' B b A c xs sent :=
  ⟨h.blk.below hb (by have := h.blk.lt; omega), h.base, h.own.kept (row := none) ⟨hb.os, hb.tape, hb.output, hb.size, fun k hk _ => hb.block k (by omega)⟩ (by cases (Value.slice A xs.length c).ownBlock <;> simp)⟩

set_option maxHeartbeats 400000 in
theorem there_someS (w : World) (b : Nat) (m : Bool) (hc : w.cell? ⟨b, 2, none⟩ = some (.bool m)) :
    Calls Try.prog 33 #[.pointer (some ⟨b, 0, none⟩)] w fun e w' => e = .returned (.bool m) ∧ w = w' := by
  go_enter Try.func33, Try.ntmps33
  go_wp2
  go_ret
  exact ⟨rfl, rfl⟩

set_option maxHeartbeats 400000 in
theorem there_noneS (w : World) :
    Calls Try.prog 33 #[.pointer none] w fun e w' => e = .returned (.bool false) ∧ w = w' := by
  go_enter Try.func33, Try.ntmps33
  go_wp2
  go_ret
  exact ⟨rfl, rfl⟩

set_option maxHeartbeats 400000 in
theorem newS (w : World) :
    Calls Try.prog 14 #[] w fun e w' => e = .returned (.pointer (some ⟨w.heap.size, 0, none⟩)) ∧ NetS w' w.heap.size w.heap.size none 0 [] 0 ∧ Below w.heap.size w w' := by
  go_enter Try.func14, Try.ntmps14
  go_wp2
  go_ret
  refine ⟨rfl, ⟨Blk.new w 57 _, Nat.le_refl _, World.ownsRow_nil _ _ _ _⟩, (Below.refl _ _).alloc (Nat.le_refl _) _⟩

set_option maxHeartbeats 400000 in
theorem lenS (w : World) (B b c : Nat) (A : Option Addr) (xs : List ByteArray) (sent : Int) (h : NetS w B b A c xs sent) :
    Calls Try.prog 24 #[.pointer (some ⟨b, 0, none⟩)] w fun e w' => e = .returned (.int .i64 xs.length) ∧ w = w' := by
  have c0 : w.cell? ⟨b, 0, none⟩ = some (.slice A xs.length c) := (h.blk.cell 0).trans rfl
  have c2 : w.cell? ⟨b, 2, none⟩ = some (.bool true) := (h.blk.cell 2).trans rfl
  go_enter Try.func24, Try.ntmps24
  go_wp2_with (go_at_call 33; refine (there_someS _ _ _ (by assumption)).mono ?_; rintro e w' ⟨rfl, rfl⟩)
  go_ret
  exact ⟨rfl, rfl⟩

set_option maxHeartbeats 400000 in
theorem sentS (w : World) (B b c : Nat) (A : Option Addr) (xs : List ByteArray) (sent : Int) (h : NetS w B b A c xs sent) :
    Calls Try.prog 25 #[.pointer (some ⟨b, 0, none⟩)] w fun e w' => e = .returned (.int .i64 sent) ∧ w = w' := by
  have c1 : w.cell? ⟨b, 1, none⟩ = some (.int .i64 sent) := (h.blk.cell 1).trans rfl
  have c2 : w.cell? ⟨b, 2, none⟩ = some (.bool true) := (h.blk.cell 2).trans rfl
  go_enter Try.func25, Try.ntmps25
  go_wp2_with (go_at_call 33; refine (there_someS _ _ _ (by assumption)).mono ?_; rintro e w' ⟨rfl, rfl⟩)
  go_ret
  exact ⟨rfl, rfl⟩

theorem own_cellS {w : World} {B c n : Nat} {A : Option Addr} {xs : List ByteArray} (h : w.ownsRow B 9 1 (.slice A n c) n (strs xs)) (i : Nat) (hi : i < n) :
    ∃ g, A = some ⟨g, 0, none⟩ ∧ n ≤ c ∧ w.cell? ⟨g, i, none⟩ = some (.string (gets xs i)) := by
  obtain ⟨g, cap, hv, hB, hlt⟩ := h.form (by omega)
  injection hv with h1 h2 h3
  subst h1; subst h3
  have hl : xs.length = n := by have := h.1; rw [strs_length] at this; omega
  have hnc : n ≤ c := by
    rcases h.2 with ⟨hn, _⟩ | ⟨g', cap', cur, hv', _, _, hle, _⟩
    · cases hn
    · injection hv' with _ _ h3; omega
  refine ⟨g, rfl, hnc, ?_⟩
  have := h.cells (g := g) rfl i (.string (gets xs i)) (by simp [strs, gets, List.getElem?_eq_getElem (show i < xs.length by omega)])
  rwa [show (⟨g, 0, none⟩ : Addr).add i = ⟨g, i, none⟩ by unfold Addr.add; split <;> simp_all] at this

set_option maxHeartbeats 400000 in
theorem atS_in (w : World) (B b c : Nat) (A : Option Addr) (xs : List ByteArray) (sent : Int) (i : Nat) (h : NetS w B b A c xs sent) (hi : i < xs.length) (hx : xs.length ≤ 65536) :
    Calls Try.prog 18 #[.pointer (some ⟨b, 0, none⟩), .int .i64 i] w fun e w' => e = .returned (.tuple #[.string (gets xs i), .int .i64 0]) ∧ w = w' := by
  have c0 : w.cell? ⟨b, 0, none⟩ = some (.slice A xs.length c) := (h.blk.cell 0).trans rfl
  have c2 : w.cell? ⟨b, 2, none⟩ = some (.bool true) := (h.blk.cell 2).trans rfl
  obtain ⟨g, rfl, hnc, hcell⟩ := own_cellS h.own i hi
  have h0 : ¬ ((i : Int) < 0) := by omega
  have h1 : ¬ ((xs.length : Int) ≤ (i : Int)) := by omega
  go_enter Try.func18, Try.ntmps18
  go_wp2_with (go_at_call 33; refine (there_someS _ _ _ (by assumption)).mono ?_; rintro e w' ⟨rfl, rfl⟩)
  go_ret2
  exact ⟨rfl, rfl⟩

set_option maxHeartbeats 400000 in
theorem atS_out (w : World) (B b c : Nat) (A : Option Addr) (xs : List ByteArray) (sent : Int) (i : Int) (h : NetS w B b A c xs sent) (hi : i < 0 ∨ (xs.length : Int) ≤ i) :
    Calls Try.prog 18 #[.pointer (some ⟨b, 0, none⟩), .int .i64 i] w fun e w' => e = .returned (.tuple #[.string ⟨#[]⟩, .int .i64 5]) ∧ w = w' := by
  have c0 : w.cell? ⟨b, 0, none⟩ = some (.slice A xs.length c) := (h.blk.cell 0).trans rfl
  have c2 : w.cell? ⟨b, 2, none⟩ = some (.bool true) := (h.blk.cell 2).trans rfl
  by_cases h0 : i < 0
  · go_enter Try.func18, Try.ntmps18
    go_wp2_with (go_at_call 33; refine (there_someS _ _ _ (by assumption)).mono ?_; rintro e w' ⟨rfl, rfl⟩)
    go_ret2
    exact ⟨rfl, rfl⟩
  · have h1 : (xs.length : Int) ≤ i := by omega
    go_enter Try.func18, Try.ntmps18
    go_wp2_with (go_at_call 33; refine (there_someS _ _ _ (by assumption)).mono ?_; rintro e w' ⟨rfl, rfl⟩)
    go_ret2
    exact ⟨rfl, rfl⟩

theorem Try.info9s : (Try.prog.info? 9).map (fun i => (i.zero, i.size, i.bytes)) = some (some (.string ⟨#[]⟩), 1, 16) := by kernel_rfl

set_option maxHeartbeats 800000 in
/-- Send: whatever is handed in lies below B. -/
theorem sendS (w : World) (B b c : Nat) (A : Option Addr) (xs : List ByteArray) (sent : Int) (h : NetS w B b A c xs sent) (B' : Nat) (A' : Option Addr) (c' : Nat) (zs : List ByteArray) (hz : Reads w B' 1 A' zs.length (strs zs))
    (hx : (zs.length : Int) ≤ 65536 - xs.length) (hx2 : xs.length ≤ 65536) (hs : 0 ≤ sent) (hs2 : sent ≤ 1000000000) :
    Calls Try.prog 15 #[.pointer (some ⟨b, 0, none⟩), .slice A' zs.length c'] w fun e w' => e = .returned (.int .i64 0) ∧ ∃ A1 c1, NetS w' B b A1 c1 (xs ++ zs) (sent + zs.length) ∧ StI b A A1 w w' := by
  have c0 : w.cell? ⟨b, 0, none⟩ = some (.slice A xs.length c) := (h.blk.cell 0).trans rfl
  have c1 : w.cell? ⟨b, 1, none⟩ = some (.int .i64 sent) := (h.blk.cell 1).trans rfl
  have c2 : w.cell? ⟨b, 2, none⟩ = some (.bool true) := (h.blk.cell 2).trans rfl
  obtain ⟨i0, hi, hz0, hz1, hz2⟩ := info_parts Try.info9s
  go_enter Try.func15, Try.ntmps15
  go_wp2_with (first | (go_at_call 33; refine (there_someS _ _ _ (by assumption)).mono ?_; rintro e w' ⟨rfl, rfl⟩) | (at_builtin; refine wpList_append_any _ rfl _ _ 38 rfl B 9 i0 (.string ⟨#[]⟩) 1 16 Try.underlying38 hi hz0 hz1 hz2 rfl (by decide) _ _ _ rfl h.own B' A' zs.length c' (strs zs) rfl hz ?c1 ?c2 ?c3 ?c4 ?_))
  case c1 => exact strs_one zs
  case c2 => unfold maxLen; omega
  case c3 => omega
  case c4 => have := h.blk.lt; have := h.base; omega
  intro v' w1 hown hg hat
  obtain ⟨A1, d1, rfl⟩ := own_shape hown
  have hb1 : Blk w1 b 57 #[.slice A xs.length c, .int .i64 sent, .bool true] := h.blk.grown hg (Ne.symm (own_blk_ne h.own h.blk (by decide)))
  have k0 : w1.cell? ⟨b, 0, none⟩ = some (.slice A xs.length c) := (hb1.cell 0).trans rfl
  have k1 : w1.cell? ⟨b, 1, none⟩ = some (.int .i64 sent) := (hb1.cell 1).trans rfl
  have f0 := hb1.frozen 0
  have f1 := hb1.frozen 1
  clear c0 c1 c2
  go_wp2
  go_ret
  have hB : B ≤ w.heap.size := by have := h.blk.lt; have := h.base; omega
  refine ⟨rfl, A1, d1, ⟨?_, h.base, ?_⟩, ?_, own_at hat⟩
  · have := (hb1.set_ 0 (.slice A1 (xs.length + zs.length) d1)).set_ 1 (.int .i64 (sent + zs.length))
    simpa using this
  · have := own_setCell (own_setCell hown (own_blk_ne hown hb1 (by decide)) (p := ⟨b, 0, none⟩) (.slice A1 (xs.length + zs.length) d1)) (own_blk_ne hown hb1 (by decide)) (p := ⟨b, 1, none⟩) (.int .i64 (sent + zs.length))
    simpa [strs_append] using this
  · exact (((Fr.of_grown hg (fun k e => .inr (by rw [ownBlock_slice] at e; exact e)) : Fr (fpI b A) w w1)).setCell (p := ⟨b, 0, none⟩) (fun _ => .inl rfl) _).setCell (p := ⟨b, 1, none⟩) (fun _ => .inl rfl) _

theorem sendS_n (w : World) (B b c : Nat) (A : Option Addr) (xs : List ByteArray) (sent : Int) (h : NetS w B b A c xs sent) (B' : Nat) (A' : Option Addr) (n c' : Nat) (zs : List ByteArray) (hz : Reads w B' 1 A' n (strs zs))
    (hx : (n : Int) ≤ 65536 - xs.length) (hx2 : xs.length ≤ 65536) (hs : 0 ≤ sent) (hs2 : sent ≤ 1000000000) :
    Calls Try.prog 15 #[.pointer (some ⟨b, 0, none⟩), .slice A' n c'] w fun e w' => e = .returned (.int .i64 0) ∧ ∃ A1 c1, NetS w' B b A1 c1 (xs ++ zs) (sent + n) ∧ StI b A A1 w w' := by
  obtain rfl : zs.length = n := by have := hz.1; rw [strs_length] at this; omega
  exact sendS w B b c A xs sent h B' A' c' zs hz hx hx2 hs hs2

end Go.Proofs.Ytbbjbbcakfmpgaa
