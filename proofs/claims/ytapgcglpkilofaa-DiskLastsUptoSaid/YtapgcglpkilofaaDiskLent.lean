/- lent and left of wicketlaw03; bytes typed out. Conditions: those that each states. -/
import Derived.Test.YtapgcglpkilofaaDiskNo
import Derived.Laws.Concat
namespace Go.Proofs.Ytapgcglpkilofaa
open Go.RowKit

theorem strN_add (l m : List Nat) : strN (l ++ m) = strN l ++ strN m := by
  apply ByteArray.ext
  simp [strN, ByteArray.data_append]
theorem reads_lit (w : World) (cs : Array Value) (b : List Nat) (n : Nat) (h : cs.toList = byts b) (hn : b.length = n) : Reads (w.alloc (.cells cs 5)) (w.alloc (.cells cs 5)).heap.size 1 (some ⟨w.heap.size, 0, none⟩) n (byts b) := by
  refine ⟨by rw [byts_length]; omega, fun _ => ⟨_, rfl, by simp, fun j u hu => ?_⟩⟩
  rw [addr_add, (Blk.new w 5 cs).cell, ← h] at *
  simpa using hu

set_option maxHeartbeats 1000000 in
set_option maxRecDepth 100000 in
/-- Bytes in new memory, with a mark behind. -/
theorem lent_any (w : World) (B : Nat) (A : Option Addr) (n c : Nat) (l : List Nat) (h : Reads w B 1 A n (byts l)) (hB : B ≤ w.heap.size) (hn : n ≤ 140737488351240) :
    Calls Try.prog 6 #[.slice A n c] w fun e w' => ∃ A2 c2, e = .returned (.slice A2 n c2) ∧ w'.ownsRow w.heap.size 5 1 (.slice A2 (n + 1) c2) (n + 1) (byts (l ++ [165])) ∧ Below w.heap.size w w' := by
  obtain ⟨i0, hi, hz0, hz1, hz2⟩ := info_parts Try.info5w
  have hro := fun W : World => reads_lit W #[.int .u8 165] [165] 1 rfl rfl
  go_enter Try.func6, Try.ntmps6
  go_wp2_with (at_builtin; refine wpList_append_any _ rfl _ _ 22 rfl w.heap.size 5 i0 (.int .u8 0) 1 1 Try.underlying22 hi hz0 hz1 hz2 rfl (by decide) _ _ _ rfl (World.ownsRow_nil _ _ _ _) B A n c _ rfl h ?c1 ?c2 ?c3 ?c4 ?_)
  case c1 => exact byts_one _
  case c2 => unfold maxLen; omega
  case c3 => omega
  case c4 => exact Nat.le_refl _
  intro v1 w1 o1 g1 _
  obtain ⟨P1, p1, rfl⟩ := own_shape o1
  try simp only [Nat.zero_add, List.nil_append] at o1
  have hb1 : Below w.heap.size w w1 := (Below.refl _ _).grown g1 (Nat.le_refl _) (fun k hk => by cases hk)
  go_wp2_with (at_builtin; refine wpList_append_any _ rfl _ _ 22 rfl w.heap.size 5 i0 (.int .u8 0) 1 1 Try.underlying22 hi hz0 hz1 hz2 rfl (by decide) _ _ _ rfl (o1.alloc _) _ (some ⟨w1.heap.size, 0, none⟩) 1 1 _ rfl (hro w1) ?c1 ?c2 ?c3 ?c4 ?_)
  case c1 => exact byts_one _
  case c2 => unfold maxLen; omega
  case c3 => omega
  case c4 => simp; have := hb1.size; omega
  intro v2 w2 o2 g2 _
  obtain ⟨P2, p2, rfl⟩ := own_shape o2
  have hb2 : Below w.heap.size w w2 := (hb1.alloc hb1.size _).grown g2 (by simp; have := hb1.size; omega) (own_base o1)
  rw [← byts_append] at o2
  obtain ⟨g, rfl, _⟩ := own_open o2 (by omega)
  have hcap := (own_cap o2).1
  have k0 : (0 : Int) ≤ (n : Int) := by omega
  have k1 : (n : Int) ≤ (p2 : Int) := by omega
  go_wp2
  go_ret
  exact ⟨_, p2, rfl, o2, hb2⟩

set_option maxHeartbeats 2000000 in
set_option maxRecDepth 100000 in
/-- What was lent stands; then it is written over. -/
theorem left_any (w : World) (base B2 : Nat) (A A2 : Option Addr) (n c c2 : Nat) (l : List Nat) (h : w.ownsRow base 5 1 (.slice A (n + 1) c) (n + 1) (byts (l ++ [165]))) (h2 : Reads w B2 1 A2 n (byts l)) (hs : Small l) (hn : n ≤ 140737488351240) :
    Calls Try.prog 9 #[.slice A n c, .slice A2 n c2] w fun e w' => e = .returned (.bool true) ∧ Fr (fun k => blkOf A = some k) w w' := by
  have hcap := (own_cap h).1
  have hl : l.length = n := by have := h2.1; rw [byts_length] at this; omega
  have hr : Reads w w.heap.size 1 A n (byts l) := by
    have := (Reads.of_own (own_take h (k := n) (by omega)))
    rwa [byts_append, ← hl, ← byts_length l, List.take_left, byts_length, hl] at this
  obtain ⟨g, rfl, hgb, hgl, hcell, _, _⟩ := own_open h (by omega)
  have t1 := run_str (P := Try.prog) (src := 22) (dst := 9) (c := c) rfl rfl rfl hr hs
  have t2 := run_str (P := Try.prog) (src := 22) (dst := 9) (c := c2) rfl rfl rfl h2 hs
  have cn : w.cell? ⟨g, n, none⟩ = some (.int .u8 165) := hcell n _ (by rw [byts_append, List.getElem?_append_right (by rw [byts_length]; omega), byts_length, hl, Nat.sub_self]; rfl)
  obtain ⟨p, hp⟩ : ∃ p, n + 1 = p := ⟨_, rfl⟩
  have u1 : IntKind.i64.wrap ((n : Int) + 1) = (p : Int) := by rw [IntWalk.i64_in _ (by omega)]; omega
  have u2 : (0 : Int) ≤ (p : Int) := by omega
  have u3 : (p : Int) ≤ (c : Int) := by omega
  have u4 : (n : Int) < (p : Int) := by omega
  have u5 : n < p := by omega
  have H := Lib.hid (own_take h (k := n) (by omega))
  have HP := Lib.hid (And.intro hp hcap)
  generalize strN l = X at *
  clear h h2 hr hcell hl hp hcap
  go_enter Try.func9, Try.ntmps9
  go_wp2
  clear t1 t2 cn u1 u2 u3 u4 u5
  go_loopw [7] (fun iv wr => ∃ (k : Nat) (bs : List Nat), k ≤ n ∧ iv = .int .i64 k ∧ wr.ownsRow base 5 1 (.slice (some ⟨g, 0, none⟩) n c) n (byts bs) ∧ Fr (fun k => blkOf (some (⟨g, 0, none⟩ : Addr)) = some k) w wr) (fun iv _ => n - (intOf iv).toNat)
  case atStart =>
    refine ⟨0, (l ++ [165]).take n, by omega, rfl, ?_, Fr.refl _ _⟩
    rw [byts_take]
    exact H.out
  case round =>
    obtain ⟨k, bs, hk, rfl, h, hf⟩ := hrel
    clear H
    by_cases hlt : k < n
    · have k1 : (k : Int) < (n : Int) := by omega
      obtain ⟨g', hg', hgb, _, hcell, hfr, hst⟩ := own_open h (by omega)
      obtain rfl : g = g' := by injection hg' with e; injection e
      have hlen : bs.length = n := by have := h.1; rw [byts_length] at this; omega
      have cj := hcell k (.int .u8 (bs[k]'(by omega) : Nat)) (by simp [byts, show k < bs.length by omega])
      have fj := hfr k
      have hs2 := hst k (.int .u8 ((99 : Nat) : Int)) hlt
      have hset : (byts bs).set k (.int .u8 ((99 : Nat) : Int)) = byts (bs.set k 99) := by simp [byts, List.map_set]
      rw [hset] at hs2
      have hf2 : Fr (fun k => blkOf (some (⟨g, 0, none⟩ : Addr)) = some k) w (wr.setCell ⟨g, k, none⟩ (.int .u8 ((99 : Nat) : Int))) := hf.setCell (p := ⟨g, k, none⟩) (fun _ => rfl) _
      have HS := Lib.hid (And.intro hs2 hf2)
      clear hset hst hcell hfr hs2 hf2 h hg'
      go_wp2
      go_roundw
      case rel => exact ⟨k + 1, bs.set k 99, by omega, by go_num, HS.out.1, HS.out.2⟩
      case measure => simp [intOf]; omega
    · go_wp2
      go_ret
      exact ⟨rfl, hf⟩
end Go.Proofs.Ytapgcglpkilofaa
