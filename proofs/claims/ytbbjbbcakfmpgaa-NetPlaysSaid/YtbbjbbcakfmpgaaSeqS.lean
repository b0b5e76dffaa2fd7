/- slices.All of texts, Net[string].All's iterator: what a going over tells. Conditions: those that each states. -/
import Derived.Test.YtbbjbbcakfmpgaaKeepS
import Derived.Test.YtbbjbbcakfmpgaaSeq
import Derived.Test.YtbbjbbcakfmpgaaRangeG
namespace Go.Proofs.Ytbbjbbcakfmpgaa
open Go.RowKit Go.Shelf
attribute [local go_sem] Oper.semAt_some

/-- Things with their places. -/
def numS (xs : List ByteArray) : List (Nat × ByteArray) := (List.range xs.length).map fun i => (i, gets xs i)
theorem numS_len (xs : List ByteArray) : (numS xs).length = xs.length := by simp [numS]
theorem numS_take (xs : List ByteArray) (i : Nat) (hi : i < xs.length) : (numS xs).take (i + 1) = (numS xs).take i ++ [(i, gets xs i)] := by
  rw [List.take_add_one]
  simp [numS, List.getElem?_range hi]
theorem numS_pre (xs : List ByteArray) (pre : List (Nat × ByteArray)) (x : Nat × ByteArray) (h : pre ++ [x] <+: numS xs) : pre.length < xs.length ∧ x = (pre.length, gets xs pre.length) := by
  obtain ⟨t, ht⟩ := h
  have hl : pre.length < xs.length := by
    have := congrArg List.length ht
    rw [numS_len] at this
    simp at this
    omega
  refine ⟨hl, ?_⟩
  have h1 : (numS xs)[pre.length]? = some x := by
    rw [← ht, List.append_assoc, List.getElem?_append_right (Nat.le_refl _)]
    simp
  simp [numS, List.getElem?_range hl] at h1
  exact h1.symm
def encS (x : Nat × ByteArray) : Array Value := #[.int .i64 (x.1 : Nat), .string x.2]
/-- What a round learns of the thing that it is told. -/
def GS (xs : List ByteArray) (pre : List (Nat × ByteArray)) (x : Nat × ByteArray) (_ : Nat) (_ : World) : Prop := pre ++ [x] <+: numS xs
/-- The types of an iterator's blocks. -/
def itT : TypeId → Prop := fun t => t = 9 ∨ t = 38 ∨ t = 71
theorem own_kp {W W' : World} {B n c : Nat} {A : Option Addr} {vs : List Value} (h : W.ownsRow B 9 1 (.slice A n c) n vs) (hk : KpFrom itT B W W') : W'.ownsRow B 9 1 (.slice A n c) n vs := by
  refine ⟨h.1, ?_⟩
  rcases h.2 with h2 | ⟨g, cap, cur, hv, hb, hh, r⟩
  · exact .inl h2
  · exact .inr ⟨g, cap, cur, hv, hb, hk g _ _ _ hb (.inl rfl) hh, r⟩

theorem sliceAllS (w : World) (A : Option Addr) (n c : Nat) : Calls Try.prog 43 #[.slice A n c] w fun e w' => e = .returned (.func (.func 45) #[] #[.pointer (some ⟨w.heap.size, 0, none⟩)]) ∧ w' = w.alloc (.cells #[.slice A n c] 38) := by
  go_enter Try.func43, Try.ntmps43
  go_wp2
  go_ret
  exact ⟨rfl, rfl⟩

set_option maxHeartbeats 4000000 in
set_option maxRecDepth 100000 in
theorem seq45 (w : World) (n₀ Bn n c : Nat) (A : Option Addr) (xs : List ByteArray) (hB : Blk w Bn 38 #[.slice A n c]) (h : w.ownsRow n₀ 9 1 (.slice A n c) n (strs xs)) (hn : n ≤ 65536) (d : Nat) :
    SeqG d Try.prog 45 #[.pointer (some ⟨Bn, 0, none⟩)] encS (KpFrom itT n₀) (GS xs) (fun ys => ys = numS xs) (fun _ => True) (fun _ W1 W' => W' = W1) w := by
  have hlen : xs.length = n := by have := h.1; rw [strs_length] at this; omega
  intro L J Jx V hV hJ hJx hYi h0
  have x0 := ((hB.below hV hB.lt).cell 0).trans rfl
  have hr := own_fr h (Fr.of_new (S := noB) hV) (fun _ _ e => e)
  have H := Lib.hid (And.intro h0 hr)
  clear h0 hr hB h
  refine callsIn_of_wp Try.func45 rfl trivial ?_ rfl
  simp only [Try.ntmps45, List.size_toArray, List.length_cons, List.length_nil, Nat.reduceAdd, Nat.reduceSub, Array.replicate_succ, Array.replicate_zero, List.push_toArray, List.append_toArray, List.nil_append, List.cons_append]
  gi_wp2
  gi_loopw [7] (fun iv wr => ∃ i : Nat, i ≤ n ∧ iv = .int .i64 i ∧ Hid (J ((numS xs).take i) wr ∧ wr.ownsRow n₀ 9 1 (.slice A n c) n (strs xs))) (fun iv _ => n - (intOf iv).toNat)
  case atStart => exact ⟨0, by omega, rfl, by simpa using H⟩
  case round =>
  clear H x0
  obtain ⟨i, hin, rfl, HI⟩ := hrel
  by_cases hlt : i < n
  · have q1 : (i : Int) < (n : Int) := by omega
    have q2 : (0 : Int) ≤ (i : Int) := by omega
    obtain ⟨g, rfl, hnc, hcell⟩ := own_cellS HI.out.2 i hlt
    have hst := numS_take xs i (by omega)
    have hpre : (numS xs).take i ++ [(i, gets xs i)] <+: numS xs := by rw [← hst]; exact List.take_prefix _ _
    have hy0 := hYi ((numS xs).take i) (i, gets xs i) wr wr HI.out.1 (Below.refl _ _) hpre
    obtain ⟨x, hx⟩ : ∃ x, gets xs i = x := ⟨_, rfl⟩
    rw [hx] at hst hpre hy0 hcell
    unfold encS at hy0
    dsimp only at hy0
    obtain ⟨fn, tmps, assign, body, hy, hR⟩ := hy0
    have HS := Lib.hid hst
    clear hst hpre hYi hx
    gi_wp2
    refine ⟨fun h => (by cases h), hR.mono ?_⟩
    clear hy hR hcell
    rintro e W' (⟨rfl, hj, hkp, _⟩ | ⟨rfl, hjx, _⟩)
    · gi_wp2
      go_roundw
      case rel => exact ⟨i + 1, by omega, by go_num, by rw [HS.out]; exact Lib.hid ⟨hj, own_kp HI.out.2 hkp⟩⟩
      case measure => simp [intOf]; omega
    · gi_wp2
      refine bodyPost_ret (results_none rfl _ _ _) rfl ?_
      exact ⟨⟨_, rfl⟩, .inr ⟨_, trivial, hjx⟩⟩
  · obtain rfl : i = n := by omega
    clear hYi
    gi_wp2
    go_end0
    have hj := HI.out.1
    rw [List.take_of_length_le (by rw [numS_len]; omega)] at hj
    exact ⟨⟨_, rfl⟩, .inl ⟨numS xs, wr, rfl, hj, rfl⟩⟩

/-- What a round of the going over begins with. -/
structure AllRS (J : List (Nat × ByteArray) → World → Prop) (xs : List ByteArray) (B : Nat) (A : Option Addr) (n c L v0 Bn : Nat) (pre : List (Nat × ByteArray)) (x : Nat × ByteArray) (a' : Act) (W : World) : Prop where
  j : J pre W
  told : pre ++ [x] <+: numS xs
  yield : Blk W v0 71 #[.func (.yield L) #[] #[]]
  act : a' = { tmps := #[.func (.yield L) #[] #[], .pointer (some ⟨Bn, 0, none⟩), .pointer (some ⟨v0, 0, none⟩), .int .i64 (x.1 : Nat), .string x.2, .slice A n c, .func (.func 45) #[] #[.pointer (some ⟨v0 + 1, 0, none⟩)], .int .i64 (x.1 : Nat), .string x.2, undef, undef, undef, undef, undef], defers := [] }

set_option maxHeartbeats 4000000 in
set_option maxRecDepth 100000 in
theorem seq42 (w : World) (n₀ Bn n c : Nat) (A : Option Addr) (xs : List ByteArray) (hB : Blk w Bn 38 #[.slice A n c]) (h : w.ownsRow n₀ 9 1 (.slice A n c) n (strs xs)) (hn : n ≤ 65536) (hn0 : n₀ ≤ w.heap.size) (d : Nat) :
    SeqG d Try.prog 42 #[.pointer (some ⟨Bn, 0, none⟩)] encS (KpFrom itT n₀) (GS xs) (fun ys => ys = numS xs) (fun _ => True) (fun _ W1 W' => W' = W1) w := by
  intro L J Jx V hV hJ hJx hYi h0
  have hBV := hB.below hV hB.lt
  have hr := own_fr h (Fr.of_new (S := noB) hV) (fun _ _ e => e)
  obtain ⟨v0, hv0⟩ : ∃ v0, V.heap.size = v0 := ⟨_, rfl⟩
  have hn0V : n₀ ≤ v0 := by have := hV.size; omega
  obtain ⟨W1, hW1⟩ : ∃ W, V.alloc (.cells #[.func (.yield L) #[] #[]] 71) = W := ⟨_, rfl⟩
  have e1 : W1.heap.size = v0 + 1 := by rw [← hW1]; simp [hv0]
  have b1 : Below V.heap.size V W1 := by rw [← hW1]; exact (Below.refl _ V).alloc (Nat.le_refl _) _
  have k0 : Blk W1 v0 71 #[.func (.yield L) #[] #[]] := by rw [← hW1, ← hv0]; exact Blk.new V 71 _
  have y0 : W1.cell? ⟨Bn, 0, none⟩ = some (.slice A n c) := ((hBV.below b1 hBV.lt).cell 0).trans rfl
  have c43 := sliceAllS W1 A n c
  rw [e1] at c43
  obtain ⟨W2, hW2⟩ : ∃ W, W1.alloc (.cells #[.slice A n c] 38) = W := ⟨_, rfl⟩
  rw [hW2] at c43
  have e2 : W2.heap.size = v0 + 2 := by rw [← hW2]; simp [e1]
  have b2 : Below V.heap.size V W2 := by rw [← hW2]; exact b1.alloc (by omega) _
  have k1 : Blk W2 (v0 + 1) 38 #[.slice A n c] := by
    have := Blk.new W1 38 #[.slice A n c]
    rw [e1, hW2] at this
    exact this
  have k2 : Blk W2 v0 71 #[.func (.yield L) #[] #[]] := by rw [← hW2]; exact k0.alloc _
  have hI0 : J [] W2 ∧ Blk W2 v0 71 #[.func (.yield L) #[] #[]] := ⟨ownFrom_below hJ h0 b2, k2⟩
  have hsq := seq45 W2 n₀ (v0 + 1) n c A xs k1 (own_fr hr (Fr.of_new (S := noB) b2) (fun _ _ e => e)) hn (d - 1)
  have HH := Lib.hid hI0
  have HQ := Lib.hid hsq
  have HY := Lib.hid hYi
  clear hI0 hsq k0 k1 k2 b1 b2 hr hBV h hB hYi h0 hV hW2
  refine callsIn_of_wp_marks Try.func42 rfl trivial ?_ rfl
  simp only [Try.ntmps42, List.size_toArray, List.length_cons, List.length_nil, Nat.reduceAdd, Nat.reduceSub, Array.replicate_succ, Array.replicate_zero, List.push_toArray, List.append_toArray, List.nil_append, List.cons_append]
  gi_wp2_with (refine ⟨trivial, fun h => (by cases h), ?_⟩; gi_at_call 43; refine (callsIn_wide.2 c43).mono ?_; clear c43; rintro e w' ⟨rfl, rfl⟩)
  clear hW1 y0 e1
  refine range_seqG (gf := 45) (lb := #[.pointer (some ⟨v0 + 1, 0, none⟩)]) rfl (enters_of Try.func45 (by kernel_rfl) rfl) HQ.out (fun h k => KpFrom.t h k) (fun W l o o' h hc => KpFrom.b W l o o' h hc) (Below.refl _ _) (fun _ => rfl)
    (fun pre W => J pre W ∧ Blk W v0 71 #[.func (.yield L) #[] #[]]) (fun pre W => J pre W) (fun c pre W => c = .ret ∧ Jx pre W)
    (fun pre W W' row hs hg hr => ⟨hJ pre W W' row hs.1 hg (fun r e => ⟨by have := (hr r e).1; omega, (hr r e).2⟩), hs.2.turn hg (fun r e => (hr r e).2)⟩)
    (fun pre W W' row hs hg hr => hJ pre W W' row hs hg (fun r e => ⟨by have := (hr r e).1; omega, (hr r e).2⟩))
    (fun c pre W W' row hs hg hr => ⟨hs.1, hJx pre W W' row hs.2 hg (fun r e => ⟨by have := (hr r e).1; omega, (hr r e).2⟩)⟩)
    HH.out
    (AllRS J xs n₀ A n c L v0 Bn)
    ?R ?assign ?body ?fin ?done ?stop
  case R =>
    intro pre x a' _ W W' row hs hg hr
    exact ⟨hJ pre W W' row hs.j hg (fun r e => ⟨by have := (hr r e).1; omega, (hr r e).2⟩), hs.told, hs.yield.turn hg (fun r e => (hr r e).2), hs.act⟩
  case assign =>
    intro L2 pre x W0 W K hI hb hG hK
    have HK := Lib.hid (fun a' hact => hK a' W (KeepsFrom.refl _ _) (KpFrom.refl _ _ _) ⟨ownFrom_below hJ hI.1 hb, hG, hI.2.below hb hI.2.lt, hact⟩)
    clear hK hI hG hb HH HQ HY
    simp only [encS]
    gi_wp2
    exact HK.out _ rfl
  case body =>
    rintro L2 pre x a' W hR
    have v1 := (hR.yield.cell 0).trans rfl
    have hy0 := yieldAt_any (F := Fence.wide) rfl (d - 1 - 1 - 1) (HY.out pre x W W hR.j (Below.refl _ _) hR.told)
    have hact := hR.act
    subst hact
    unfold encS at hy0
    obtain ⟨fn, tmps, assign, body, hy, hRd⟩ := hy0
    have HW := Lib.hid hR.yield
    clear HH HQ HY hR
    gi_wp2
    refine ⟨fun h => (by cases h), ?_⟩
    refine RoundIn.mono (show RoundIn (Fence.wide.inRound L2) (d - 1 - 1 - 1) Try.prog L fn tmps assign body W _ from hRd) ?_
    clear hy hRd v1
    rintro e W' (⟨rfl, hj, hkp, hkf⟩ | ⟨rfl, hj, hkf⟩)
    · gi_wp2
      exact ⟨⟨hkf.size, fun k o hk ho hc => hkf.same k o (by omega) ho hc⟩, hkp, hj, HW.out.kp hkp hn0V (.inr (.inr rfl))⟩
    · gi_wp2
      exact ⟨⟨hkf.size, fun k o hk ho hc => hkf.same k o (by omega) ho hc⟩, rfl, hj⟩
  case fin =>
    rintro ys W V1 V2 hsz hS hI rfl
    exact ⟨hI.1, KeepsFrom.refl _ _⟩
  case done =>
    intro D ys W hD hS hI hK
    have HP := Lib.hid (show ∃ ys W1, ys = numS xs ∧ J ys W1 ∧ W.putObj D (.deferred none) = W1 from ⟨ys, _, hS, hJ ys W _ (some D) hI (grownBy_putObj' W D _) (fun r e => by cases e; exact ⟨by omega, _, hK, rfl⟩), rfl⟩)
    clear hI HH HQ HY
    gi_wp2
    refine ⟨by simp, .inl ⟨_, _, rfl, run_takeDeferred hK, ?_⟩⟩
    exact ⟨_, results_none rfl _ _ _, ⟨_, rfl⟩, .inl HP.out⟩
  case stop =>
    rintro D cc pre W hD hSp ⟨rfl, hjx⟩ hK
    have HP := Lib.hid (show ∃ pre, True ∧ Jx pre (W.putObj D (.deferred none)) from ⟨pre, trivial, hJx pre W _ (some D) hjx (grownBy_putObj' W D _) (fun r e => by cases e; exact ⟨by omega, _, hK, rfl⟩)⟩)
    clear hjx HH HQ HY
    gi_wp2
    refine ⟨by simp, .inl ⟨_, _, rfl, run_takeDeferred hK, ?_⟩⟩
    exact ⟨_, results_none rfl _ _ _, ⟨_, rfl⟩, .inr HP.out⟩
end Go.Proofs.Ytbbjbbcakfmpgaa
