/- Take, Twin of Net[int]. Conditions: those that each states. -/
import Derived.Test.YtbbjbbcakfmpgaaConcatI
import Derived.IntWalk
import Derived.Deep.RegionLaw
import Derived.Lib.Hide
namespace Go.Proofs.Ytbbjbbcakfmpgaa
open Go.RowKit
attribute [local go_sem ↓] Go.wp_at_zero Go.wp_at_succ

theorem Reads.front {w : World} {B n : Nat} {A : Option Addr} {xs : List Int} (h : Reads w B 1 A n (ints xs)) {k : Nat} (hk : k ≤ n) : Reads w B 1 A k (ints (xs.take k)) := by
  have hl : xs.length = n := by have := h.1; rw [ints_length] at this; omega
  refine ⟨by rw [ints_length]; simp; omega, fun h0 => ?_⟩
  obtain ⟨ad, e, hb, hc⟩ := h.2 (by omega)
  refine ⟨ad, e, hb, fun j u hu => hc j u ?_⟩
  simp only [ints, List.getElem?_map, List.getElem?_take] at hu ⊢
  split at hu
  · exact hu
  · simp at hu
theorem Reads.back {w : World} {B n c : Nat} {g : Nat} {xs : List Int} (h : Reads w B 1 (some ⟨g, 0, none⟩) n (ints xs)) {k : Nat} (hk : k ≤ n) (hc : n ≤ c) (hkc : c ≠ k) : Reads w B 1 (some ⟨g, k, none⟩) (n - k) (ints (xs.drop k)) := by
  have := h.cut (k := k) hk hc
  rw [if_neg hkc] at this
  simp only [Nat.mul_one, Option.map_some] at this
  rw [show (⟨g, 0, none⟩ : Addr).add k = ⟨g, k, none⟩ by unfold Addr.add; split <;> simp_all] at this
  rwa [show (ints xs).drop k = ints (xs.drop k) by simp [ints, List.map_drop]] at this
theorem concatI_n (w : World) (g B : Nat) (A1 A2 : Option Addr) (n1 n2 c1 c2 : Nat) (xs ys : List Int) (hs : Blk w g 22 #[.slice A1 n1 c1, .slice A2 n2 c2])
    (h1 : Reads w B 1 A1 n1 (ints xs)) (h2 : Reads w B 1 A2 n2 (ints ys)) (hl : n1 + n2 ≤ 65536) (hB : B ≤ w.heap.size) :
    Calls Try.prog 32 #[.slice (some ⟨g, 0, none⟩) 2 2] w fun e w' => ∃ A3 c3, e = .returned (.slice A3 (n1 + n2) c3) ∧ w'.ownsRow w.heap.size 3 1 (.slice A3 (n1 + n2) c3) (n1 + n2) (ints (xs ++ ys)) ∧ Below w.heap.size w w' := by
  obtain rfl : xs.length = n1 := by have := h1.1; rw [ints_length] at this; omega
  obtain rfl : ys.length = n2 := by have := h2.1; rw [ints_length] at this; omega
  refine (concatI w g B A1 A2 c1 c2 xs ys hs h1 h2 hl hB).mono ?_
  rintro e w' ⟨v, rfl, ho, hb⟩
  obtain ⟨A3, c3, rfl⟩ := own_shape ho
  exact ⟨A3, c3, rfl, ho, hb⟩

/-- What the call of Concat in Take leaves, as one word. -/
def TookI (W : World) (B b : Nat) (A : Option Addr) (zs : List Int) (sent : Int) (w0 : World) : Prop := ∃ A1 c1, NetI W B b A1 c1 zs sent ∧ StI b A A1 w0 W

set_option maxHeartbeats 1000000 in
set_option maxRecDepth 100000 in
theorem takeI_in (w : World) (B b c : Nat) (A : Option Addr) (xs : List Int) (sent : Int) (i : Nat) (h : NetI w B b A c xs sent) (hi : i < xs.length) (hx : xs.length ≤ 65536) :
    Calls Try.prog 11 #[.pointer (some ⟨b, 0, none⟩), .int .i64 i] w fun e w' => e = .returned (.tuple #[.int .i64 (geti xs i), .int .i64 0]) ∧ TookI w' B b A (xs.eraseIdx i) sent w := by
  have c0 : w.cell? ⟨b, 0, none⟩ = some (.slice A xs.length c) := (h.blk.cell 0).trans rfl
  obtain ⟨g, rfl, hnc, hcell⟩ := own_cell h.own i hi
  have hr := Reads.of_own h.own
  have hr1 := Reads.front hr (Nat.le_of_lt hi)
  have hbw := h.blk.lt
  have hsz : B ≤ w.heap.size := by have := h.base; omega
  have hgB : B ≤ g := own_base h.own g rfl
  have fin : ∀ (w1 : World) A3 c3 (zs : List Int), zs = xs.eraseIdx i → w1.ownsRow (w.heap.size + 1) 3 1 (.slice A3 zs.length c3) zs.length (ints zs) → Below w.heap.size w w1 → TookI (w1.setCell ⟨b, 0, none⟩ (.slice A3 zs.length c3)) B b (some ⟨g, 0, none⟩) (xs.eraseIdx i) sent w := by
    intro w1 A3 c3 zs hz ho hb
    subst hz
    have hb1 := h.blk.below hb hbw
    refine ⟨A3, c3, ⟨?_, h.base, ?_⟩, ((Fr.of_new hb : Fr (fpI b _) w w1)).setCell (p := ⟨b, 0, none⟩) (fun _ => .inl rfl) _, fun k hk => .inr ?_⟩
    · have := hb1.set_ 0 (.slice A3 (xs.eraseIdx i).length c3)
      simpa using this
    · exact own_setCell (own_mono ho (by omega)) (own_blk_ne ho hb1 (by decide)) (p := ⟨b, 0, none⟩) _
    · have := own_base ho k (by rw [ownBlock_slice]; exact hk)
      omega
  have e1 : (0 : Int) ≤ (i : Int) := by omega
  have e2 : (i : Int) ≤ (c : Int) := by omega
  have e3 : (i : Int) + 1 ≤ (xs.length : Int) := by omega
  have e4 : (0 : Int) ≤ (i : Int) + 1 := by omega
  have e7 : (i : Int) ≤ (i : Int) + 1 := by omega
  have e5 : IntKind.i64.wrap ((i : Int) + 1) = (i : Int) + 1 := IntWalk.i64_in _ (by omega)
  have e6 : ((i : Int) + 1).toNat = i + 1 := by omega
  have f0 := h.blk.frozen 0
  have hlen : i + (xs.length - (i + 1)) = (xs.eraseIdx i).length := by rw [List.length_eraseIdx_of_lt hi]; omega
  have hzs : xs.take i ++ xs.drop (i + 1) = xs.eraseIdx i := (List.eraseIdx_eq_take_drop_succ xs i).symm
  -- the call of Concat, in the world that stands there
  have hcall : ∀ A2 c2, Reads w w.heap.size 1 A2 (xs.length - (i + 1)) (ints (xs.drop (i + 1))) →
      Calls Try.prog 32 #[.slice (some ⟨w.heap.size, 0, none⟩) 2 2] (w.alloc (.cells #[.slice (some ⟨g, 0, none⟩) i c, .slice A2 (xs.length - (i + 1)) c2] 22)).drew
        fun e w1 => ∃ A3 c3, e = .returned (.slice A3 (xs.eraseIdx i).length c3) ∧ w1.cell? ⟨b, 0, none⟩ = some (.slice (some ⟨g, 0, none⟩) xs.length c) ∧ w1.frozen? ⟨b, 0, none⟩ = false ∧
          TookI (w1.setCell ⟨b, 0, none⟩ (.slice A3 (xs.eraseIdx i).length c3)) B b (some ⟨g, 0, none⟩) (xs.eraseIdx i) sent w := by
    intro A2 c2 hr2
    refine (concatI_n _ w.heap.size w.heap.size _ _ i (xs.length - (i + 1)) c c2 (xs.take i) (xs.drop (i + 1)) (Blk.new w 22 _).drew (hr1.alloc (Nat.le_refl _) _).drew (hr2.alloc (Nat.le_refl _) _).drew (by omega) (by simp)).mono ?_
    rintro e w1 ⟨A3, c3, rfl, ho, hb⟩
    have hsz2 : ((w.alloc (.cells #[.slice (some ⟨g, 0, none⟩) i c, .slice A2 (xs.length - (i + 1)) c2] 22)).drew).heap.size = w.heap.size + 1 := by simp
    rw [hsz2] at ho hb
    rw [hlen, hzs] at ho
    have hbel : Below w.heap.size w w1 := ((Below.refl w.heap.size w).alloc (Nat.le_refl _) _).drew.trans (hb.mono (by omega))
    refine ⟨A3, c3, by rw [hlen], (hbel.cell (p := ⟨b, 0, none⟩) hbw).trans c0, (hbel.frozen (p := ⟨b, 0, none⟩) hbw).trans f0, fin w1 A3 c3 _ rfl ho hbel⟩
  have Hlen := Lib.hid hlen
  have Hzs := Lib.hid hzs
  clear hlen hzs
  by_cases hcap : c = i + 1
  · have hr2 : Reads w w.heap.size 1 (some ⟨g, 0, none⟩) (xs.length - (i + 1)) (ints (xs.drop (i + 1))) := by
      have := hr.cut (k := i + 1) hi hnc
      rw [if_pos hcap] at this
      simpa [ints, List.map_drop] using this
    have hc2 := hcall _ 0 hr2
    subst hcap
    rw [show xs.length - (i + 1) = 0 from by omega] at hc2
    go_enter Try.func11, Try.ntmps11
    go_wp2_with (go_at_call 26; refine (atI_in _ _ _ _ _ _ _ _ h hi hx).mono ?_; rintro e w' ⟨rfl, rfl⟩)
    go_region_law (first | (go_simp; go_at_call 32; refine hc2.mono ?_; rintro e w1 ⟨A3, c3, rfl, k0, kf, hfin⟩))
    all_goals
      go_wp2
      go_ret2
      exact ⟨rfl, by assumption⟩
  · have hr2 := Reads.back hr hi hnc hcap
    have hc2 := hcall _ (c - (i + 1)) hr2
    go_enter Try.func11, Try.ntmps11
    go_wp2_with (go_at_call 26; refine (atI_in _ _ _ _ _ _ _ _ h hi hx).mono ?_; rintro e w' ⟨rfl, rfl⟩)
    go_region_law (first | (go_simp; go_at_call 32; refine hc2.mono ?_; rintro e w1 ⟨A3, c3, rfl, k0, kf, hfin⟩))
    all_goals
      go_wp2
      go_ret2
      exact ⟨rfl, by assumption⟩

set_option maxHeartbeats 400000 in
theorem takeI_out (w : World) (B b c : Nat) (A : Option Addr) (xs : List Int) (sent : Int) (i : Int) (h : NetI w B b A c xs sent) (hi : i < 0 ∨ (xs.length : Int) ≤ i) :
    Calls Try.prog 11 #[.pointer (some ⟨b, 0, none⟩), .int .i64 i] w fun e w' => e = .returned (.tuple #[.int .i64 0, .int .i64 5]) ∧ w = w' := by
  go_enter Try.func11, Try.ntmps11
  go_wp2_with (go_at_call 26; refine (atI_out _ _ _ _ _ _ _ _ h hi).mono ?_; rintro e w' ⟨rfl, rfl⟩)
  go_ret2
  exact ⟨rfl, rfl⟩

set_option maxHeartbeats 400000 in
theorem twinI_in (w : World) (B b c : Nat) (A : Option Addr) (xs : List Int) (sent : Int) (i : Nat) (h : NetI w B b A c xs sent) (hi : i < xs.length) (hx : xs.length < 65536) (hs : 0 ≤ sent) (hs2 : sent ≤ 1000000000) :
    Calls Try.prog 10 #[.pointer (some ⟨b, 0, none⟩), .int .i64 i] w fun e w' => e = .returned (.int .i64 0) ∧ ∃ A1 c1, NetI w' B b A1 c1 (xs ++ [geti xs i]) (sent + 1) ∧ StI b A A1 w w' := by
  have hsz : B ≤ w.heap.size := by have := h.blk.lt; have := h.base; omega
  have hal : NetI (w.alloc (.cells #[.int .i64 (geti xs i)] 3)) B b A c xs sent := h.below ((Below.refl w.heap.size w).alloc (Nat.le_refl _) _) (Nat.le_refl _)
  have hz : Reads (w.alloc (.cells #[.int .i64 (geti xs i)] 3)) (w.heap.size + 1) 1 (some ⟨w.heap.size, 0, none⟩) [geti xs i].length (ints [geti xs i]) := by
    refine ⟨rfl, fun _ => ⟨_, rfl, by simp, fun j u hu => ?_⟩⟩
    match j, hu with
    | 0, hu => simp [ints] at hu; subst hu; exact ((Blk.new w 3 #[.int .i64 (geti xs i)]).cell 0).trans rfl
  have hcall := sendI _ B b c A xs sent hal _ _ 1 _ hz (by simp; omega) (by omega) hs hs2
  go_enter Try.func10, Try.ntmps10
  go_wp2_with (first | (go_at_call 26; refine (atI_in _ _ _ _ _ _ _ _ h hi (by omega)).mono ?_; rintro e w' ⟨rfl, rfl⟩) | (go_at_call 7; refine hcall.mono ?_; rintro e w1 ⟨rfl, A1, c1, hn, hst⟩))
  go_ret
  refine ⟨rfl, A1, c1, by simpa using hn, ((Fr.refl _ w).alloc _).trans' hst.fr, fun k hk => ?_⟩
  rcases hst.new k hk with e | e
  · exact .inl e
  · simp at e; exact .inr (by omega)

set_option maxHeartbeats 400000 in
theorem twinI_out (w : World) (B b c : Nat) (A : Option Addr) (xs : List Int) (sent : Int) (i : Int) (h : NetI w B b A c xs sent) (hi : i < 0 ∨ (xs.length : Int) ≤ i) :
    Calls Try.prog 10 #[.pointer (some ⟨b, 0, none⟩), .int .i64 i] w fun e w' => e = .returned (.int .i64 5) ∧ w = w' := by
  go_enter Try.func10, Try.ntmps10
  go_wp2_with (go_at_call 26; refine (atI_out _ _ _ _ _ _ _ _ h hi).mono ?_; rintro e w' ⟨rfl, rfl⟩)
  go_ret
  exact ⟨rfl, rfl⟩

theorem atI_int (w : World) (B b c : Nat) (A : Option Addr) (xs : List Int) (sent i : Int) (h : NetI w B b A c xs sent) (h0 : 0 ≤ i) (hi : i < xs.length) (hx : xs.length ≤ 65536) :
    Calls Try.prog 26 #[.pointer (some ⟨b, 0, none⟩), .int .i64 i] w fun e w' => e = .returned (.tuple #[.int .i64 (geti xs i.toNat), .int .i64 0]) ∧ w = w' := by
  obtain ⟨m, rfl⟩ := Int.eq_ofNat_of_zero_le h0
  exact atI_in w B b c A xs sent m h (by omega) hx
theorem takeI_int (w : World) (B b c : Nat) (A : Option Addr) (xs : List Int) (sent i : Int) (h : NetI w B b A c xs sent) (h0 : 0 ≤ i) (hi : i < xs.length) (hx : xs.length ≤ 65536) :
    Calls Try.prog 11 #[.pointer (some ⟨b, 0, none⟩), .int .i64 i] w fun e w' => e = .returned (.tuple #[.int .i64 (geti xs i.toNat), .int .i64 0]) ∧ ∃ A1 c1, NetI w' B b A1 c1 (xs.eraseIdx i.toNat) sent ∧ StI b A A1 w w' := by
  obtain ⟨m, rfl⟩ := Int.eq_ofNat_of_zero_le h0
  exact takeI_in w B b c A xs sent m h (by omega) hx
theorem twinI_int (w : World) (B b c : Nat) (A : Option Addr) (xs : List Int) (sent i : Int) (h : NetI w B b A c xs sent) (h0 : 0 ≤ i) (hi : i < xs.length) (hx : xs.length < 65536) (hs : 0 ≤ sent) (hs2 : sent ≤ 1000000000) :
    Calls Try.prog 10 #[.pointer (some ⟨b, 0, none⟩), .int .i64 i] w fun e w' => e = .returned (.int .i64 0) ∧ ∃ A1 c1, NetI w' B b A1 c1 (xs ++ [geti xs i.toNat]) (sent + 1) ∧ StI b A A1 w w' := by
  obtain ⟨m, rfl⟩ := Int.eq_ofNat_of_zero_le h0
  exact twinI_in w B b c A xs sent m h (by omega) hx hs hs2

end Go.Proofs.Ytbbjbbcakfmpgaa
