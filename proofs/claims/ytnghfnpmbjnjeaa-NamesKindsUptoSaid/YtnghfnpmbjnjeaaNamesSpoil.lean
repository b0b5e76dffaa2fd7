/- lent, left, spoil of wicketlaw05. Conditions: those that each states. -/
import Derived.Test.YtnghfnpmbjnjeaaNamesRef
import Derived.Laws.Concat
namespace Go.Proofs.Ytnghfnpmbjnjeaa
open Go.RowKit

theorem strN_add (l m : List Nat) : strN (l ++ m) = strN l ++ strN m := by
  apply ByteArray.ext
  simp [strN, ByteArray.data_append]
theorem strN_sz (l : List Nat) : (strN l).size = l.length := by
  simp [strN, ByteArray.size]
theorem bk_of {A : Option Addr} {n c k : Nat} (h : (Value.slice A n c).ownBlock = some k) : blkOf A = some k := by rwa [ownBlock_slice] at h

set_option maxHeartbeats 1000000 in
set_option maxRecDepth 100000 in
/-- Bytes in new memory, with a mark behind. -/
theorem lent_any (w : World) (B : Nat) (A : Option Addr) (n c : Nat) (l : List Nat) (h : Reads w B 1 A n (byts l)) (hB : B ≤ w.heap.size) (hn : n ≤ 140737488355300) :
    Calls Try.prog 10 #[.slice A n c] w fun e w' => ∃ A2 c2, e = .returned (.slice A2 n c2) ∧ w'.ownsRow w.heap.size 5 1 (.slice A2 (n + 1) c2) (n + 1) (byts (l ++ [119])) ∧ Below w.heap.size w w' := by
  obtain ⟨i0, hi, hz0, hz1, hz2⟩ := info_parts Try.info5w
  go_enter Try.func10, Try.ntmps10
  go_wp2_with (at_builtin; refine wpList_append_any _ rfl _ _ 22 rfl w.heap.size 5 i0 (.int .u8 0) 1 1 Try.underlying22 hi hz0 hz1 hz2 rfl (by decide) _ _ _ rfl (World.ownsRow_nil _ _ _ _) B A n c _ rfl h ?c1 ?c2 ?c3 ?c4 ?_)
  case c1 => exact byts_one _
  case c2 => unfold maxLen; omega
  case c3 => omega
  case c4 => exact Nat.le_refl _
  intro v1 w1 o1 g1 _
  obtain ⟨P1, p1, rfl⟩ := own_shape o1
  try simp only [Nat.zero_add, List.nil_append] at o1
  have hb1 : Below w.heap.size w w1 := (Below.refl _ _).grown g1 (Nat.le_refl _) (fun k hk => by cases hk)
  go_wp2_with (at_builtin; refine wpList_append_any _ rfl _ _ 22 rfl w.heap.size 5 i0 (.int .u8 0) 1 1 Try.underlying22 hi hz0 hz1 hz2 rfl (by decide) _ _ _ rfl (o1.alloc _) (w1.heap.size + 1) (some ⟨w1.heap.size, 0, none⟩) 1 1 _ rfl (reads_one w1 119) ?c1 ?c2 ?c3 ?c4 ?_)
  case c1 => exact byts_one _
  case c2 => unfold maxLen; omega
  case c3 => omega
  case c4 => simp; have := hb1.size; omega
  intro v2 w2 o2 g2 _
  obtain ⟨P2, p2, rfl⟩ := own_shape o2
  have hb2 : Below w.heap.size w w2 := (hb1.alloc hb1.size _).grown g2 (by simp; have := hb1.size; omega) (own_base o1)
  rw [← byts_append] at o2
  obtain ⟨g, rfl, _⟩ := own_open o2 (by omega)
  have hcap := (own_cap o2).1
  have k0 : (0 : Int) ≤ (n : Int) := by omega
  have k1 : (n : Int) ≤ (p2 : Int) := by omega
  go_wp2
  go_ret
  exact ⟨_, p2, rfl, o2, hb2⟩

set_option maxHeartbeats 1000000 in
set_option maxRecDepth 100000 in
theorem left_any (w : World) (B B2 : Nat) (A A2 : Option Addr) (n c c2 : Nat) (l : List Nat) (h : Reads w B 1 A (n + 1) (byts (l ++ [119]))) (hc : n + 1 ≤ c) (h2 : Reads w B2 1 A2 n (byts l)) (hs : Small l) (hn : n ≤ 140737488355300) :
    Calls Try.prog 21 #[.slice A n c, .slice A2 n c2] w fun e w' => e = .returned (.bool true) ∧ ∃ q, w' = w.drewN q := by
  obtain ⟨ad, rfl, _⟩ := h.2 (by omega)
  have hl : l.length = n := by have := h2.1; rw [byts_length] at this; omega
  have hs119 : Small (l ++ [119]) := hs.append (fun c hc => by simp at hc; omega)
  obtain ⟨p, hp⟩ : ∃ p, n + 1 = p := ⟨_, rfl⟩
  rw [hp] at h hc
  have t1 := fun m : Nat => run_str (P := Try.prog) (src := 22) (dst := 9) (c := c) rfl rfl rfl (h.drewN m) hs119
  have t2 := fun m : Nat => run_str (P := Try.prog) (src := 22) (dst := 9) (c := c2) rfl rfl rfl (h2.drewN m) hs
  obtain ⟨X, hX⟩ : ∃ X, strN l ++ { data := #[119] } = X := ⟨_, rfl⟩
  have e119 : strN (l ++ [119]) = strN l ++ { data := #[119] } := strN_add l [119]
  simp only [e119, hX] at t1
  have hadd := fun W : World => run_string_add_sum (P := Try.prog) W (strN l) { data := #[119] } (by rw [strN_sz, show ({ data := #[119] } : ByteArray).size = 1 from rfl]; omega)
  simp only [hX] at hadd
  have u1 : IntKind.i64.wrap ((n : Int) + 1) = (p : Int) := by rw [IntWalk.i64_in _ (by omega)]; omega
  have u2 : (0 : Int) ≤ (p : Int) := by omega
  have u3 : (p : Int) ≤ (c : Int) := by omega
  clear hX e119 hl hp
  go_enter Try.func21, Try.ntmps21
  go_wp2
  go_quiet (fail)
  go_wp2
  go_ret
  exact ⟨rfl, _, rfl⟩

set_option maxHeartbeats 1000000 in
set_option maxRecDepth 100000 in
/-- spoil: of a slice with its room, or cut at its length. -/
theorem spoil_any (w : World) (base : Nat) (A : Option Addr) (n c c' : Nat) (bs : List Nat) (h : w.ownsRow base 5 1 (.slice A n c) n (byts bs)) (hc' : c' = c ∨ c' = n) (hbase : base ≤ w.heap.size) (hn : n ≤ 140737488355318) :
    Calls Try.prog 20 #[.slice A n c'] w fun e w' => e = .returned (.tuple #[]) ∧ Fr (fun k => blkOf A = some k) w w' := by
  obtain ⟨i0, hi, hz0, hz1, hz2⟩ := info_parts Try.info5w
  go_enter Try.func20, Try.ntmps20
  go_wp2
  go_loopw [2] (fun iv wr => ∃ (k : Nat) (bs : List Nat), k ≤ n ∧ iv = .int .i64 k ∧ wr.ownsRow base 5 1 (.slice A n c) n (byts bs) ∧ Fr (fun k => blkOf A = some k) w wr) (fun iv _ => n - (intOf iv).toNat)
  case atStart => exact ⟨0, bs, by omega, rfl, h, Fr.refl _ _⟩
  case round =>
    clear h
    obtain ⟨k, bs, hk, rfl, h, hf⟩ := hrel
    have k0 : (0 : Int) ≤ (k : Int) := by omega
    by_cases hlt : k < n
    · have k1 : (k : Int) < (n : Int) := by omega
      obtain ⟨g, rfl, hgb, _, hcell, hfr, hst⟩ := own_open h (by omega)
      have hlen : bs.length = n := by have := h.1; rw [byts_length] at this; omega
      have cj := hcell k (.int .u8 (bs[k]'(by omega) : Nat)) (by simp [byts, show k < bs.length by omega])
      have fj := hfr k
      have hs2 := hst k (.int .u8 ((90 : Nat) : Int)) hlt
      have hset : (byts bs).set k (.int .u8 ((90 : Nat) : Int)) = byts (bs.set k 90) := by simp [byts, List.map_set]
      rw [hset] at hs2
      have hf2 : Fr (fun k => blkOf (some (⟨g, 0, none⟩ : Addr)) = some k) w (wr.setCell ⟨g, k, none⟩ (.int .u8 ((90 : Nat) : Int))) := hf.setCell (p := ⟨g, k, none⟩) (fun _ => rfl) _
      have HS := Lib.hid (And.intro hs2 hf2)
      clear hset hst hcell hfr hs2 hf2
      go_wp2
      go_roundw
      case rel => exact ⟨k + 1, bs.set k 90, by omega, by go_num, HS.out.1, HS.out.2⟩
      case measure => simp [intOf]; omega
    · have hszr := hf.size
      go_wp2
      obtain ⟨wo, rfl⟩ : ∃ wo : World, wo = wr := ⟨_, rfl⟩
      go_loopw [0, 3] (fun sv iv wr => ∃ (i : Nat) (A2 : Option Addr) (n2 c2 : Nat), i ≤ 9 ∧ iv = .int .i64 i ∧ sv = .slice A2 n2 c2 ∧ n2 = n + i ∧ ((∃ bs, wr.ownsRow base 5 1 (.slice A2 n2 c2) n2 (byts bs)) ∨ (c2 = n2 ∧ ∃ bs, Reads wr wr.heap.size 1 A2 n2 (byts bs))) ∧ (∀ k, blkOf A2 = some k → blkOf A = some k ∨ w.heap.size ≤ k) ∧ Fr (fun k => blkOf A = some k) w wr) (fun _ iv _ => 9 - (intOf iv).toNat)
      case atStart =>
        refine ⟨0, A, n, c', by omega, rfl, rfl, rfl, ?_, fun _ h => .inl h, hf⟩
        rcases hc' with h1 | h1
        · subst h1; exact .inl ⟨bs, h⟩
        · exact .inr ⟨h1, bs, Reads.of_own h⟩
      case round =>
        clear h hf hszr
        obtain ⟨i, A2, n2, c2, hi9, rfl, rfl, rfl, h, hA, hf⟩ := hrel
        have hszr := hf.size
        by_cases hlt : i < 9
        · have k1 : (i : Int) < 9 := by omega
          have hr1 := reads_one wr 91
          rcases h with ⟨bs, h⟩ | ⟨rfl, bs, h⟩
          · have ho' := h.alloc (.cells #[.int .u8 ((91 : Nat) : Int)] 5)
            go_wp2_with (at_builtin; refine wpList_append_any _ rfl _ _ 22 rfl base 5 i0 (.int .u8 0) 1 1 Try.underlying22 hi hz0 hz1 hz2 rfl (by decide) _ _ _ rfl ho' _ _ 1 _ _ rfl hr1 ?c1 ?c2 ?c3 ?c4 ?_)
            case c1 => exact byts_one _
            case c2 => unfold maxLen; omega
            case c3 => omega
            case c4 => first | omega | (simp; omega)
            intro v2 w2 ho2 hg2 hat
            obtain ⟨A3, c3, rfl⟩ := own_shape ho2
            go_wp2
            go_roundw
            case rel =>
              refine ⟨i + 1, A3, _, c3, by omega, by go_num, rfl, by omega, .inl ⟨bs ++ [91], ?_⟩, ?_, ?_⟩
              · rw [byts_append]; exact ho2
              · intro k hk
                rcases own_at hat k hk with h1 | h1
                · exact hA k h1
                · right; first | omega | (simp at h1; omega)
              · refine (hf.trans (Fr.of_new ((Below.refl _ wr).alloc (Nat.le_refl _) (.cells #[.int .u8 ((91 : Nat) : Int)] 5))) (S' := noB) (fun _ _ h => h.elim)).trans (Fr.of_grown (S := fun k => blkOf A2 = some k) hg2 (fun k hk => by rw [ownBlock_slice] at hk; exact hk)) ?_
                intro k hk h1
                rcases hA k h1 with h2 | h2
                · exact h2
                · omega
            case measure => simp [intOf]; omega
          · have hr' := h.alloc (Nat.le_refl _) (.cells #[.int .u8 ((91 : Nat) : Int)] 5)
            obtain ⟨q2, hq2⟩ : ∃ q, n + i = q := ⟨_, rfl⟩
            rw [hq2] at hr' ⊢
            go_wp2_with (at_builtin; refine wpList_append_full _ rfl _ _ 22 rfl 5 i0 (.int .u8 0) 1 Try.underlying22 hi hz0 hz1 hz2 rfl A2 q2 _ rfl wr.heap.size hr' ⟨wr.heap.size, 0, none⟩ 1 1 _ _ rfl hr1 ?c1 (by decide) ?c2 ?c3 ?_)
            case c1 => exact byts_one _
            case c2 => unfold maxLen; omega
            case c3 => omega
            intro v2 w2 ho2 hg2
            obtain ⟨A3, c3, rfl⟩ := own_shape ho2
            go_wp2
            go_roundw
            case rel =>
              refine ⟨i + 1, A3, _, c3, by omega, by go_num, rfl, by omega, .inl ⟨bs ++ [91], ?_⟩, ?_, ?_⟩
              · rw [byts_append]; exact own_mono ho2 (by first | omega | (simp; omega))
              · intro k hk
                have := (ho2.lt k (by rw [ownBlock_slice]; exact hk)).1
                right
                first | omega | (simp at this; omega)
              · refine (hf.trans (Fr.of_new ((Below.refl _ wr).alloc (Nat.le_refl _) (.cells #[.int .u8 ((91 : Nat) : Int)] 5))) (S' := noB) (fun _ _ h => h.elim)).trans (Fr.of_grown (S := noB) hg2 (fun k hk => by cases hk)) (fun _ _ h => h.elim)
            case measure => simp [intOf]; omega
        · go_wp2
          go_end0
          exact ⟨rfl, hf⟩

end Go.Proofs.Ytnghfnpmbjnjeaa
