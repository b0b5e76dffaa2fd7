/- names.In, names.own, names.Next. Conditions: those that each states. -/
import Derived.Test.YtnghfnpmbjnjeaaNamesCmp
import Derived.ArgAppend
namespace Go.Proofs.Ytnghfnpmbjnjeaa
open Go.RowKit

theorem Try.info5w : (Try.prog.info? 5).map (fun i => (i.zero, i.size, i.bytes)) = some (some (.int .u8 0), 1, 1) := by kernel_rfl
theorem reads_one (w : World) (v : Nat) : Reads (w.alloc (.cells #[.int .u8 (v : Int)] 5)) (w.heap.size + 1) 1 (some ⟨w.heap.size, 0, none⟩) 1 (byts [v]) := by
  refine ⟨rfl, fun _ => ⟨_, rfl, by simp, fun j u hu => ?_⟩⟩
  have hj : j = 0 := by
    have := (List.getElem?_eq_some_iff.1 hu).1
    simpa [byts] using this
  subst hj
  simp [byts] at hu
  subst hu
  exact ((Blk.new w 5 #[.int .u8 (v : Int)]).cell 0).trans rfl

/-- Is a key in a range? -/
def inN (k f t : List Nat) : Bool := decide (0 ≤ cmpN k f) && (decide (t.length = 0) || decide (cmpN k t < 0))

section
variable {Bk Bf Bt : Nat} {Ak Af At : Option Addr} {nk ck nf cf nt ct : Nat} {k f t : List Nat}
set_option maxHeartbeats 1000000 in
set_option maxRecDepth 100000 in
theorem in_any (w : World) (hk : Reads w Bk 1 Ak nk (byts k)) (sk : Small k) (hf : Reads w Bf 1 Af nf (byts f)) (sf : Small f) (ht : Reads w Bt 1 At nt (byts t)) (st : Small t) :
    Calls Try.prog 18 #[.slice Ak nk ck, .slice Af nf cf, .slice At nt ct] w fun e w' => e = .returned (.bool (inN k f t)) ∧ w = w' := by
  have c1 := compare_any w (c1 := ck) (c2 := cf) hk sk hf sf
  have c2 := compare_any w (c1 := ck) (c2 := ct) hk sk ht st
  have hl : t.length = nt := by have := ht.1; rw [byts_length] at this; omega
  unfold inN
  rw [hl]
  obtain ⟨x, hx⟩ : ∃ x, cmpN k f = x := ⟨_, rfl⟩
  obtain ⟨y, hy⟩ : ∃ y, cmpN k t = y := ⟨_, rfl⟩
  rw [hx] at c1 ⊢
  rw [hy] at c2 ⊢
  clear hx hy hl
  by_cases h1 : 0 ≤ x
  · by_cases h2 : nt = 0
    · subst h2
      simp only [h1, decide_true, Bool.true_or, Bool.and_true]
      go_enter Try.func18, Try.ntmps18
      go_wp2_with (go_at_call 58; refine c1.mono ?_; clear c1; rintro e w' ⟨rfl, rfl⟩)
      go_ret
      exact ⟨rfl, rfl⟩
    · have h3 : ((nt : Int) == 0) = false := by rw [beq_eq_false_iff_ne]; omega
      simp only [h1, h2, decide_true, decide_false, Bool.false_or, Bool.true_and]
      go_enter Try.func18, Try.ntmps18
      go_wp2_with (first
        | (go_at_call 58; refine c1.mono ?_; clear c1; rintro e w' ⟨rfl, rfl⟩)
        | (go_at_call 58; refine c2.mono ?_; clear c2; rintro e w' ⟨rfl, rfl⟩))
      go_ret
      exact ⟨rfl, rfl⟩
  · simp only [h1, decide_false, Bool.false_and]
    go_enter Try.func18, Try.ntmps18
    go_wp2_with (go_at_call 58; refine c1.mono ?_; clear c1; rintro e w' ⟨rfl, rfl⟩)
    go_ret
    exact ⟨rfl, rfl⟩
end

set_option maxHeartbeats 1000000 in
set_option maxRecDepth 100000 in
theorem own_any (w : World) (B : Nat) (A : Option Addr) (n c : Nat) (l : List Nat) (h : Reads w B 1 A n (byts l)) (hB : B ≤ w.heap.size) (hn : n ≤ 140737488355328) :
    Calls Try.prog 57 #[.slice A n c] w fun e w' => ∃ A2 c2, e = .returned (.slice A2 n n) ∧ w'.ownsRow w.heap.size 5 1 (.slice A2 n c2) n (byts l) ∧ Below w.heap.size w w' := by
  obtain ⟨i0, hi, hz0, hz1, hz2⟩ := info_parts Try.info5w
  have ho : (w.alloc (.cells #[] 5)).ownsRow w.heap.size 5 1 (.slice (some ⟨w.heap.size, 0, none⟩) 0 0) 0 [] := World.ownsRow_made w #[] 0 (Nat.le_refl _) (by unfold maxLen; omega) rfl
  have hb0 : Below w.heap.size w (w.alloc (.cells #[] 5)) := (Below.refl _ w).alloc (Nat.le_refl _) _
  have hr := h.below (hb0.mono hB)
  go_enter Try.func57, Try.ntmps57
  go_wp2_with (at_builtin; refine wpList_append_any _ rfl _ _ 22 rfl w.heap.size 5 i0 (.int .u8 0) 1 1 Try.underlying22 hi hz0 hz1 hz2 rfl (by decide) _ _ _ rfl ho B A n c _ rfl hr ?c1 ?c2 ?c3 ?c4 ?_)
  case c1 => exact byts_one _
  case c2 => unfold maxLen; omega
  case c3 => omega
  case c4 => exact hb0.size
  intro v2 w2 o2 g2 _
  obtain ⟨A2, c2, rfl⟩ := own_shape o2
  have hb2 := hb0.grown g2 hb0.size (own_base ho)
  have hcap := (own_cap o2).1
  have k0 : (0 : Int) ≤ (n : Int) := by omega
  have k1 : (n : Int) ≤ (c2 : Int) := by omega
  go_wp2
  go_ret
  exact ⟨A2, c2, rfl, o2, hb2⟩

/-- append to a slice without room: a new row of the call's own. -/
theorem wpList_append_full {P : Program} (w : World) {ops : Array Oper} {rest : List Oper} {o : Oper} {a : Act} {Q : Exit → Act → World → Prop}
    (hg : o.guard = none) (s x : Operand) (t : TypeId) (hop : o.op = Op.call { callee := Callee.builtin Builtin.append, args := #[s, x], argTypes := #[t, t] })
    (e : TypeId) (i : TypeInfo) (z : Value) (bytes : Nat) (h1 : P.underlying t = some (.slice e)) (h2 : P.info? e = some i) (h3 : i.zero = some z) (h4 : i.size = 1) (h5 : i.bytes = bytes) (h6 : z.cells.size = 1)
    (A : Option Addr) (n : Nat) (xs : List Value) (hs : a.eval s = .slice A n n) (B : Nat) (hr : Reads w B 1 A n xs)
    (ad : Addr) (m c B2 : Nat) (news : List Value) (hx : a.eval x = .slice (some ad) m c) (hr2 : Reads w B2 1 (some ad) m news) (h1c : ∀ u ∈ news, u.oneCell' = true)
    (hm : 0 < m) (b1 : n + m ≤ maxLen) (b2 : (n + m) * bytes ≤ 140737488355328)
    (hK : ∀ v' w', w'.ownsRow w.heap.size e 1 v' (n + m) (xs ++ news) → w.grownBy w' none → wpList P ops Q rest (a.put o.dst v') w') :
    wpList P ops Q (o :: rest) a w := by
  refine wpList_append_grows w hg s x t hop e i z 1 bytes h1 h2 h3 h4 h5 h6 (by decide) A n n xs hs ?_ hr.1 ?_ ad m c news hx hr2.1 ?_ h1c (by omega) b1 b2 hK
  · intro hA
    rcases Nat.eq_zero_or_pos n with h0 | h0
    · exact ⟨h0, h0⟩
    · obtain ⟨_, h, _⟩ := hr.2 h0; rw [hA] at h; cases h
  · intro b hb j u hu
    have hj : j < n := by have := (List.getElem?_eq_some_iff.1 hu).1; have := hr.1; omega
    obtain ⟨b', h, _, hc⟩ := hr.2 (by omega)
    rw [hb] at h
    cases h
    exact hc j u hu
  · intro j u hu
    obtain ⟨b', h, _, hc⟩ := hr2.2 hm
    cases h
    exact hc j u hu

set_option maxHeartbeats 1000000 in
set_option maxRecDepth 100000 in
theorem next_any (w : World) (B : Nat) (A : Option Addr) (n c : Nat) (l : List Nat) (h : Reads w B 1 A n (byts l)) (hB : B ≤ w.heap.size) (hn : n ≤ 140737488355327) :
    Calls Try.prog 11 #[.slice A n c] w fun e w' => ∃ A2 c2, e = .returned (.slice A2 (n + 1) c2) ∧ w'.ownsRow w.heap.size 5 1 (.slice A2 (n + 1) c2) (n + 1) (byts (l ++ [0])) ∧ Below w.heap.size w w' := by
  obtain ⟨i0, hi, hz0, hz1, hz2⟩ := info_parts Try.info5w
  have hc := own_any w B A n c l h hB (by omega)
  go_enter Try.func11, Try.ntmps11
  go_wp2_with (first
    | (go_at_call 57; refine hc.mono ?_; clear hc; rintro e w1 ⟨A2, c2, rfl, o2, b2⟩; have r2 := (Reads.of_own o2).alloc (Nat.le_refl _) (.cells #[.int .u8 0] 5))
    | (at_builtin; refine wpList_append_full _ rfl _ _ 22 rfl 5 i0 (.int .u8 0) 1 Try.underlying22 hi hz0 hz1 hz2 rfl A2 n _ rfl w1.heap.size r2 ⟨w1.heap.size, 0, none⟩ 1 1 _ _ rfl (reads_one w1 0) ?c1 (by decide) ?c2 ?c3 ?_))
  case c1 => exact byts_one _
  case c2 => unfold maxLen; omega
  case c3 => omega
  intro v3 w3 o3 g3
  obtain ⟨A3, c3, rfl⟩ := own_shape o3
  have hb3 := (b2.alloc b2.size (.cells #[.int .u8 0] 5)).grown g3 (by have := b2.size; simp; omega) (fun k hk => by cases hk)
  go_wp2
  go_ret
  rw [← byts_append] at o3
  exact ⟨A3, c3, rfl, own_mono o3 (by have := b2.size; simp; omega), hb3⟩

end Go.Proofs.Ytnghfnpmbjnjeaa
