/- wicket/window at one type of things: what a going over tells. Conditions: those that each states. -/
import Derived.Test.YtmdohddiddlpiaaWinCopyS
import Derived.Test.YtmdohddiddlpiaaSeq
namespace Go.Proofs.Ytmdohddiddlpiaa
open Go.RowKit Go.Shelf
attribute [local go_sem] Oper.semAt_some

/-- Those that are out, of the first j numbers behind the mark. -/
def outsNS (o : Nat → Bool) (v : Nat → ByteArray) (n m : Nat) : Nat → List (Nat × ByteArray)
  | 0 => []
  | j + 1 => outsNS o v n m j ++ (if o ((m + 1 + j) % n) = true then [(m + 1 + j, v ((m + 1 + j) % n))] else [])
theorem outs_lenS (o : Nat → Bool) (v : Nat → ByteArray) (n m j : Nat) : (outsNS o v n m j).length ≤ j := by
  induction j with
  | zero => exact Nat.le_refl _
  | succ j ih => rw [outsNS, List.length_append]; split <;> simp <;> omega
theorem outs_preS (o : Nat → Bool) (v : Nat → ByteArray) (n m j j' : Nat) (h : j ≤ j') : outsNS o v n m j <+: outsNS o v n m j' := by
  induction j' with
  | zero =>
    obtain rfl : j = 0 := (by omega)
    exact ⟨[], by simp⟩
  | succ k ih =>
    by_cases e : j = k + 1
    · subst e; exact ⟨[], by simp⟩
    · exact (ih (by omega)).trans (List.prefix_append _ _)
theorem outs_ltS (o : Nat → Bool) (v : Nat → ByteArray) (n m j j' : Nat) (h : j < j') (ho : o ((m + 1 + j) % n) = true) : (outsNS o v n m j).length < (outsNS o v n m j').length ∧ (outsNS o v n m j ++ [(m + 1 + j, v ((m + 1 + j) % n))]) <+: outsNS o v n m j' := by
  have h1 := outs_preS o v n m (j + 1) j' h
  rw [outsNS, if_pos ho] at h1
  have h2 := h1.length_le
  rw [List.length_append] at h2
  exact ⟨by simp at h2; omega, h1⟩

/-- The types of a window's blocks. -/
def winTS : TypeId → Prop := fun t => t = 56 ∨ t = 75
theorem RWS.kp {W W' : World} {B p g n c : Nat} {o : Nat → Bool} {v : Nat → ByteArray} {m l : Nat} (h : RWS W p g n c o v m l) (hk : KpFrom winTS B W W') (h1 : B ≤ p) (h2 : B ≤ g) : RWS W' p g n c o v m l :=
  ⟨h.win.kp hk h1 (.inl rfl), by obtain ⟨cur, hb, e⟩ := h.ring; exact ⟨cur, hb.kp hk h2 (.inr rfl), e⟩, h.pos, h.most, h.le, h.span, h.far, h.ne, h.cap⟩

def encS (x : Nat × ByteArray) : Array Value := #[.int .i64 (x.1 : Int), Value.string x.2]

set_option maxHeartbeats 4000000 in
set_option maxRecDepth 100000 in
theorem seqS (w : World) (n₀ Bn p g n c : Nat) (o : Nat → Bool) (v : Nat → ByteArray) (m l : Nat) (h : RWS w p g n c o v m l) (hB : w.cell? ⟨Bn, 0, none⟩ = some (.pointer (some ⟨p, 0, none⟩))) (hBl : Bn < w.heap.size) (hn0 : n₀ ≤ w.heap.size) (d : Nat) (hd : 1 ≤ d) :
    SeqStopsK Fence.wide d Try.prog 48 #[.pointer (some ⟨Bn, 0, none⟩)] encS (KpFrom winTS n₀) (fun xs => xs = outsNS o v n m (l - m)) (fun pre => pre <+: outsNS o v n m (l - m)) (outsNS o v n m (l - m)).length w := by
  intro L J Jx W hW hJ hJx hY h0
  have hBW : W.cell? ⟨Bn, 0, none⟩ = some (.pointer (some ⟨p, 0, none⟩)) := (hW.cell (p := ⟨Bn, 0, none⟩) hBl).trans hB
  have hR := h.fr (S := noB) (Fr.of_new hW) (fun h => h) (fun h => h)
  have hc := copyS W p g n c o v m l hR
  have hsW := hW.size
  have hfar := h.far
  have hle := h.le
  have hpos := h.pos
  obtain ⟨q, hq⟩ : ∃ q, l - m = q := ⟨_, rfl⟩
  rw [hq] at hY ⊢
  refine callsIn_of_wp Try.func48 rfl trivial ?_ rfl
  simp only [Try.ntmps48, List.size_toArray, List.length_cons, List.length_nil, Nat.reduceAdd, Nat.reduceSub, Array.replicate_succ, Array.replicate_zero, List.push_toArray, List.append_toArray, List.nil_append, List.cons_append]
  gi_wp2_with (first
    | (refine ⟨trivial, ?_⟩; gi_at_call 16; refine (callsIn_wide.2 hc).mono ?_; clear hc; rintro e W1 ⟨p2, rfl, g2, c2, hR2, hp2, hg2, hb2⟩; have hm := markS W1 p2 g2 n c2 o v m l hR2)
    | (refine ⟨trivial, ?_⟩; gi_at_call 19; refine (callsIn_wide.2 hm).mono ?_; clear hm; rintro e W2 ⟨rfl, rfl⟩))
  have hJ1 : J [] W1 := abides_new hJ h0 hb2
  have hn2 : n₀ ≤ p2 ∧ n₀ ≤ g2 := ⟨by omega, by omega⟩
  have u0 : IntKind.i64.wrap ((m : Int) + 1) = ((m + 1 + 0 : Nat) : Int) := by rw [IntWalk.i64_in _ (by omega)]; omega
  have H1 := Lib.hid (And.intro hJ1 hR2)
  clear hJ1 hR2 h0
  gi_loopw [4] (fun nv wr => ∃ j, j ≤ q ∧ nv = .int .i64 (m + 1 + j : Nat) ∧ Hid (J (outsNS o v n m j) wr ∧ RWS wr p2 g2 n c2 o v m l)) (fun nv _ => m + 1 + q - (intOf nv).toNat)
  case atStart => exact ⟨0, by omega, by simp, H1⟩
  case round =>
    clear H1 hR u0
    obtain ⟨j, hj, rfl, hJR⟩ := hrel
    have hR2 := hJR.out.2
    have hla := lastS wr p2 g2 n c2 o v m l hR2
    by_cases hjq : j < q
    · obtain ⟨k, hk⟩ : ∃ k, m + 1 + j = k := ⟨_, rfl⟩
      have x1 : (k : Int) ≤ (l : Int) := by omega
      obtain ⟨r, hr⟩ : ∃ r, k % n = r := ⟨_, rfl⟩
      have hrn : r < n := by rw [← hr]; exact Nat.mod_lt _ (by omega)
      have ha := atS wr p2 g2 n c2 o v m l hR2 k r hr (by omega)
      have dN := fun i => (hR2.drewN i).r0 hrn
      have tN := fun i => (hR2.drewN i).r1 hrn
      obtain ⟨k2, hk2⟩ : ∃ k2, k + 1 = k2 := ⟨_, rfl⟩
      have u1 : IntKind.i64.wrap ((k : Int) + 1) = (k2 : Int) := by rw [IntWalk.i64_in _ (by omega)]; omega
      rw [hk]
      cases hb : o r with
      | false =>
        have hst : outsNS o v n m (j + 1) = outsNS o v n m j := by rw [outsNS, hk, hr, if_neg (by rw [hb]; simp), List.append_nil]
        simp only [hb] at dN
        have HS := Lib.hid hst
        have HK := Lib.hid hk
        have HK2 := Lib.hid hk2
        clear hb hr hst hk hk2 hR2 hY
        gi_wp2_with (first
          | (refine ⟨trivial, ?_⟩; gi_at_call 21; refine (callsIn_wide.2 hla).mono ?_; clear hla; rintro e W2 ⟨rfl, rfl⟩)
          | (refine ⟨trivial, ?_⟩; gi_at_call 44; refine (callsIn_wide.2 ha).mono ?_; clear ha; rintro e W2 ⟨rfl, i, rfl⟩))
        refine ⟨fun _ h => (by cases h), ?_⟩
        gi_wp2
        go_roundw
        case rel => exact ⟨j + 1, by omega, by rw [← HK2.out, ← HK.out]; rfl, by rw [HS.out]; exact Lib.hid ⟨abides_drewN hJ hJR.out.1 _, hJR.out.2.drewN _⟩⟩
        case measure => have := HK.out; have := HK2.out; simp [intOf]; omega
      | true =>
        have hst : outsNS o v n m (j + 1) = outsNS o v n m j ++ [(k, v r)] := by rw [outsNS, hk, hr, if_pos hb]
        obtain ⟨hlen, hpre⟩ := outs_ltS o v n m j q hjq (by rw [hk, hr]; exact hb)
        rw [hk, hr] at hpre
        simp only [hb] at dN
        have hYi := fun i => hY (outsNS o v n m j) (k, v r) (wr.drewN i) (abides_drewN hJ hJR.out.1 i) hlen
        obtain ⟨vr, hvr⟩ : ∃ vr, v r = vr := ⟨_, rfl⟩
        rw [hvr] at hst hpre
        simp only [hvr] at hYi tN
        have HS := Lib.hid hst
        have HP := Lib.hid hpre
        have HK := Lib.hid hk
        have HK2 := Lib.hid hk2
        have HY := Lib.hid hYi
        clear hb hr hst hk hk2 hR2 hY hvr hpre hYi
        gi_wp2_with (first
          | (refine ⟨trivial, ?_⟩; gi_at_call 21; refine (callsIn_wide.2 hla).mono ?_; clear hla; rintro e W2 ⟨rfl, rfl⟩)
          | (refine ⟨trivial, ?_⟩; gi_at_call 44; refine (callsIn_wide.2 ha).mono ?_; clear ha; rintro e W2 ⟨rfl, i, rfl⟩; obtain ⟨fn, tmps, assign, body, hy, hR⟩ := HY.out i; dsimp only [encS] at hy))
        refine hR.mono ?_
        rintro e W' (⟨rfl, hJ', hkp⟩ | ⟨rfl, hJx'⟩)
        · gi_wp2
          go_roundw
          case rel => exact ⟨j + 1, by omega, by rw [← HK2.out, ← HK.out]; rfl, by rw [HS.out]; exact Lib.hid ⟨hJ', (hJR.out.2.drewN i).kp hkp hn2.1 hn2.2⟩⟩
          case measure => have := HK.out; have := HK2.out; simp [intOf]; omega
        · gi_wp2
          refine bodyPost_ret (results_none rfl _ _ _) rfl ?_
          exact ⟨⟨_, rfl⟩, .inr ⟨_, HP.out, hJx'⟩⟩
    · have x1 : ¬ ((m + 1 + j : Nat) : Int) ≤ (l : Int) := by omega
      obtain ⟨k, hk⟩ : ∃ k, m + 1 + j = k := ⟨_, rfl⟩
      rw [hk] at x1 ⊢
      clear hk hR2 hY
      gi_wp2_with (refine ⟨trivial, ?_⟩; gi_at_call 21; refine (callsIn_wide.2 hla).mono ?_; clear hla; rintro e W2 ⟨rfl, rfl⟩)
      obtain rfl : j = q := by omega
      go_end0
      exact ⟨⟨_, rfl⟩, .inl ⟨_, rfl, hJR.out.1⟩⟩
end Go.Proofs.Ytmdohddiddlpiaa
