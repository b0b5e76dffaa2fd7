/- Of of the program's disk and of the document's. Conditions: those that each states. -/
import Derived.Test.YtapgcglpkilofaaDiskCopyR
namespace Go.Proofs.Ytapgcglpkilofaa
open Go.RowKit

def ofS (cap : Nat) (log : List Nat) (ls : List (List Nat)) : DS :=
  { cap := cap, log := log, sure := log.length, d0 := ls[0]?.getD [], d1 := ls[1]?.getD [], h0 := decide (0 < ls.length), h1 := decide (1 < ls.length), last := if ls.length = 0 then -1 else 0, steps := 0 }
theorem ofS_0 (cap : Nat) (log : List Nat) (ls : List (List Nat)) (h : 0 < ls.length) : ofS cap log (ls.take 1) = { ofS cap log (ls.take 0) with d0 := ls[0], h0 := true, last := 0 } := by
  cases ls with
  | nil => simp at h
  | cons a r => simp [ofS]
theorem ofS_1 (cap : Nat) (log : List Nat) (ls : List (List Nat)) (h : 1 < ls.length) : ofS cap log (ls.take 2) = { ofS cap log (ls.take 1) with d1 := ls[1], h1 := true, last := 0 } := by
  match ls, h with
  | a :: b :: r, _ => simp [ofS]
theorem ofS_ok {cap : Nat} {log : List Nat} {ls : List (List Nat)} (h1 : 1 ≤ cap) (h2 : cap ≤ 1048576) (hl : log.length ≤ 140737488351240) (hs : Small log) (hn : ∀ l ∈ ls, l.length ≤ 140737488351240 ∧ Small l) : (ofS cap log ls).Ok := by
  have hget : ∀ i : Nat, ((ls[i]?).getD []).length ≤ 140737488351240 ∧ Small ((ls[i]?).getD []) := by
    intro i
    cases h : ls[i]? with
    | none => exact ⟨by simp, fun c hc => by simp at hc⟩
    | some l => exact hn l (List.mem_of_getElem? h)
  exact ⟨h1, h2, Nat.le_refl _, hl, (hget 0).1, (hget 1).1, by unfold ofS; dsimp only; split <;> simp, hs, (hget 0).2, (hget 1).2⟩
theorem PD.drew {w : World} {p : Nat} {S : Nat → Prop} {s : DS} (h : PD w p S s) : PD w.drew p S s := h.fr (T := noB) (Fr.refl noB w).drew fun _ _ e => e
theorem RD.drew {w : World} {p : Nat} {S : Nat → Prop} {s : DS} (h : RD w p S s) : RD w.drew p S s := h.fr (T := noB) (Fr.refl noB w).drew fun _ _ e => e
theorem PD.drewN {w : World} {p : Nat} {S : Nat → Prop} {s : DS} (h : PD w p S s) (n : Nat) : PD (w.drewN n) p S s := h.fr (T := noB) ((Fr.refl noB w).drewN n) fun _ _ e => e
theorem RD.drewN {w : World} {p : Nat} {S : Nat → Prop} {s : DS} (h : RD w p S s) (n : Nat) : RD (w.drewN n) p S s := h.fr (T := noB) ((Fr.refl noB w).drewN n) fun _ _ e => e

/-- A place laid anew. -/
theorem PDx.lay0 {w w1 w2 : World} {p : Nat} {S : Nat → Prop} {Al : Option Addr} {nl cl : Nat} {A0 : Option Addr} {n0 c0 : Nat} {A1 : Option Addr} {n1 c1 : Nat} {s s2 : DS} (hx : PDx w p Al nl cl A0 n0 c0 A1 n1 c1 s) (hh : Has S p Al A0 A1)
    {n c2 : Nat} {A2 : Option Addr} (ok : s2.Ok) (m1 : Below w.heap.size w w1) (o1 : w1.ownsRow w.heap.size 5 1 (.slice A2 n c2) n (byts s2.d0)) (hf : Fr (fun k => k = p) w1 w2)
    (hb : Blk w2 p 54 #[.int .i64 s2.cap, .slice Al nl cl, .int .i64 s2.sure, .slice A2 n c2, .bool s2.h0, .slice A1 n1 c1, .bool s2.h1, .int .i64 s2.last, .int .i64 s2.steps]) (e1 : s2.log = s.log) (e2 : s2.d1 = s.d1) : ∃ S', PD w2 p S' s2 ∧ ∀ k, S' k → S k ∨ w.heap.size ≤ k := by
  have f1 : Fr (fun k => k = p) w w2 := (Fr.of_new (S := fun k => k = p) m1).trans' hf
  have hp := hx.blk.lt
  have hnew : ∀ k, blkOf A2 = some k → w.heap.size ≤ k := fun k hk => (o1.lt k (by rw [ownBlock_slice]; exact hk)).1
  have o0 := own_fr (own_mono o1 (Nat.zero_le _)) hf fun k hk e => by
    have := hnew k (bk_of hk)
    omega
  refine ⟨fun k => S k ∨ blkOf A2 = some k, ⟨ok, Al, nl, cl, A2, n, c2, A1, n1, c1, ⟨hb, e1 ▸ own_fr hx.rl f1 hx.nel, o0, e2 ▸ own_fr hx.r1 f1 hx.nep1, ?_, hx.ne1⟩, ⟨.inl hh.p, fun k hk => .inl (hh.l k hk), fun k hk => .inr hk, fun k hk => .inl (hh.d1 k hk)⟩⟩, fun k hk => hk.imp_right (hnew k)⟩
  intro k hk h2
  have h3 := (hx.rl.lt k (by rw [ownBlock_slice]; exact hk)).2
  have := hnew k h2
  omega

/-- A place laid anew. -/
theorem PDx.lay1 {w w1 w2 : World} {p : Nat} {S : Nat → Prop} {Al : Option Addr} {nl cl : Nat} {A0 : Option Addr} {n0 c0 : Nat} {A1 : Option Addr} {n1 c1 : Nat} {s s2 : DS} (hx : PDx w p Al nl cl A0 n0 c0 A1 n1 c1 s) (hh : Has S p Al A0 A1)
    {n c2 : Nat} {A2 : Option Addr} (ok : s2.Ok) (m1 : Below w.heap.size w w1) (o1 : w1.ownsRow w.heap.size 5 1 (.slice A2 n c2) n (byts s2.d1)) (hf : Fr (fun k => k = p) w1 w2)
    (hb : Blk w2 p 54 #[.int .i64 s2.cap, .slice Al nl cl, .int .i64 s2.sure, .slice A0 n0 c0, .bool s2.h0, .slice A2 n c2, .bool s2.h1, .int .i64 s2.last, .int .i64 s2.steps]) (e1 : s2.log = s.log) (e2 : s2.d0 = s.d0) : ∃ S', PD w2 p S' s2 ∧ ∀ k, S' k → S k ∨ w.heap.size ≤ k := by
  have f1 : Fr (fun k => k = p) w w2 := (Fr.of_new (S := fun k => k = p) m1).trans' hf
  have hp := hx.blk.lt
  have hnew : ∀ k, blkOf A2 = some k → w.heap.size ≤ k := fun k hk => (o1.lt k (by rw [ownBlock_slice]; exact hk)).1
  have o0 := own_fr (own_mono o1 (Nat.zero_le _)) hf fun k hk e => by
    have := hnew k (bk_of hk)
    omega
  refine ⟨fun k => S k ∨ blkOf A2 = some k, ⟨ok, Al, nl, cl, A0, n0, c0, A2, n, c2, ⟨hb, e1 ▸ own_fr hx.rl f1 hx.nel, e2 ▸ own_fr hx.r0 f1 hx.nep0, o0, hx.ne0, ?_⟩, ⟨.inl hh.p, fun k hk => .inl (hh.l k hk), fun k hk => .inl (hh.d0 k hk), fun k hk => .inr hk⟩⟩, fun k hk => hk.imp_right (hnew k)⟩
  intro k hk h2
  have h3 := (hx.rl.lt k (by rw [ownBlock_slice]; exact hk)).2
  have := hnew k h2
  omega

/-- A place laid anew. -/
theorem RDx.lay0 {w w1 w2 : World} {p : Nat} {S : Nat → Prop} {Al : Option Addr} {nl cl : Nat} {A0 : Option Addr} {n0 c0 : Nat} {A1 : Option Addr} {n1 c1 : Nat} {s s2 : DS} (hx : RDx w p Al nl cl A0 n0 c0 A1 n1 c1 s) (hh : Has S p Al A0 A1)
    {n c2 : Nat} {A2 : Option Addr} (ok : s2.Ok) (m1 : Below w.heap.size w w1) (o1 : w1.ownsRow w.heap.size 5 1 (.slice A2 n c2) n (byts s2.d0)) (hf : Fr (fun k => k = p) w1 w2)
    (hb : Blk w2 p 61 #[.int .i64 s2.cap, .slice Al nl cl, .int .i64 s2.sure, .slice A2 n c2, .slice A1 n1 c1, .bool s2.h0, .bool s2.h1, .int .i64 s2.last, .int .i64 s2.steps]) (e1 : s2.log = s.log) (e2 : s2.d1 = s.d1) : ∃ S', RD w2 p S' s2 ∧ ∀ k, S' k → S k ∨ w.heap.size ≤ k := by
  have f1 : Fr (fun k => k = p) w w2 := (Fr.of_new (S := fun k => k = p) m1).trans' hf
  have hp := hx.blk.lt
  have hnew : ∀ k, blkOf A2 = some k → w.heap.size ≤ k := fun k hk => (o1.lt k (by rw [ownBlock_slice]; exact hk)).1
  have o0 := own_fr (own_mono o1 (Nat.zero_le _)) hf fun k hk e => by
    have := hnew k (bk_of hk)
    omega
  refine ⟨fun k => S k ∨ blkOf A2 = some k, ⟨ok, Al, nl, cl, A2, n, c2, A1, n1, c1, ⟨hb, e1 ▸ own_fr hx.rl f1 hx.nel, o0, e2 ▸ own_fr hx.r1 f1 hx.nep1, ?_, hx.ne1⟩, ⟨.inl hh.p, fun k hk => .inl (hh.l k hk), fun k hk => .inr hk, fun k hk => .inl (hh.d1 k hk)⟩⟩, fun k hk => hk.imp_right (hnew k)⟩
  intro k hk h2
  have h3 := (hx.rl.lt k (by rw [ownBlock_slice]; exact hk)).2
  have := hnew k h2
  omega

/-- A place laid anew. -/
theorem RDx.lay1 {w w1 w2 : World} {p : Nat} {S : Nat → Prop} {Al : Option Addr} {nl cl : Nat} {A0 : Option Addr} {n0 c0 : Nat} {A1 : Option Addr} {n1 c1 : Nat} {s s2 : DS} (hx : RDx w p Al nl cl A0 n0 c0 A1 n1 c1 s) (hh : Has S p Al A0 A1)
    {n c2 : Nat} {A2 : Option Addr} (ok : s2.Ok) (m1 : Below w.heap.size w w1) (o1 : w1.ownsRow w.heap.size 5 1 (.slice A2 n c2) n (byts s2.d1)) (hf : Fr (fun k => k = p) w1 w2)
    (hb : Blk w2 p 61 #[.int .i64 s2.cap, .slice Al nl cl, .int .i64 s2.sure, .slice A0 n0 c0, .slice A2 n c2, .bool s2.h0, .bool s2.h1, .int .i64 s2.last, .int .i64 s2.steps]) (e1 : s2.log = s.log) (e2 : s2.d0 = s.d0) : ∃ S', RD w2 p S' s2 ∧ ∀ k, S' k → S k ∨ w.heap.size ≤ k := by
  have f1 : Fr (fun k => k = p) w w2 := (Fr.of_new (S := fun k => k = p) m1).trans' hf
  have hp := hx.blk.lt
  have hnew : ∀ k, blkOf A2 = some k → w.heap.size ≤ k := fun k hk => (o1.lt k (by rw [ownBlock_slice]; exact hk)).1
  have o0 := own_fr (own_mono o1 (Nat.zero_le _)) hf fun k hk e => by
    have := hnew k (bk_of hk)
    omega
  refine ⟨fun k => S k ∨ blkOf A2 = some k, ⟨ok, Al, nl, cl, A0, n0, c0, A2, n, c2, ⟨hb, e1 ▸ own_fr hx.rl f1 hx.nel, e2 ▸ own_fr hx.r0 f1 hx.nep0, o0, hx.ne0, ?_⟩, ⟨.inl hh.p, fun k hk => .inl (hh.l k hk), fun k hk => .inl (hh.d0 k hk), fun k hk => .inr hk⟩⟩, fun k hk => hk.imp_right (hnew k)⟩
  intro k hk h2
  have h3 := (hx.rl.lt k (by rw [ownBlock_slice]; exact hk)).2
  have := hnew k h2
  omega

def LaidP (w : World) (s : DS) (e : Ending) (w' : World) : Prop := ∃ q S', e = .returned (.tuple #[.pointer (some ⟨q, 0, none⟩), .int .i64 0]) ∧ PD w' q S' s ∧ (∀ k, S' k → w.heap.size ≤ k) ∧ Below w.heap.size w w'
set_option maxHeartbeats 4000000 in
set_option maxRecDepth 100000 in
theorem ofP (w : World) (B : Nat) (cap : Nat) (Al : Option Addr) (n c : Nat) (log : List Nat) (As : Option Addr) (m cs : Nat) (ls : List (List Nat)) (hB : B ≤ w.heap.size) (hr : Reads w B 1 Al n (byts log)) (hs : Small log) (hln : n ≤ 140737488351240)
    (h : Reads2 w B As m ls) (hn : ∀ l ∈ ls, l.length ≤ 140737488351240 ∧ Small l) (h1 : 1 ≤ cap) (h2 : cap ≤ 1048576) (hm : m ≤ 2) :
    Calls Try.prog 7 #[.int .i64 cap, .slice Al n c, .slice As m cs] w fun e w' => LaidP w (ofS cap log ls) e w' := by
  have hc := clone_any w B Al n c log hr hB hln
  have hlen : log.length = n := by have := hr.1; rw [byts_length] at this; omega
  have q1 : ¬ (cap : Int) < 1 := by omega
  have q2 : ¬ (1048576 : Int) < (cap : Int) := by omega
  have q3 : ¬ (2 : Int) < (m : Int) := by omega
  have OK : ∀ k, (ofS cap log (ls.take k)).Ok := fun k => ofS_ok h1 h2 (by omega) hs fun l hl => hn l (List.mem_of_mem_take hl)
  replace OK := Lib.hid OK
  have HL := Lib.hid hlen
  clear hlen
  go_enter Try.func7, Try.ntmps7
  go_wp2_with (go_at_call 24; refine hc.mono ?_; clear hc; rintro e w1 ⟨A2, c2, rfl, o1, m1⟩)
  have hbw1 : Below w.heap.size w (w1.alloc (.cells #[.int .i64 cap, .slice A2 n c2, .int .i64 n, .slice none 0 0, .bool false, .slice none 0 0, .bool false, .int .i64 (-1), .int .i64 0] 54)) := m1.alloc m1.size _
  have hD : ∃ S', PD (w1.alloc (.cells #[.int .i64 cap, .slice A2 n c2, .int .i64 n, .slice none 0 0, .bool false, .slice none 0 0, .bool false, .int .i64 (-1), .int .i64 0] 54)) w1.heap.size S' (ofS cap log (ls.take 0)) ∧ ∀ k, S' k → w.heap.size ≤ k := by
    refine ⟨fun k => w.heap.size ≤ k, ⟨OK.out 0, A2, n, c2, none, 0, 0, none, 0, 0, ⟨?_, own_fr (own_mono o1 (Nat.zero_le _)) (S := noB) ((Fr.refl _ _).alloc _) (fun _ _ e => e), World.ownsRow_nil _ _ _ _, World.ownsRow_nil _ _ _ _, fun k _ h => (by cases h), fun k _ h => (by cases h)⟩, ⟨m1.size, fun k hk => (o1.lt k (by rw [ownBlock_slice]; exact hk)).1, fun k hk => (by cases hk), fun k hk => (by cases hk)⟩⟩, fun k hk => hk⟩
    have := Blk.new w1 54 #[.int .i64 cap, .slice A2 n c2, .int .i64 n, .slice none 0 0, .bool false, .slice none 0 0, .bool false, .int .i64 (-1), .int .i64 0]
    have hlen := HL.out
    simpa [ofS, hlen] using this
  obtain ⟨S0, hD, hS0⟩ := hD
  have HD := Lib.hid (And.intro hD (And.intro hS0 hbw1))
  clear hD hS0 hbw1
  obtain ⟨q, hq⟩ : ∃ q, w1.heap.size = q := ⟨_, rfl⟩
  simp only [hq] at HD ⊢
  go_loopw [31] (fun iv wr => ∃ (k : Nat) (S' : Nat → Prop), k ≤ m ∧ iv = .int .i64 k ∧ PD wr q S' (ofS cap log (ls.take k)) ∧ (∀ k, S' k → w.heap.size ≤ k) ∧ Below w.heap.size w wr) (fun iv _ => m - (intOf iv).toNat)
  case atStart => exact ⟨0, S0, by omega, rfl, HD.out.1, HD.out.2.1, HD.out.2.2⟩
  case round =>
    obtain ⟨k, S', hk, rfl, hD, hS, hbw⟩ := hrel
    clear HD m1 o1 hq
    by_cases hlt : k < m
    · obtain rfl | rfl : k = 0 ∨ k = 1 := by omega
      · obtain ⟨hokS, Al, nl, cl, A0, n0, c0, A1, n1, c1, hx, hh⟩ := hD
        have HX := Lib.hid (And.intro hx (And.intro hh (And.intro hS hbw)))
        have hls : 0 < ls.length := by have := h.len; omega
        obtain ⟨ad, A', c', rfl, hab, hcl, hrd, hsm, _⟩ := (h.below (hbw.mono hB)).at_ 0 hls
        have hlen : ls[0].length ≤ 140737488351240 := (hn _ (List.getElem_mem hls)).1
        have hc := clone_any wr.drew wr.heap.size A' ls[0].length c' ls[0] ((hrd.more (by have := hbw.size; omega)).drew) (Nat.le_refl _) hlen
        replace hcl : wr.cell? ad = some (.slice A' ls[0].length c') := hcl
        have hcl' : wr.drew.cell? ad = some (.slice A' ls[0].length c') := hcl
        have q1 : 0 < m := hlt
        have q2 : ((0 : Nat) : Int) < (m : Int) := by omega
        obtain ⟨l, hl⟩ : ∃ l, ls[0] = l := ⟨_, rfl⟩
        rw [hl] at hc hcl' hcl
        clear hx hh hS hbw hokS hrd
        go_wp2
        go_region_law (first | (go_simp; go_at_call 24; refine hc.mono ?_; rintro e w1 ⟨A2, c2, rfl, o1, m1⟩; have mB : Below wr.heap.size wr w1 := (Below.refl _ wr).drew.trans m1; have hb1 := HX.out.1.blk.below mB HX.out.1.blk.lt; have g3 := (hb1.cell 3).trans rfl; have g4 := (hb1.cell 4).trans rfl; have g7 := (hb1.cell 7).trans rfl; have gf := hb1.frozen))
        all_goals
          go_wp2
          go_roundw
          case rel =>
            have hb3 := ((hb1.set_ 3 (.slice A2 l.length c2)).set_ 4 (.bool true)).set_ 7 (.int .i64 0)
            obtain ⟨hx, hh, hS, hbw⟩ := HX.out
            have hf3 := fr_more (fr_more (fr_one w1 q 3 (.slice A2 l.length c2)) 4 (.bool true)) 7 (.int .i64 0)
            have okk : (ofS cap log (ls.take 1)).Ok := OK.out 1
            have eS := ofS_0 cap log ls hls
            obtain ⟨S2, hP, hS2⟩ := hx.lay0 (s2 := ofS cap log (ls.take 1)) hh okk mB (by rw [eS]; rw [hl]; exact o1) hf3 (by rw [eS]; exact hb3) (by rw [eS]) (by rw [eS])
            refine ⟨1, S2, hlt, by first | rfl | trivial, by first | exact hP | exact hP.drew, fun k hk => ?_, ?_⟩
            · rcases hS2 k hk with e | e
              · exact hS k e
              · exact Nat.le_trans hbw.size e
            · have hqn := hS _ hh.p
              exact hbw.trans (mB.mono hbw.size) |>.setCell (p := ⟨_, 3, none⟩) hqn _ |>.setCell (p := ⟨_, 4, none⟩) hqn _ |>.setCell (p := ⟨_, 7, none⟩) hqn _
          case measure => simp [intOf]; omega
      · obtain ⟨hokS, Al, nl, cl, A0, n0, c0, A1, n1, c1, hx, hh⟩ := hD
        have HX := Lib.hid (And.intro hx (And.intro hh (And.intro hS hbw)))
        have hls : 1 < ls.length := by have := h.len; omega
        obtain ⟨ad, A', c', rfl, hab, hcl, hrd, hsm, _⟩ := (h.below (hbw.mono hB)).at_ 1 hls
        have hlen : ls[1].length ≤ 140737488351240 := (hn _ (List.getElem_mem hls)).1
        have hc := clone_any wr.drew wr.heap.size A' ls[1].length c' ls[1] ((hrd.more (by have := hbw.size; omega)).drew) (Nat.le_refl _) hlen
        replace hcl : wr.cell? ⟨ad.block, ad.off + 1, none⟩ = some (.slice A' ls[1].length c') := hcl
        have hcl' : wr.drew.cell? ⟨ad.block, ad.off + 1, none⟩ = some (.slice A' ls[1].length c') := hcl
        have q1 : 1 < m := hlt
        have q2 : ((1 : Nat) : Int) < (m : Int) := by omega
        obtain ⟨l, hl⟩ : ∃ l, ls[1] = l := ⟨_, rfl⟩
        rw [hl] at hc hcl' hcl
        clear hx hh hS hbw hokS hrd
        go_wp2
        go_region_law (first | (go_simp; go_at_call 24; refine hc.mono ?_; rintro e w1 ⟨A2, c2, rfl, o1, m1⟩; have mB : Below wr.heap.size wr w1 := (Below.refl _ wr).drew.trans m1; have hb1 := HX.out.1.blk.below mB HX.out.1.blk.lt; have g5 := (hb1.cell 5).trans rfl; have g6 := (hb1.cell 6).trans rfl; have g7 := (hb1.cell 7).trans rfl; have gf := hb1.frozen))
        all_goals
          go_wp2
          go_roundw
          case rel =>
            have hb3 := ((hb1.set_ 5 (.slice A2 l.length c2)).set_ 6 (.bool true)).set_ 7 (.int .i64 0)
            obtain ⟨hx, hh, hS, hbw⟩ := HX.out
            have hf3 := fr_more (fr_more (fr_one w1 q 5 (.slice A2 l.length c2)) 6 (.bool true)) 7 (.int .i64 0)
            have okk : (ofS cap log (ls.take 2)).Ok := OK.out 2
            have eS := ofS_1 cap log ls hls
            obtain ⟨S2, hP, hS2⟩ := hx.lay1 (s2 := ofS cap log (ls.take 2)) hh okk mB (by rw [eS]; rw [hl]; exact o1) hf3 (by rw [eS]; exact hb3) (by rw [eS]) (by rw [eS])
            refine ⟨2, S2, hlt, by first | rfl | trivial, by first | exact hP | exact hP.drew, fun k hk => ?_, ?_⟩
            · rcases hS2 k hk with e | e
              · exact hS k e
              · exact Nat.le_trans hbw.size e
            · have hqn := hS _ hh.p
              exact hbw.trans (mB.mono hbw.size) |>.setCell (p := ⟨_, 5, none⟩) hqn _ |>.setCell (p := ⟨_, 6, none⟩) hqn _ |>.setCell (p := ⟨_, 7, none⟩) hqn _
          case measure => simp [intOf]; omega
    · obtain rfl : k = m := by omega
      have hlm : ls.take k = ls := List.take_of_length_le (by have := h.len; omega)
      rw [hlm] at hD
      have HD := Lib.hid (And.intro hD (And.intro hS hbw))
      clear hD hS hbw hlm
      go_wp2
      go_ret2
      exact ⟨q, S', rfl, HD.out.1, HD.out.2.1, HD.out.2.2⟩

theorem ofPNo (w : World) (z : Int) (Al : Option Addr) (n c : Nat) (As : Option Addr) (m cs : Nat) (h : z < 1 ∨ 1048576 < z ∨ 2 < m) :
    Calls Try.prog 7 #[.int .i64 z, .slice Al n c, .slice As m cs] w fun e w' => e = .returned (.tuple #[.pointer none, .int .i64 2]) ∧ w = w' := by
  by_cases h1 : z < 1
  · go_enter Try.func7, Try.ntmps7
    go_wp2
    go_ret2
    exact ⟨rfl, rfl⟩
  by_cases h2 : 1048576 < z
  · clear h
    go_enter Try.func7, Try.ntmps7
    go_wp2
    go_ret2
    exact ⟨rfl, rfl⟩
  have h3 : (2 : Int) < (m : Int) := by omega
  clear h
  go_enter Try.func7, Try.ntmps7
  go_wp2
  go_ret2
  exact ⟨rfl, rfl⟩

def LaidR (w : World) (s : DS) (e : Ending) (w' : World) : Prop := ∃ q S', e = .returned (.pointer (some ⟨q, 0, none⟩)) ∧ RD w' q S' s ∧ (∀ k, S' k → w.heap.size ≤ k) ∧ Below w.heap.size w w'
set_option maxHeartbeats 4000000 in
set_option maxRecDepth 100000 in
theorem ofR (w : World) (B : Nat) (cap : Nat) (Al : Option Addr) (n c : Nat) (log : List Nat) (As : Option Addr) (m cs : Nat) (ls : List (List Nat)) (hB : B ≤ w.heap.size) (hr : Reads w B 1 Al n (byts log)) (hs : Small log) (hln : n ≤ 140737488351240)
    (h : Reads2 w B As m ls) (hn : ∀ l ∈ ls, l.length ≤ 140737488351240 ∧ Small l) (h1 : 1 ≤ cap) (h2 : cap ≤ 1048576) (hm : m ≤ 2) :
    Calls Try.prog 8 #[.int .i64 cap, .slice Al n c, .slice As m cs] w fun e w' => LaidR w (ofS cap log ls) e w' := by
  have hc := copyR_any w B Al n c log hr hB hln
  have hlen : log.length = n := by have := hr.1; rw [byts_length] at this; omega
  have q1 : ¬ (cap : Int) < 1 := by omega
  have q2 : ¬ (1048576 : Int) < (cap : Int) := by omega
  have q3 : ¬ (2 : Int) < (m : Int) := by omega
  have OK : ∀ k, (ofS cap log (ls.take k)).Ok := fun k => ofS_ok h1 h2 (by omega) hs fun l hl => hn l (List.mem_of_mem_take hl)
  replace OK := Lib.hid OK
  have HL := Lib.hid hlen
  clear hlen
  go_enter Try.func8, Try.ntmps8
  go_wp2_with (go_at_call 25; refine hc.mono ?_; clear hc; rintro e w1 ⟨A2, c2, rfl, o1, m1⟩)
  have hbw1 : Below w.heap.size w (w1.alloc (.cells #[.int .i64 cap, .slice A2 n c2, .int .i64 n, .slice none 0 0, .slice none 0 0, .bool false, .bool false, .int .i64 (-1), .int .i64 0] 61)) := m1.alloc m1.size _
  have hD : ∃ S', RD (w1.alloc (.cells #[.int .i64 cap, .slice A2 n c2, .int .i64 n, .slice none 0 0, .slice none 0 0, .bool false, .bool false, .int .i64 (-1), .int .i64 0] 61)) w1.heap.size S' (ofS cap log (ls.take 0)) ∧ ∀ k, S' k → w.heap.size ≤ k := by
    refine ⟨fun k => w.heap.size ≤ k, ⟨OK.out 0, A2, n, c2, none, 0, 0, none, 0, 0, ⟨?_, own_fr (own_mono o1 (Nat.zero_le _)) (S := noB) ((Fr.refl _ _).alloc _) (fun _ _ e => e), World.ownsRow_nil _ _ _ _, World.ownsRow_nil _ _ _ _, fun k _ h => (by cases h), fun k _ h => (by cases h)⟩, ⟨m1.size, fun k hk => (o1.lt k (by rw [ownBlock_slice]; exact hk)).1, fun k hk => (by cases hk), fun k hk => (by cases hk)⟩⟩, fun k hk => hk⟩
    have := Blk.new w1 61 #[.int .i64 cap, .slice A2 n c2, .int .i64 n, .slice none 0 0, .slice none 0 0, .bool false, .bool false, .int .i64 (-1), .int .i64 0]
    have hlen := HL.out
    simpa [ofS, hlen] using this
  obtain ⟨S0, hD, hS0⟩ := hD
  have HD := Lib.hid (And.intro hD (And.intro hS0 hbw1))
  clear hD hS0 hbw1
  obtain ⟨q, hq⟩ : ∃ q, w1.heap.size = q := ⟨_, rfl⟩
  simp only [hq] at HD ⊢
  go_loopw [8] (fun iv wr => ∃ (k : Nat) (S' : Nat → Prop), k ≤ m ∧ iv = .int .i64 k ∧ RD wr q S' (ofS cap log (ls.take k)) ∧ (∀ k, S' k → w.heap.size ≤ k) ∧ Below w.heap.size w wr) (fun iv _ => m - (intOf iv).toNat)
  case atStart => exact ⟨0, S0, by omega, rfl, HD.out.1, HD.out.2.1, HD.out.2.2⟩
  case round =>
    obtain ⟨k, S', hk, rfl, hD, hS, hbw⟩ := hrel
    clear HD m1 o1 hq
    by_cases hlt : k < m
    · obtain rfl | rfl : k = 0 ∨ k = 1 := by omega
      · obtain ⟨hokS, Al, nl, cl, A0, n0, c0, A1, n1, c1, hx, hh⟩ := hD
        have HX := Lib.hid (And.intro hx (And.intro hh (And.intro hS hbw)))
        have hls : 0 < ls.length := by have := h.len; omega
        obtain ⟨ad, A', c', rfl, hab, hcl, hrd, hsm, _⟩ := (h.below (hbw.mono hB)).at_ 0 hls
        have hlen : ls[0].length ≤ 140737488351240 := (hn _ (List.getElem_mem hls)).1
        have hc := copyR_any wr.drew wr.heap.size A' ls[0].length c' ls[0] ((hrd.more (by have := hbw.size; omega)).drew) (Nat.le_refl _) hlen
        replace hcl : wr.cell? ad = some (.slice A' ls[0].length c') := hcl
        have hcl' : wr.drew.cell? ad = some (.slice A' ls[0].length c') := hcl
        have q1 : 0 < m := hlt
        have q2 : ((0 : Nat) : Int) < (m : Int) := by omega
        obtain ⟨l, hl⟩ : ∃ l, ls[0] = l := ⟨_, rfl⟩
        rw [hl] at hc hcl' hcl
        clear hx hh hS hbw hokS hrd
        go_wp2
        go_region_law (first | (go_simp; go_at_call 25; refine hc.mono ?_; rintro e w1 ⟨A2, c2, rfl, o1, m1⟩; have mB : Below wr.heap.size wr w1 := (Below.refl _ wr).drew.trans m1; have hb1 := HX.out.1.blk.below mB HX.out.1.blk.lt; have g3 := (hb1.cell 3).trans rfl; have g5 := (hb1.cell 5).trans rfl; have g7 := (hb1.cell 7).trans rfl; have gf := hb1.frozen))
        all_goals
          go_wp2
          go_roundw
          case rel =>
            have hb3 := ((hb1.set_ 3 (.slice A2 l.length c2)).set_ 5 (.bool true)).set_ 7 (.int .i64 0)
            obtain ⟨hx, hh, hS, hbw⟩ := HX.out
            have hf3 := fr_more (fr_more (fr_one w1 q 3 (.slice A2 l.length c2)) 5 (.bool true)) 7 (.int .i64 0)
            have okk : (ofS cap log (ls.take 1)).Ok := OK.out 1
            have eS := ofS_0 cap log ls hls
            obtain ⟨S2, hP, hS2⟩ := hx.lay0 (s2 := ofS cap log (ls.take 1)) hh okk mB (by rw [eS]; rw [hl]; exact o1) hf3 (by rw [eS]; exact hb3) (by rw [eS]) (by rw [eS])
            refine ⟨1, S2, hlt, by first | rfl | trivial, by first | exact hP | exact hP.drew, fun k hk => ?_, ?_⟩
            · rcases hS2 k hk with e | e
              · exact hS k e
              · exact Nat.le_trans hbw.size e
            · have hqn := hS _ hh.p
              exact hbw.trans (mB.mono hbw.size) |>.setCell (p := ⟨_, 3, none⟩) hqn _ |>.setCell (p := ⟨_, 5, none⟩) hqn _ |>.setCell (p := ⟨_, 7, none⟩) hqn _
          case measure => simp [intOf]; omega
      · obtain ⟨hokS, Al, nl, cl, A0, n0, c0, A1, n1, c1, hx, hh⟩ := hD
        have HX := Lib.hid (And.intro hx (And.intro hh (And.intro hS hbw)))
        have hls : 1 < ls.length := by have := h.len; omega
        obtain ⟨ad, A', c', rfl, hab, hcl, hrd, hsm, _⟩ := (h.below (hbw.mono hB)).at_ 1 hls
        have hlen : ls[1].length ≤ 140737488351240 := (hn _ (List.getElem_mem hls)).1
        have hc := copyR_any wr.drew wr.heap.size A' ls[1].length c' ls[1] ((hrd.more (by have := hbw.size; omega)).drew) (Nat.le_refl _) hlen
        replace hcl : wr.cell? ⟨ad.block, ad.off + 1, none⟩ = some (.slice A' ls[1].length c') := hcl
        have hcl' : wr.drew.cell? ⟨ad.block, ad.off + 1, none⟩ = some (.slice A' ls[1].length c') := hcl
        have q1 : 1 < m := hlt
        have q2 : ((1 : Nat) : Int) < (m : Int) := by omega
        obtain ⟨l, hl⟩ : ∃ l, ls[1] = l := ⟨_, rfl⟩
        rw [hl] at hc hcl' hcl
        clear hx hh hS hbw hokS hrd
        go_wp2
        go_region_law (first | (go_simp; go_at_call 25; refine hc.mono ?_; rintro e w1 ⟨A2, c2, rfl, o1, m1⟩; have mB : Below wr.heap.size wr w1 := (Below.refl _ wr).drew.trans m1; have hb1 := HX.out.1.blk.below mB HX.out.1.blk.lt; have g4 := (hb1.cell 4).trans rfl; have g6 := (hb1.cell 6).trans rfl; have g7 := (hb1.cell 7).trans rfl; have gf := hb1.frozen))
        all_goals
          go_wp2
          go_roundw
          case rel =>
            have hb3 := ((hb1.set_ 4 (.slice A2 l.length c2)).set_ 6 (.bool true)).set_ 7 (.int .i64 0)
            obtain ⟨hx, hh, hS, hbw⟩ := HX.out
            have hf3 := fr_more (fr_more (fr_one w1 q 4 (.slice A2 l.length c2)) 6 (.bool true)) 7 (.int .i64 0)
            have okk : (ofS cap log (ls.take 2)).Ok := OK.out 2
            have eS := ofS_1 cap log ls hls
            obtain ⟨S2, hP, hS2⟩ := hx.lay1 (s2 := ofS cap log (ls.take 2)) hh okk mB (by rw [eS]; rw [hl]; exact o1) hf3 (by rw [eS]; exact hb3) (by rw [eS]) (by rw [eS])
            refine ⟨2, S2, hlt, by first | rfl | trivial, by first | exact hP | exact hP.drew, fun k hk => ?_, ?_⟩
            · rcases hS2 k hk with e | e
              · exact hS k e
              · exact Nat.le_trans hbw.size e
            · have hqn := hS _ hh.p
              exact hbw.trans (mB.mono hbw.size) |>.setCell (p := ⟨_, 4, none⟩) hqn _ |>.setCell (p := ⟨_, 6, none⟩) hqn _ |>.setCell (p := ⟨_, 7, none⟩) hqn _
          case measure => simp [intOf]; omega
    · obtain rfl : k = m := by omega
      have hlm : ls.take k = ls := List.take_of_length_le (by have := h.len; omega)
      rw [hlm] at hD
      have HD := Lib.hid (And.intro hD (And.intro hS hbw))
      clear hD hS hbw hlm
      go_wp2
      go_ret
      exact ⟨q, S', rfl, HD.out.1, HD.out.2.1, HD.out.2.2⟩

theorem ofRNo (w : World) (z : Int) (Al : Option Addr) (n c : Nat) (As : Option Addr) (m cs : Nat) (h : z < 1 ∨ 1048576 < z ∨ 2 < m) :
    Calls Try.prog 8 #[.int .i64 z, .slice Al n c, .slice As m cs] w fun e w' => e = .returned (.pointer none) ∧ w = w' := by
  by_cases h1 : z < 1
  · go_enter Try.func8, Try.ntmps8
    go_wp2
    go_ret
    exact ⟨rfl, rfl⟩
  by_cases h2 : 1048576 < z
  · clear h
    go_enter Try.func8, Try.ntmps8
    go_wp2
    go_ret
    exact ⟨rfl, rfl⟩
  have h3 : (2 : Int) < (m : Int) := by omega
  clear h
  go_enter Try.func8, Try.ntmps8
  go_wp2
  go_ret
  exact ⟨rfl, rfl⟩
end Go.Proofs.Ytapgcglpkilofaa
