/- frame.One: the one frame that bytes are. Conditions: those that each states. -/
import Derived.Test.YtpnagblbhlglhaaFrameBegin
namespace Go.Proofs.Ytpnagblbhlglhaa
open Go.RowKit

/-- What One answers. -/
def OnePost (w : World) (b : List Nat) (e : Ending) (w' : World) : Prop := Below w.heap.size w w' ∧
  ((¬ (beginE b = 0 ∧ 9 + bgN b = b.length) ∧ e = .returned (.tuple #[.agg #[.int .i64 0, .slice none 0 0], .int .i64 4])) ∨
    ((beginE b = 0 ∧ 9 + bgN b = b.length) ∧ ∃ A2 c2, e = .returned (.tuple #[.agg #[.int .i64 (b.getD 0 0 : Nat), .slice A2 (bgN b) c2], .int .i64 0]) ∧ w'.ownsRow w.heap.size 5 1 (.slice A2 (bgN b) c2) (bgN b) (byts (bodyN b))))
set_option maxHeartbeats 2000000 in
set_option maxRecDepth 100000 in
theorem one_any (w : World) (B : Nat) (A : Option Addr) (n c : Nat) (b : List Nat) (h : Reads w B 1 A n (byts b)) (hs : Small b) (hB : B ≤ w.heap.size) (hn : n ≤ 140737488355300) (hc : n ≤ c) :
    Calls Try.prog 58 #[.slice A n c] w (OnePost w b) := by
  have hlen : b.length = n := by have := h.1; rw [byts_length] at this; omega
  have hw1 : Below w.heap.size w (w.alloc (.cells #[.int .i64 0, .slice none 0 0] 94)) := (Below.refl _ w).alloc (Nat.le_refl _) _
  have kq : Blk (w.alloc (.cells #[.int .i64 0, .slice none 0 0] 94)) w.heap.size 94 #[.int .i64 0, .slice none 0 0] := Blk.new w 94 _
  have c82 := begin_any (w.alloc (.cells #[.int .i64 0, .slice none 0 0] 94)) w.heap.size A n c b ((h.more hB).below hw1) hs hw1.size hn hc
  have hsm := getD_small hs 0
  by_cases hE : beginE b = 0
  · obtain ⟨N, hN⟩ : ∃ N, bgN b = N := ⟨_, rfl⟩
    obtain ⟨b0, hb0⟩ : ∃ b0, b.getD 0 0 = b0 := ⟨_, rfl⟩
    have c82' : Calls Try.prog 82 #[.slice A n c] (w.alloc (.cells #[.int .i64 0, .slice none 0 0] 94)) fun e w2 => ∃ A2 c2, e = .returned (.tuple #[.agg #[.int .i64 (b0 : Nat), .slice A2 N c2], .int .i64 (9 + N : Nat), .int .i64 0]) ∧ w2.ownsRow w.heap.size 5 1 (.slice A2 N c2) N (byts (bodyN b)) ∧ Below w.heap.size w w2 ∧ Blk w2 w.heap.size 94 #[.int .i64 0, .slice none 0 0] := by
      refine c82.mono ?_
      rintro e w2 ⟨hb, ⟨h0, _⟩ | ⟨h0, A2, c2, rfl, ho⟩⟩
      · exact absurd hE h0
      · rw [hb0, hN] at *
        exact ⟨A2, c2, rfl, own_mono ho hw1.size, hw1.trans (hb.mono hw1.size), kq.below hb kq.lt⟩
    by_cases hM : 9 + N = n
    · rw [hM] at c82'
      have qn : ((n : Int) != (n : Int)) = false := by simp
      have HH := Lib.hid (And.intro hE (And.intro hlen (And.intro hN (And.intro hb0 hM))))
      clear c82 h hE hlen hN hb0 hM kq hw1 hs
      go_enter Try.func58, Try.ntmps58
      go_wp2_with (go_at_call 82; refine c82'.mono ?_; clear c82'; rintro e w2 ⟨A2, c2, rfl, o2, b2, k2⟩; have kf := Blk.new w2 94 #[.int .i64 (b0 : Nat), .slice A2 N c2]; have z0 := (kf.cell 0).trans rfl; have z1 := (kf.cell 1).trans rfl; have ka := k2.alloc (.cells #[.int .i64 (b0 : Nat), .slice A2 N c2] 94); have y0 := (ka.cell 0).trans rfl; have y1 := (ka.cell 1).trans rfl; have zf := kf.frozen; have yf := ka.frozen; have K2 := Lib.hid (And.intro b2 (And.intro k2 o2)); clear b2 k2 o2)
      obtain ⟨b2, k2, o2⟩ := K2.out
      have hV := ((b2.alloc b2.size (.cells #[.int .i64 (b0 : Nat), .slice A2 N c2] 94)).setCell (p := ⟨w.heap.size, 0, none⟩) (Nat.le_refl _) (.int .i64 (b0 : Nat))).setCell (p := ⟨w.heap.size, 1, none⟩) (Nat.le_refl _) (.slice A2 N c2)
      have kV := (ka.set_ 0 (.int .i64 (b0 : Nat))).set_ 1 (.slice A2 N c2)
      have oa := o2.alloc (.cells #[.int .i64 (b0 : Nat), .slice A2 N c2] 94)
      have oV := own_setCell (own_setCell oa (p := ⟨w.heap.size, 0, none⟩) (fun e => own_blk_ne oa ka (by decide) e) (.int .i64 (b0 : Nat))) (p := ⟨w.heap.size, 1, none⟩) (fun e => own_blk_ne oa ka (by decide) e) (.slice A2 N c2)
      obtain ⟨V, hVV⟩ : ∃ V, (((w2.alloc (.cells #[.int .i64 (b0 : Nat), .slice A2 N c2] 94)).setCell ⟨w.heap.size, 0, none⟩ (.int .i64 (b0 : Nat))).setCell ⟨w.heap.size, 1, none⟩ (.slice A2 N c2)) = V := ⟨_, rfl⟩
      rw [hVV] at kV hV oV ⊢
      have v0 := (kV.cell 0).trans rfl
      have v1 := (kV.cell 1).trans rfl
      obtain ⟨h1, h2, h3, h4, h5⟩ := HH.out
      have hP : OnePost w b (.returned (.tuple #[.agg #[.int .i64 (b0 : Nat), .slice A2 N c2], .int .i64 0])) V := ⟨hV, .inr ⟨⟨h1, by rw [h3, h2, h5]⟩, A2, c2, by rw [h3, h4], by rw [h3]; exact oV⟩⟩
      clear hVV kV hV oV o2 b2 k2 z0 z1 zf y0 y1 yf oa ka kf HH h1 h2 h3 h4 h5
      refine bodyPost_ret (v := .tuple #[.agg #[.int .i64 (b0 : Nat), .slice A2 N c2], .int .i64 0]) ?_ rfl hP
      simp [results, Try.f58, go_sem, v0, v1]
    · have qn : (((9 + N : Nat) : Int) != (n : Int)) = true := by rw [bne_iff_ne]; omega
      obtain ⟨M, hM'⟩ : ∃ M, 9 + N = M := ⟨_, rfl⟩
      rw [hM'] at c82' qn
      have HH := Lib.hid (And.intro hE (And.intro hlen (And.intro hN (And.intro hb0 (And.intro hM' hM)))))
      clear c82 h hE hlen hN hb0 hM hM' kq hw1 hs
      go_enter Try.func58, Try.ntmps58
      go_wp2_with (go_at_call 82; refine c82'.mono ?_; clear c82'; rintro e w2 ⟨A2, c2, rfl, o2, b2, k2⟩; have kf := Blk.new w2 94 #[.int .i64 (b0 : Nat), .slice A2 N c2]; have z0 := (kf.cell 0).trans rfl; have z1 := (kf.cell 1).trans rfl; have ka := k2.alloc (.cells #[.int .i64 (b0 : Nat), .slice A2 N c2] 94); have y0 := (ka.cell 0).trans rfl; have y1 := (ka.cell 1).trans rfl; have zf := kf.frozen; have yf := ka.frozen; have K2 := Lib.hid (And.intro b2 (And.intro k2 o2)); clear b2 k2 o2)
      obtain ⟨b2, k2, o2⟩ := K2.out
      have hV := ((b2.alloc b2.size (.cells #[.int .i64 (b0 : Nat), .slice A2 N c2] 94)).setCell (p := ⟨w.heap.size, 0, none⟩) (Nat.le_refl _) (.int .i64 0)).setCell (p := ⟨w.heap.size, 1, none⟩) (Nat.le_refl _) (.slice none 0 0)
      have kV := (ka.set_ 0 (.int .i64 0)).set_ 1 (.slice none 0 0)
      obtain ⟨V, hVV⟩ : ∃ V, (((w2.alloc (.cells #[.int .i64 (b0 : Nat), .slice A2 N c2] 94)).setCell ⟨w.heap.size, 0, none⟩ (.int .i64 0)).setCell ⟨w.heap.size, 1, none⟩ (.slice none 0 0)) = V := ⟨_, rfl⟩
      rw [hVV] at kV hV ⊢
      have v0 := (kV.cell 0).trans rfl
      have v1 := (kV.cell 1).trans rfl
      have hno : ¬ (beginE b = 0 ∧ 9 + bgN b = b.length) := by obtain ⟨h1, h2, h3, h4, h5, h6⟩ := HH.out; rw [h2, h3]; exact fun h => h6 h.2
      have hP : OnePost w b (.returned (.tuple #[.agg #[.int .i64 0, .slice none 0 0], .int .i64 4])) V := ⟨hV, .inl ⟨hno, rfl⟩⟩
      clear hVV kV hV b2 k2 z0 z1 zf y0 y1 yf ka kf HH hno
      refine bodyPost_ret (v := .tuple #[.agg #[.int .i64 0, .slice none 0 0], .int .i64 4]) ?_ rfl hP
      simp [results, Try.f58, go_sem, v0, v1]
  · have c82' : Calls Try.prog 82 #[.slice A n c] (w.alloc (.cells #[.int .i64 0, .slice none 0 0] 94)) fun e w2 => e = .returned (.tuple #[.agg #[.int .i64 0, .slice none 0 0], .int .i64 0, .int .i64 (beginE b : Nat)]) ∧ Below w.heap.size w w2 ∧ Blk w2 w.heap.size 94 #[.int .i64 0, .slice none 0 0] := by
      refine c82.mono ?_
      rintro e w2 ⟨hb, ⟨_, rfl⟩ | ⟨h0, _⟩⟩
      · exact ⟨rfl, hw1.trans (hb.mono hw1.size), kq.below hb kq.lt⟩
      · exact absurd h0 hE
    have hz : ((beginE b : Nat) : Int) ≠ 0 := by omega
    obtain ⟨E, hEE⟩ : ∃ E, beginE b = E := ⟨_, rfl⟩
    rw [hEE] at c82' hz
    have qn : ((E : Int) != 0) = true := by rw [bne_iff_ne]; exact hz
    have qn' : ¬ E = 0 := by omega
    have HH := Lib.hid (And.intro hE hlen)
    clear c82 h hE hlen hEE kq hw1
    go_enter Try.func58, Try.ntmps58
    go_wp2_with (go_at_call 82; refine c82'.mono ?_; clear c82'; rintro e w2 ⟨rfl, b2, k2⟩; have kf := Blk.new w2 94 #[.int .i64 0, .slice none 0 0]; have z0 := (kf.cell 0).trans rfl; have z1 := (kf.cell 1).trans rfl; have ka := k2.alloc (.cells #[.int .i64 0, .slice none 0 0] 94); have y0 := (ka.cell 0).trans rfl; have y1 := (ka.cell 1).trans rfl; have zf := kf.frozen; have yf := ka.frozen; have K2 := Lib.hid (And.intro b2 k2); clear b2 k2)
    obtain ⟨b2, k2⟩ := K2.out
    have hV := ((b2.alloc b2.size (.cells #[.int .i64 0, .slice none 0 0] 94)).setCell (p := ⟨w.heap.size, 0, none⟩) (Nat.le_refl _) (.int .i64 0)).setCell (p := ⟨w.heap.size, 1, none⟩) (Nat.le_refl _) (.slice none 0 0)
    have kV := (ka.set_ 0 (.int .i64 0)).set_ 1 (.slice none 0 0)
    obtain ⟨V, hVV⟩ : ∃ V, (((w2.alloc (.cells #[.int .i64 0, .slice none 0 0] 94)).setCell ⟨w.heap.size, 0, none⟩ (.int .i64 0)).setCell ⟨w.heap.size, 1, none⟩ (.slice none 0 0)) = V := ⟨_, rfl⟩
    rw [hVV] at kV hV ⊢
    have v0 := (kV.cell 0).trans rfl
    have v1 := (kV.cell 1).trans rfl
    have hno : ¬ (beginE b = 0 ∧ 9 + bgN b = b.length) := fun h => HH.out.1 h.1
    have hP : OnePost w b (.returned (.tuple #[.agg #[.int .i64 0, .slice none 0 0], .int .i64 4])) V := ⟨hV, .inl ⟨hno, rfl⟩⟩
    clear hVV kV hV b2 k2 z0 z1 zf y0 y1 yf ka kf HH hno
    refine bodyPost_ret (v := .tuple #[.agg #[.int .i64 0, .slice none 0 0], .int .i64 4]) ?_ rfl hP
    simp [results, Try.f58, go_sem, v0, v1]
end Go.Proofs.Ytpnagblbhlglhaa
