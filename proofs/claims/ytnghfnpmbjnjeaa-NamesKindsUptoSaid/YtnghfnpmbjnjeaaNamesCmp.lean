/- bytes.Compare, names.Cmp and the document's answer: one order of bytes. Conditions: those that each states. -/
import Derived.Test.YtnghfnpmbjnjeaaProg
import Derived.Test.YtnghfnpmbjnjeaaBytes
import Derived.Lib.BytesEntry
import Derived.Lib.Walk
import Derived.WalkLawsBesides
import Derived.WalkSpells
import Derived.BigQuiet
import Derived.Outline
import Derived.LoopTactic
import Derived.Laws.BitsAllLaws
import Derived.IntWalk
namespace Go.Proofs.Ytnghfnpmbjnjeaa
open Go.RowKit

/-- Which bytes are ahead. -/
def cmpN : List Nat → List Nat → Int
  | [], [] => 0
  | [], _ :: _ => -1
  | _ :: _, [] => 1
  | a :: ar, b :: br => if a < b then -1 else if b < a then 1 else cmpN ar br

theorem ofNat_lt {a b : Nat} (ha : a < 256) (hb : b < 256) : (UInt8.ofNat a < UInt8.ofNat b) ↔ a < b := by
  rw [UInt8.lt_iff_toNat_lt]
  simp
  omega
theorem cmp_bytes : ∀ (l m : List Nat), Small l → Small m → Lib.compareBytes (l.map UInt8.ofNat) (m.map UInt8.ofNat) = cmpN l m
  | [], [], _, _ => rfl
  | [], _ :: _, _, _ => rfl
  | _ :: _, [], _, _ => rfl
  | a :: ar, b :: br, hl, hm => by
    have ih := cmp_bytes ar br (fun c hc => hl c (List.mem_cons_of_mem _ hc)) (fun c hc => hm c (List.mem_cons_of_mem _ hc))
    have ha := hl a (List.mem_cons_self ..)
    have hb := hm b (List.mem_cons_self ..)
    simp only [List.map_cons, Lib.compareBytes, cmpN, ih, ofNat_lt ha hb, ofNat_lt hb ha]

theorem load_byts {P : Program} {w : World} {B : Nat} {A : Option Addr} {n c : Nat} {l : List Nat} (h : Reads w B 1 A n (byts l)) (hs : Small l) :
    (Extern.Bytes.bytesOf (.slice A n c)).run P w = .ok (strN l) w := by
  have hl : l.length = n := by have := h.1; rw [byts_length] at this; omega
  have e0 : (⟨(l.map UInt8.ofNat).toArray⟩ : ByteArray) = strN l := rfl
  have hmap : Lib.bytesOf (l.map fun c : Nat => (c : Int)) = l.map UInt8.ofNat := by
    simp only [Lib.bytesOf, List.map_map]
    refine List.map_congr_left fun c hc => ?_
    simp
  cases A with
  | none =>
    have hn : n = 0 := by
      rcases Nat.eq_zero_or_pos n with h0 | h0
      · exact h0
      · obtain ⟨ad, h, _⟩ := h.2 h0; cases h
    have : l = [] := List.eq_nil_of_length_eq_zero (by omega)
    subst this
    rfl
  | some ad =>
    have hc : ∀ j x, (l.map fun c : Nat => (c : Int))[j]? = some x → w.cell? (ad.add j) = some (.int .u8 x) := by
      intro j x hj
      rw [List.getElem?_map] at hj
      obtain ⟨c, hc, rfl⟩ := Option.map_eq_some_iff.1 hj
      have hjl := (List.getElem?_eq_some_iff.1 hc).1
      obtain ⟨ad', e, _, hx⟩ := h.2 (by omega)
      cases e
      exact hx j _ (by simp [byts, hc])
    have := Lib.run_loadBytesX (P := P) w (l.map fun c : Nat => (c : Int)) ad .empty hc
    rw [List.length_map, hl, hmap] at this
    show (Extern.Bytes.loadBytes ad n .empty).run P w = _
    rw [this]
    congr 1
    apply ByteArray.ext
    show (#[] : Array UInt8) ++ (l.map UInt8.ofNat).toArray = (l.map UInt8.ofNat).toArray
    simp

section
variable {w : World} {B1 B2 : Nat} {A1 A2 : Option Addr} {n1 c1 n2 c2 : Nat} {l m : List Nat}
theorem run_cmp {P : Program} (h1 : Reads w B1 1 A1 n1 (byts l)) (s1 : Small l) (h2 : Reads w B2 1 A2 n2 (byts m)) (s2 : Small m) :
    (Extern.BytealgCompare.compare #[.slice A1 n1 c1, .slice A2 n2 c2]).run P w = .ok (.int .i64 (cmpN l m)) w := by
  change Sem.run P (do pure (goInt (Extern.BytealgCompare.cmp (← Extern.Bytes.bytesOf (.slice A1 n1 c1)) (← Extern.Bytes.bytesOf (.slice A2 n2 c2))))) w = _
  simp only [Sem.run_bind, Sem.run_pure, load_byts h1 s1, load_byts h2 s2, Result.andThen]
  rw [Lib.cmp_eq]
  show Result.ok (goInt (Lib.compareBytes (l.map UInt8.ofNat) (m.map UInt8.ofNat))) w = _
  rw [cmp_bytes l m s1 s2]
  rfl

set_option maxHeartbeats 1000000 in
set_option maxRecDepth 100000 in
theorem compare_any (w : World) (h1 : Reads w B1 1 A1 n1 (byts l)) (s1 : Small l) (h2 : Reads w B2 1 A2 n2 (byts m)) (s2 : Small m) :
    Calls Try.prog 58 #[.slice A1 n1 c1, .slice A2 n2 c2] w fun e w' => e = .returned (.int .i64 (cmpN l m)) ∧ w = w' := by
  have hr := run_cmp (P := Try.prog) (c1 := c1) (c2 := c2) h1 s1 h2 s2
  go_enter Try.func58, Try.ntmps58
  go_wp2
  rw [run_callFunc_extern Try.func88 (by kernel_rfl) (by kernel_rfl) (by kernel_rfl) (e := Extern.BytealgCompare.compare) (by kernel_rfl), hr]
  simp only [Result.andThen]
  rw [Oper.upon_value]
  go_wp2
  go_ret
  exact ⟨rfl, rfl⟩

set_option maxHeartbeats 1000000 in
set_option maxRecDepth 100000 in
theorem cmp_any (w : World) (h1 : Reads w B1 1 A1 n1 (byts l)) (s1 : Small l) (h2 : Reads w B2 1 A2 n2 (byts m)) (s2 : Small m) :
    Calls Try.prog 16 #[.slice A1 n1 c1, .slice A2 n2 c2] w fun e w' => e = .returned (.int .i64 (cmpN l m)) ∧ w = w' := by
  have hc := compare_any w (c1 := c1) (c2 := c2) h1 s1 h2 s2
  go_enter Try.func16, Try.ntmps16
  go_wp2_with (go_at_call 58; refine hc.mono ?_; clear hc; rintro e w' ⟨rfl, rfl⟩)
  go_ret
  exact ⟨rfl, rfl⟩
end

end Go.Proofs.Ytnghfnpmbjnjeaa
