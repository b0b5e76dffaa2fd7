/- Bytes as cells; slices of slices of bytes. Conditions: none. -/
import Derived.Test.YtbbjbbcakfmpgaaWords
import Derived.Laws.IdiomStrings
import Derived.Laws.BytesArg
namespace Go.Proofs.Ytbbjbbcakfmpgaa
open Go.RowKit

/-- Bytes, as cells. -/
def byts (l : List Nat) : List Value := l.map fun c : Nat => Value.int .u8 (c : Int)
theorem byts_length (l : List Nat) : (byts l).length = l.length := by simp [byts]
theorem byts_append (l m : List Nat) : byts (l ++ m) = byts l ++ byts m := by simp [byts]
theorem byts_take (l : List Nat) (k : Nat) : byts (l.take k) = (byts l).take k := by simp [byts, List.map_take]
theorem byts_drop (l : List Nat) (k : Nat) : byts (l.drop k) = (byts l).drop k := by simp [byts, List.map_drop]
theorem byts_one (l : List Nat) : ∀ u ∈ byts l, u.oneCell' = true := by
  intro u hu
  simp only [byts, List.mem_map] at hu
  obtain ⟨x, _, rfl⟩ := hu
  rfl
/-- All below 256. -/
def Small (l : List Nat) : Prop := ∀ c ∈ l, c < 256
theorem Small.at_ {l : List Nat} (h : Small l) (k : Nat) (hk : k < l.length) : l[k] < 256 := h _ (List.getElem_mem hk)
theorem Small.append {l m : List Nat} (h : Small l) (k : Small m) : Small (l ++ m) := fun c hc => (List.mem_append.1 hc).elim (h c) (k c)
theorem Small.take {l : List Nat} (h : Small l) (k : Nat) : Small (l.take k) := fun c hc => h c (List.mem_of_mem_take hc)
theorem Small.drop {l : List Nat} (h : Small l) (k : Nat) : Small (l.drop k) := fun c hc => h c (List.mem_of_mem_drop hc)

/-- New bytes. -/
theorem made_bytes (n : Nat) : (madeCells #[Value.int .u8 0] n).toList = byts (List.replicate n 0) := by
  apply List.ext_getElem
  · simp [madeCells, byts]
  · intro k h1 h2
    simp [madeCells, byts, Nat.mod_one]

/-- A slice of slices of bytes: every one lies below block B. -/
structure Reads2 (w : World) (B : Nat) (A : Option Addr) (n : Nat) (ls : List (List Nat)) : Prop where
  len : ls.length = n
  at_ : ∀ k (h : k < ls.length), ∃ ad A' c', A = some ad ∧ ad.block < B ∧ w.cell? (ad.add k) = some (.slice A' ls[k].length c') ∧ Reads w B 1 A' ls[k].length (byts ls[k]) ∧ Small ls[k] ∧ ls[k].length ≤ 9223372036854775807
theorem Reads2.keep {w w' : World} {B : Nat} {A : Option Addr} {n : Nat} {ls : List (List Nat)} (h : Reads2 w B A n ls) (hk : ∀ p : Addr, p.block < B → w'.cell? p = w.cell? p) : Reads2 w' B A n ls :=
  ⟨h.len, fun k hl => by
    obtain ⟨ad, A', c', e, hb, hc, hr, hs, hm⟩ := h.at_ k hl
    exact ⟨ad, A', c', e, hb, (hk _ (by rw [block_of_add]; exact hb)).trans hc, hr.keep hk, hs, hm⟩⟩
theorem Reads2.below {w w' : World} {B : Nat} {A : Option Addr} {n : Nat} {ls : List (List Nat)} (h : Reads2 w B A n ls) (hb : Below B w w') : Reads2 w' B A n ls := h.keep fun _ hp => hb.cell hp

/-- Bytes as a string. -/
def strN (l : List Nat) : ByteArray := ⟨(l.map UInt8.ofNat).toArray⟩
theorem strN_inj {l m : List Nat} (hl : Small l) (hm : Small m) (h : strN l = strN m) : l = m := by
  have h1 : l.map UInt8.ofNat = m.map UInt8.ofNat := by
    have := congrArg (fun b => b.data.toList) h
    simpa [strN] using this
  have back : ∀ k : List Nat, Small k → (k.map UInt8.ofNat).map UInt8.toNat = k := by
    intro k hk
    rw [List.map_map]
    conv => rhs; rw [← List.map_id k]
    refine List.map_congr_left fun c hc => ?_
    have := hk c hc
    simp
    omega
  rw [← back l hl, ← back m hm, h1]
theorem strN_ne {l m : List Nat} (hl : Small l) (hm : Small m) (h : l ≠ m) : ¬ (strN l).toList = (strN m).toList := fun e => by
  rw [ByteArray.toList_eq, ByteArray.toList_eq] at e
  exact h (strN_inj hl hm (congrArg ByteArray.mk (Array.toList_inj.1 e)))
theorem run_str {P : Program} {w : World} {B : Nat} {A : Option Addr} {n c src dst e : Nat} {bs : List Nat} (hs : P.underlying src = some (.slice e)) (he : P.underlying e = some (.int .u8)) (hd : P.underlying dst = some .string)
    (h : Reads w B 1 A n (byts bs)) (hsm : Small bs) : (convert src dst (.slice A n c)).run P w = .ok (.string (strN bs)) w := by
  have hl : bs.length = n := by have := h.1; rw [byts_length] at this; omega
  cases A with
  | none =>
    have hn : n = 0 := by
      rcases Nat.eq_zero_or_pos n with h0 | h0
      · exact h0
      · obtain ⟨ad, e, _⟩ := h.2 h0; cases e
    have hb : bs = [] := List.eq_nil_of_length_eq_zero (by omega)
    subst hb
    exact run_convert_bytes_nil w src e hs he n c dst hd
  | some ad =>
    have hc : ∀ j (hj : j < (bs.map UInt8.ofNat).length), w.cell? (ad.add j) = some (.int .u8 ((bs.map UInt8.ofNat)[j].toNat : Int)) := by
      intro j hj
      have hj' : j < bs.length := by simpa using hj
      obtain ⟨ad', e, _, hc⟩ := h.2 (by omega)
      injection e with e
      subst e
      have := hc j (.int .u8 (bs[j] : Nat)) (by simp [byts, hj'])
      rw [this]
      have hlt := hsm.at_ j hj'
      simp
      omega
    have := run_convert_bytes_back (P := P) w src dst e ad c (bs.map UInt8.ofNat) hs he hd hc
    rw [List.length_map, hl] at this
    exact this

end Go.Proofs.Ytbbjbbcakfmpgaa
