/- frame.Put and the document's: a frame. Conditions: those that each states. -/
import Derived.Test.YtpnagblbhlglhaaFrameBase
namespace Go.Proofs.Ytpnagblbhlglhaa
open Go.RowKit

/-- A few slices of bytes, typed out. -/
theorem reads2_two {w : World} {B g : Nat} {A1 A2 : Option Addr} {n1 c1 n2 c2 : Nat} {l1 l2 : List Nat} (hg : g < B) (k : Blk w g 24 #[.slice A1 n1 c1, .slice A2 n2 c2]) (h1 : l1.length = n1) (h2 : l2.length = n2)
    (r1 : Reads w B 1 A1 n1 (byts l1)) (s1 : Small l1) (b1 : n1 ≤ 140737488355328) (r2 : Reads w B 1 A2 n2 (byts l2)) (s2 : Small l2) (b2 : n2 ≤ 140737488355328) : Reads2 w B (some ⟨g, 0, none⟩) 2 [l1, l2] := by
  subst h1 h2
  refine ⟨rfl, fun j hj => ?_⟩
  have hj2 : j = 0 ∨ j = 1 := by simp at hj; omega
  rcases hj2 with rfl | rfl
  · exact ⟨_, A1, c1, rfl, hg, by rw [addr_add]; exact (k.cell 0).trans rfl, r1, s1, by show l1.length ≤ _; omega⟩
  · exact ⟨_, A2, c2, rfl, hg, by rw [addr_add]; exact (k.cell 1).trans rfl, r2, s2, by show l2.length ≤ _; omega⟩
theorem reads2_three {w : World} {B g : Nat} {A1 A2 A3 : Option Addr} {n1 c1 n2 c2 n3 c3 : Nat} {l1 l2 l3 : List Nat} (hg : g < B) (k : Blk w g 24 #[.slice A1 n1 c1, .slice A2 n2 c2, .slice A3 n3 c3]) (h1 : l1.length = n1) (h2 : l2.length = n2) (h3 : l3.length = n3)
    (r1 : Reads w B 1 A1 n1 (byts l1)) (s1 : Small l1) (b1 : n1 ≤ 140737488355328) (r2 : Reads w B 1 A2 n2 (byts l2)) (s2 : Small l2) (b2 : n2 ≤ 140737488355328) (r3 : Reads w B 1 A3 n3 (byts l3)) (s3 : Small l3) (b3 : n3 ≤ 140737488355328) : Reads2 w B (some ⟨g, 0, none⟩) 3 [l1, l2, l3] := by
  subst h1 h2 h3
  refine ⟨rfl, fun j hj => ?_⟩
  have hj2 : j = 0 ∨ j = 1 ∨ j = 2 := by simp at hj; omega
  rcases hj2 with rfl | rfl | rfl
  · exact ⟨_, A1, c1, rfl, hg, by rw [addr_add]; exact (k.cell 0).trans rfl, r1, s1, by show l1.length ≤ _; omega⟩
  · exact ⟨_, A2, c2, rfl, hg, by rw [addr_add]; exact (k.cell 1).trans rfl, r2, s2, by show l2.length ≤ _; omega⟩
  · exact ⟨_, A3, c3, rfl, hg, by rw [addr_add]; exact (k.cell 2).trans rfl, r3, s3, by show l3.length ≤ _; omega⟩
/-- A block of bytes, of whatever type, reads as they. -/
theorem reads_blk {w : World} {g n : Nat} {t : TypeId} {l : List Nat} (k : Blk w g t (byts l).toArray) (hn : l.length = n) : Reads w w.heap.size 1 (some ⟨g, 0, none⟩) n (byts l) := by
  refine ⟨by rw [byts_length]; omega, fun _ => ⟨_, rfl, k.lt, fun j u hu => ?_⟩⟩
  rw [addr_add, k.cell]
  simpa using hu
theorem headN_small {k n : Nat} (hk : k < 256) : Small (headN k n) := fun c hc => by
  rcases List.mem_cons.1 hc with rfl | h
  · exact hk
  · exact word4_small n c h

set_option maxHeartbeats 4000000 in
set_option maxRecDepth 100000 in
theorem put_any (w : World) (B : Nat) (k : Nat) (A : Option Addr) (n c : Nat) (b : List Nat) (hk : k < 256) (h : Reads w B 1 A n (byts b)) (hs : Small b) (hB : B ≤ w.heap.size) (hn : n ≤ 1048576) :
    Calls Try.prog 60 #[.int .i64 k, .slice A n c] w fun e w' => ∃ A2 c2, e = .returned (.tuple #[.slice A2 (9 + n) c2, .int .i64 0]) ∧ w'.ownsRow w.heap.size 5 1 (.slice A2 (9 + n) c2) (9 + n) (byts (frameN k b)) ∧ Below w.heap.size w w' := by
  have hlen : b.length = n := by have := h.1; rw [byts_length] at this; omega
  have c1 := check_any w k A n c
  rw [if_neg (show ¬ ((k : Int) < 0 ∨ (255 : Int) < k) by omega), if_neg (show ¬ 2147483647 < n by omega)] at c1
  have c2 := header_any w k n hk (by omega)
  rw [← head_cells k n (by omega)] at c2
  have hsm : Small (headN k n ++ b) := (headN_small hk).append hs
  obtain ⟨S, hS⟩ : ∃ S, crcSum (headN k n ++ b) = S := ⟨_, rfl⟩
  have hSlt : S < 4294967296 := by rw [← hS]; exact crcSum_lt _
  have C15 : ∀ w1, Below w.heap.size w w1 → Calls Try.prog 15 #[.slice (some ⟨w1.heap.size + 1, 0, none⟩) 2 2] ((w1.alloc (.cells #[.int .u8 k, .int .u8 ((n : Int) / 16777216), .int .u8 ((n : Int) / 65536 % 256), .int .u8 ((n : Int) / 256 % 256), .int .u8 ((n : Int) % 256)] 139)).alloc (.cells #[.slice (some ⟨w1.heap.size, 0, none⟩) 5 5, .slice A n c] 24))
      fun e w2 => e = .returned (.int .u32 S) ∧ Below w.heap.size w w2 ∧ Blk w2 w1.heap.size 139 (byts (headN k n)).toArray := by
    intro w1 hb
    rw [head_cells k n (by omega)]
    have hk1 := (Blk.new w1 139 (byts (headN k n)).toArray).alloc (.cells #[.slice (some ⟨w1.heap.size, 0, none⟩) 5 5, .slice A n c] 24)
    have hk2 := Blk.new (w1.alloc (.cells (byts (headN k n)).toArray 139)) 24 #[.slice (some ⟨w1.heap.size, 0, none⟩) 5 5, .slice A n c]
    rw [World.size_alloc] at hk2
    have hbb := (hb.alloc hb.size (.cells (byts (headN k n)).toArray 139)).alloc (by simp; have := hb.size; omega) (.cells #[.slice (some ⟨w1.heap.size, 0, none⟩) 5 5, .slice A n c] 24)
    have h2 := reads2_two hk2.lt hk2 (show (headN k n).length = 5 from rfl) hlen (reads_blk hk1 rfl) (headN_small hk) (by omega) (((h.more hB).below hbb).more hbb.size) hs (by omega)
    refine (sum_any _ _ _ 2 2 _ h2 (Nat.le_refl _) (by omega)).mono ?_
    rintro e w2 ⟨rfl, m2⟩
    refine ⟨by rw [← hS]; simp, hbb.trans (m2.mono hbb.size), hk1.below m2 hk1.lt⟩
  have C25 : ∀ w1 w2, Below w.heap.size w w2 → Blk w2 w1 139 (byts (headN k n)).toArray → Calls Try.prog 25 #[.slice (some ⟨w2.heap.size + 1, 0, none⟩) 3 3] ((w2.alloc (.cells #[.int .u8 ((S : Int) / 16777216), .int .u8 ((S : Int) / 65536 % 256), .int .u8 ((S : Int) / 256 % 256), .int .u8 ((S : Int) % 256)] 5)).alloc (.cells #[.slice (some ⟨w1, 0, none⟩) 5 5, .slice (some ⟨w2.heap.size, 0, none⟩) 4 4, .slice A n c] 24))
      fun e w3 => ∃ A2 c2, e = .returned (.slice A2 (9 + n) c2) ∧ w3.ownsRow w.heap.size 5 1 (.slice A2 (9 + n) c2) (9 + n) (byts (frameN k b)) ∧ Below w.heap.size w w3 := by
    intro w1 w2 hb kh
    rw [word4_cells S hSlt]
    have hk0 := (kh.alloc (.cells (byts (word4 S)).toArray 5)).alloc (.cells #[.slice (some ⟨w1, 0, none⟩) 5 5, .slice (some ⟨w2.heap.size, 0, none⟩) 4 4, .slice A n c] 24)
    have hk1 := (Blk.new w2 5 (byts (word4 S)).toArray).alloc (.cells #[.slice (some ⟨w1, 0, none⟩) 5 5, .slice (some ⟨w2.heap.size, 0, none⟩) 4 4, .slice A n c] 24)
    have hk2 := Blk.new (w2.alloc (.cells (byts (word4 S)).toArray 5)) 24 #[.slice (some ⟨w1, 0, none⟩) 5 5, .slice (some ⟨w2.heap.size, 0, none⟩) 4 4, .slice A n c]
    rw [World.size_alloc] at hk2
    have hbb := (hb.alloc hb.size (.cells (byts (word4 S)).toArray 5)).alloc (by simp; have := hb.size; omega) (.cells #[.slice (some ⟨w1, 0, none⟩) 5 5, .slice (some ⟨w2.heap.size, 0, none⟩) 4 4, .slice A n c] 24)
    have h3 := reads2_three hk2.lt hk2 (show (headN k n).length = 5 from rfl) (show (word4 S).length = 4 from rfl) hlen (reads_blk hk0 rfl) (headN_small hk) (by omega) (reads_blk hk1 rfl) (word4_small S) (by omega) (((h.more hB).below hbb).more hbb.size) hs (by omega)
    have hfl : [headN k n, word4 S, b].flatten = frameN k b := by
      unfold frameN
      rw [hlen, hS]
      simp
    have hfn : (frameN k b).length = 9 + n := by rw [frameN_len, hlen]
    refine (join_tells _ _ _ 3 3 _ h3 (Nat.le_refl _) (by omega) (by rw [hfl, hfn]; omega)).mono ?_
    rintro e w3 ⟨A2, c2, rfl, o3, m3⟩
    rw [hfl, hfn] at o3 ⊢
    exact ⟨A2, c2, rfl, own_mono o3 hbb.size, hbb.trans (m3.mono hbb.size)⟩
  have C15' := Lib.hid C15
  have C25' := Lib.hid C25
  clear C15 C25 h hlen hS hsm
  go_enter Try.func60, Try.ntmps60
  go_wp2_with (first
    | (go_at_call 83; refine c1.mono ?_; clear c1; rintro e w' ⟨rfl, rfl⟩)
    | (go_at_call 84; refine c2.mono ?_; clear c2; rintro e w1 ⟨rfl, b1⟩; have c15 := C15'.out w1 b1)
    | (go_at_call 15; refine c15.mono ?_; clear c15; rintro e w2 ⟨rfl, b2, k2⟩; have c25 := C25'.out w1.heap.size w2 b2 k2)
    | (go_at_call 25; refine c25.mono ?_; clear c25; rintro e w3 ⟨A2, c2, rfl, o3, b3⟩))
  go_ret2
  exact ⟨A2, c2, rfl, o3, b3⟩
end Go.Proofs.Ytpnagblbhlglhaa
