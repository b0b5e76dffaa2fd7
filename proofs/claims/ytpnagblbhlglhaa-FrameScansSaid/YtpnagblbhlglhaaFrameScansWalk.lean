/- The walk of wicketlaw04.FrameScans: it answers true. Conditions: those that it states. -/
import Derived.Test.YtpnagblbhlglhaaFrameOver
import Derived.Test.YtpnagblbhlglhaaFrameRefScan
import Derived.Test.YtpnagblbhlglhaaFrameOne
import Derived.Deep.RegionLaw
import Derived.Deep.CutRange
import Derived.Deep.CutBlock
import Derived.Laws.Concat
namespace Go.Proofs.Ytpnagblbhlglhaa
open Go.RowKit

theorem strN_addS (l m : List Nat) : strN (l ++ m) = strN l ++ strN m := by
  apply ByteArray.ext
  simp [strN, ByteArray.data_append]
theorem strN_sizeS (l : List Nat) : (strN l).size = l.length := by
  simp [strN, ByteArray.size]
theorem one_iff (b : List Nat) : (beginE b = 0 ∧ 9 + bgN b = b.length) ↔ ((scanL b).length = 1 ∧ scanE b = 0) := by
  constructor
  · rintro ⟨hE, hl⟩
    have hne : b ≠ [] := fun e => by subst e; simp at hl
    have hd : b.drop (9 + bgN b) = [] := List.drop_eq_nil_of_le (by omega)
    rw [scanL_step hne hE, scanE_step hne hE, hd, scanL_nil, scanE_nil]
    exact ⟨rfl, rfl⟩
  · rintro ⟨hL, hE0⟩
    by_cases hne : b = []
    · subst hne; rw [scanL_nil] at hL; cases hL
    · by_cases hE : beginE b = 0
      · have hf := begin_fits hE
        rw [scanL_step hne hE, List.length_cons] at hL
        rw [scanE_step hne hE] at hE0
        refine ⟨hE, ?_⟩
        by_cases hd : b.drop (9 + bgN b) = []
        · have := congrArg List.length hd
          rw [List.length_drop, List.length_nil] at this
          omega
        · by_cases hE2 : beginE (b.drop (9 + bgN b)) = 0
          · rw [scanL_step hd hE2, List.length_cons] at hL; omega
          · rw [scanE_end hd hE2] at hE0; exact absurd hE0 hE2
      · rw [scanL_end hne hE] at hL; cases hL
theorem one_scan (b : List Nat) (hE : beginE b = 0) (hl : 9 + bgN b = b.length) : scanL b = [(b.getD 0 0, bodyN b)] := by
  have hne : b ≠ [] := fun e => by subst e; simp at hl
  have hd : b.drop (9 + bgN b) = [] := List.drop_eq_nil_of_le (by omega)
  rw [scanL_step hne hE, hd, scanL_nil]

/-- What the frames told are, from the i-th on (its body: bs), and what else stands as it did. -/
structure LaterF (w3 w4 w6 : World) (gl : Nat) (xs : List FrT) (i : Nat) (bs : List Nat) (W : World) : Prop where
  fr : Fr (fun k => w3.heap.size ≤ k ∧ k < w4.heap.size) w6 W
  blk : i < xs.length → ∃ cs, Blk W gl 94 cs ∧ ∀ j (h : j < xs.length), i ≤ j → cs[j * 2]? = some (.int .i64 (xs[j].kind : Nat)) ∧ cs[j * 2 + 1]? = some (.slice xs[j].A xs[j].body.length xs[j].c)
  here : ∀ h : i < xs.length, W.ownsRow w3.heap.size 5 1 (.slice xs[i].A xs[i].body.length xs[i].c) xs[i].body.length (byts bs) ∧ bs.length = xs[i].body.length
  own : ∀ j (h : j < xs.length), i < j → W.ownsRow w3.heap.size 5 1 (.slice xs[j].A xs[j].body.length xs[j].c) xs[j].body.length (byts xs[j].body)
theorem LaterF.new {w3 w4 w6 W W' : World} {gl i : Nat} {xs : List FrT} {bs : List Nat} (h : LaterF w3 w4 w6 gl xs i bs W) (hb : Below W.heap.size W W') : LaterF w3 w4 w6 gl xs i bs W' :=
  ⟨h.fr.new (S' := noB) hb, fun hi => by obtain ⟨cs, h1, h2⟩ := h.blk hi; exact ⟨cs, h1.below hb h1.lt, h2⟩, fun hi => ⟨own_fr (h.here hi).1 (Fr.of_new (S := noB) hb) (fun _ _ e => e), (h.here hi).2⟩, fun j hj hi => own_fr (h.own j hj hi) (Fr.of_new (S := noB) hb) (fun _ _ e => e)⟩
/-- A row of frames is a block. -/
theorem row2_blk {w : World} {base n c : Nat} {e : TypeId} {A : Option Addr} {xs : List Value} (h : w.ownsRow base e 2 (.slice A n c) n xs) (hn : 0 < n) :
    ∃ (g : Nat) (cs : Array Value), A = some ⟨g, 0, none⟩ ∧ base ≤ g ∧ Blk w g e cs ∧ (∀ (j : Nat) (u : Value), xs[j]? = some u → cs[j]? = some u) := by
  rcases h.2 with ⟨h1, h2⟩ | ⟨g, cap, cur, hv, hb, hh, hnc, hm, hsz, ht⟩
  · omega
  · injection hv with h1 h2 h3
    subst h1; subst h3
    refine ⟨g, cur, rfl, hb, hh, fun j u hu => ?_⟩
    rw [← ht, List.getElem?_take] at hu
    split at hu
    · simpa using hu
    · cases hu
/-- A byte of the body that stands next is turned. -/
theorem LaterF.set_ {w3 w4 w6 W : World} {gl i gb k : Nat} {xs : List FrT} {bs : List Nat} (h : LaterF w3 w4 w6 gl xs i bs W) (hi : i < xs.length) (hA : xs[i].A = some ⟨gb, 0, none⟩) (hap : xs.Pairwise fun x y => ∀ k, blkOf x.A = some k → blkOf y.A ≠ some k)
    (hgb : w3.heap.size ≤ gb ∧ gb < w4.heap.size) (v : Nat) (hset : (W.setCell ⟨gb, k, none⟩ (.int .u8 (v : Nat))).ownsRow w3.heap.size 5 1 (.slice xs[i].A xs[i].body.length xs[i].c) xs[i].body.length (byts (bs.set k v))) :
    LaterF w3 w4 w6 gl xs i (bs.set k v) (W.setCell ⟨gb, k, none⟩ (.int .u8 (v : Nat))) := by
  have hbi : blkOf xs[i].A = some gb := by rw [hA]; rfl
  refine ⟨h.fr.setCell (p := ⟨gb, k, none⟩) (fun _ => hgb) _, fun _ => ?_, fun _ => ⟨hset, by rw [List.length_set]; exact (h.here hi).2⟩, fun j hj hij => own_setCell (h.own j hj hij) (fun e => ?_) _⟩
  · obtain ⟨cs, h1, h2⟩ := h.blk hi
    exact ⟨cs, h1.far (fun e => own_blk_ne (h.here hi).1 h1 (by decide) (by rw [ownBlock_slice, hbi, e])) _, h2⟩
  · rw [ownBlock_slice] at e
    exact List.pairwise_iff_getElem.1 hap i j hi hj hij gb hbi e
/-- The slice that holds a body is turned, behind an append to it. -/
theorem LaterF.next {w3 w4 w6 W W2 : World} {gl i len c' : Nat} {A' : Option Addr} {xs : List FrT} {bs : List Nat} {v : Value} (h : LaterF w3 w4 w6 gl xs i bs W) (hi : i < xs.length) (hap : xs.Pairwise fun x y => ∀ k, blkOf x.A = some k → blkOf y.A ≠ some k)
    (hlt : ∀ y ∈ xs, ∀ k, blkOf y.A = some k → k < w4.heap.size) (hgl : w3.heap.size ≤ gl ∧ gl < w4.heap.size) (hg : W.grownBy W2 (Value.slice xs[i].A xs[i].body.length xs[i].c).ownBlock) (_hv : v = .slice A' len c') :
    LaterF w3 w4 w6 gl xs (i + 1) ((xs[i + 1]?.map FrT.body).getD []) (W2.setCell ⟨gl, i * 2 + 1, none⟩ v) := by
  obtain ⟨cs, h1, h2⟩ := h.blk hi
  have hne : (Value.slice xs[i].A xs[i].body.length xs[i].c).ownBlock ≠ some gl := own_blk_ne (h.here hi).1 h1 (by decide)
  have h1' : Blk W2 gl 94 cs := h1.grown hg (fun e => hne e.symm)
  have hown : ∀ j (hj : j < xs.length), i < j → W2.ownsRow w3.heap.size 5 1 (.slice xs[j].A xs[j].body.length xs[j].c) xs[j].body.length (byts xs[j].body) ∧ (Value.slice xs[j].A xs[j].body.length xs[j].c).ownBlock ≠ some gl := fun j hj hij =>
    ⟨own_fr (S := fun k => (Value.slice xs[i].A xs[i].body.length xs[i].c).ownBlock = some k) (h.own j hj hij) (Fr.of_grown hg (fun k e => e)) (fun k hk e => by
      rw [ownBlock_slice] at hk e
      exact List.pairwise_iff_getElem.1 hap i j hi hj hij k e hk), own_blk_ne (h.own j hj hij) h1 (by decide)⟩
  refine ⟨(h.fr.grown hg (fun k _ e => ?_)).setCell (p := ⟨gl, i * 2 + 1, none⟩) (fun _ => hgl) _, fun hi1 => ⟨_, h1'.set_ _ _, fun j hj hij => ?_⟩, fun hi1 => ?_, fun j hj hij => own_setCell (hown j hj (by omega)).1 (hown j hj (by omega)).2 _⟩
  · exact ⟨own_base (h.here hi).1 k e, hlt _ (List.getElem_mem hi) k (by rw [← ownBlock_slice]; exact e)⟩
  · obtain ⟨e1, e2⟩ := h2 j hj (by omega)
    exact ⟨by rw [Array.getElem?_setIfInBounds_ne (by omega)]; exact e1, by rw [Array.getElem?_setIfInBounds_ne (by omega)]; exact e2⟩
  · have e : (xs[i + 1]?.map FrT.body).getD [] = xs[i + 1].body := by rw [List.getElem?_eq_getElem hi1]; rfl
    rw [e]
    exact ⟨own_setCell (hown _ hi1 (by omega)).1 (hown _ hi1 (by omega)).2 _, rfl⟩

set_option maxHeartbeats 8000000 in
set_option maxRecDepth 100000 in
theorem frameScans_walk (w : World) (A : Option Addr) (n c : Nat) (b : List Nat) (leave : Int) (h : Reads w w.heap.size 1 A n (byts b)) (hs : Small b) (hc : n ≤ c) (hn : n ≤ 9223372036854775807) :
    Calls Try.prog 10 #[.slice A n c, .int .i64 leave] w fun e w' => e = .returned (.bool true) ∧ Below w.heap.size w w' := by
  have k52 := knownF
  by_cases hbig : 60000 < n
  · have q0 : (60000 : Int) < (n : Int) := by omega
    go_enter Try.func10, Try.ntmps10
    go_wp2_with (go_at_call 52; refine (k52 _).mono ?_; clear k52; rintro e wk ⟨rfl, bk⟩)
    go_ret
    exact ⟨rfl, bk⟩
  have q0 : ¬ (60000 : Int) < (n : Int) := by omega
  obtain ⟨i0, hi, hz0, hz1, hz2⟩ := info_parts Try.info5w
  have hlen : b.length = n := by have := h.1; rw [byts_length] at this; omega
  have H0 := Lib.hid (And.intro h (And.intro hs hlen))
  clear h hs hlen hn
  have r0 := H0.out.1
  go_enter Try.func10, Try.ntmps10
  go_wp2_with (at_builtin; refine wpList_append_any _ rfl _ _ 24 rfl w.heap.size 5 i0 (.int .u8 0) 1 1 Try.underlying24 hi hz0 hz1 hz2 rfl (by decide) _ _ _ rfl (World.ownsRow_nil _ _ _ _) _ A n _ _ rfl r0 (byts_one _) (by unfold maxLen; omega) (by omega) (Nat.le_refl _) ?_)
  intro v2 w2 o2 g2 _
  obtain ⟨A2, c2, rfl⟩ := own_shape o2
  try simp only [Nat.zero_add, List.nil_append] at o2
  have hb2 : Below w.heap.size w w2 := (Below.refl _ _).grown g2 (Nat.le_refl _) (fun k hk => by cases hk)
  have o2' := o2.alloc (.cells #[.int .u8 119] 5)
  have r2 : Reads (w2.alloc (.cells #[.int .u8 119] 5)) (w2.heap.size + 1) 1 (some ⟨w2.heap.size, 0, none⟩) 1 (byts [119]) := by
    have := reads_blk (Blk.new w2 5 (byts [119]).toArray) (show ([119] : List Nat).length = 1 from rfl)
    rw [World.size_alloc] at this
    exact this
  go_wp2_with (at_builtin; refine wpList_append_any _ rfl _ _ 24 rfl w.heap.size 5 i0 (.int .u8 0) 1 1 Try.underlying24 hi hz0 hz1 hz2 rfl (by decide) _ _ _ rfl o2' _ _ 1 _ _ rfl r2 ?b1 ?b2 ?b3 ?b4 ?_)
  case b1 => exact byts_one _
  case b2 => unfold maxLen; omega
  case b3 => omega
  case b4 => simp; have := hb2.size; omega
  intro v3 w3 o3 g3 _
  obtain ⟨Ao, co, rfl⟩ := own_shape o3
  rw [← byts_append] at o3
  have hb3 : Below w.heap.size w w3 := (hb2.alloc hb2.size (.cells #[.int .u8 119] 5)).grown g3 (by simp; have := hb2.size; omega) (own_base o2')
  clear o2 o2' g2 g3 r2 r0 hb2
  have hco := (own_cap o3).1
  have hs3 : (n : Int) ≤ (co : Int) := by omega
  have hsb := H0.out.2.1
  have hrb : ∀ W, Below w3.heap.size w3 W → Reads W w3.heap.size 1 Ao n (byts b) := by
    intro W hW
    have := ((Reads.of_own o3).below hW).upto (k := n) (by omega)
    rw [Nat.mul_one, ← byts_take, List.take_append_of_le_length (by rw [H0.out.2.2]; exact Nat.le_refl _), ← H0.out.2.2, List.take_length] at this
    rw [← H0.out.2.2]
    exact this
  -- Scan, the document's Scan, All
  obtain ⟨m, hm⟩ : ∃ m, (scanL b).length = m := ⟨_, rfl⟩
  obtain ⟨gd, hgd⟩ : ∃ g, sizeL (scanL b) = g := ⟨_, rfl⟩
  obtain ⟨E, hE⟩ : ∃ e, scanE b = e := ⟨_, rfl⟩
  have got : ∀ (W W' : World) (e : Ending), ScanPost W b e W' → ∃ (xs : List FrT) (Al : Option Addr) (cl : Nat), e = .returned (.tuple #[.slice Al m cl, .int .i64 (gd : Nat), .int .i64 (E : Nat)]) ∧ xs.map FrT.abs = scanL b ∧ GotS W.heap.size (.slice Al m cl) m xs W' ∧ Below W.heap.size W W' := by
    rintro W W' e ⟨xs, v, hxs, rfl, hr, hbd, hbb⟩
    have hxl : xs.length = m := by rw [← hm, ← hxs, List.length_map]
    rw [hxl] at hr
    obtain ⟨Al, cl, rfl⟩ := own_shape hr
    exact ⟨xs, Al, cl, by rw [hgd, hE], hxs, ⟨hxl, hr, hbd⟩, hbb⟩
  have hm9 : 9 * m ≤ 60000 := by
    have h1 := sizeL_many (scanL b)
    have h2 := scan_size b
    rw [H0.out.2.2] at h2
    omega
  have C53 : Calls Try.prog 53 #[.slice Ao n co] w3 fun e w4 => ∃ (xs : List FrT) (Al : Option Addr) (cl : Nat), e = .returned (.tuple #[.slice Al m cl, .int .i64 (gd : Nat), .int .i64 (E : Nat)]) ∧
      Hid (xs.map FrT.abs = scanL b ∧ GotS w3.heap.size (.slice Al m cl) m xs w4 ∧ Below w3.heap.size w3 w4) ∧ Calls Try.prog 54 #[.slice A n c] w4 fun e w5 => ∃ (ws : List FrT) (Aw : Option Addr) (cw : Nat), e = .returned (.tuple #[.slice Aw m cw, .int .i64 (gd : Nat), .int .i64 (E : Nat)]) ∧
        Hid (ws.map FrT.abs = scanL b ∧ GotS w4.heap.size (.slice Aw m cw) m ws w5 ∧ Below w4.heap.size w4 w5) ∧ Calls Try.prog 56 #[.slice Ao n co] w5 fun e w6 => ∃ g A6 c6, e = .returned (.func (.func 81) #[] #[.pointer (some ⟨g, 0, none⟩)]) ∧
          Hid (w5.heap.size ≤ g ∧ Blk w6 g 24 #[.slice A6 n c6] ∧ w6.ownsRow w5.heap.size 5 1 (.slice A6 n c6) n (byts b) ∧ Below w5.heap.size w5 w6) := by
    refine (scan_any w3 w3.heap.size Ao n co b (hrb w3 (Below.refl _ _)) hsb (Nat.le_refl _) (by omega) (by omega)).mono ?_
    intro e w4 hp
    obtain ⟨xs, Al, cl, rfl, hxs, hg4, hb4⟩ := got _ _ _ hp
    have hw4 : Below w.heap.size w w4 := hb3.trans (hb4.mono hb3.size)
    refine ⟨xs, Al, cl, rfl, Lib.hid ⟨hxs, hg4, hb4⟩, (refScan_any w4 w.heap.size A n c b (H0.out.1.below hw4) hsb hw4.size (by omega) hc).mono ?_⟩
    intro e w5 hp5
    obtain ⟨ws, Aw, cw, rfl, hws, hg5, hb5⟩ := got _ _ _ hp5
    have hb35 : Below w3.heap.size w3 w5 := hb4.trans (hb5.mono hb4.size)
    refine ⟨ws, Aw, cw, rfl, Lib.hid ⟨hws, hg5, hb5⟩, (all_any w5 w3.heap.size Ao n co b (hrb w5 hb35) hb35.size (by omega)).mono ?_⟩
    rintro e w6 ⟨g, A6, c6, rfl, hg6, hk6, ho6, hb6⟩
    exact ⟨g, A6, c6, rfl, Lib.hid ⟨hg6, hk6, ho6, hb6⟩⟩
  have HO := Lib.hid (And.intro o3 (And.intro hb3 hrb))
  have HM := Lib.hid (And.intro hm (And.intro hgd hE))
  clear o3 hb3 hrb got hm hgd hE hsb
  have nnil := fun (W : World) (a : Option Addr) => (show Sem.run Try.prog (binOp BinOp.eql 90 (Value.func (.func 81) #[] #[.pointer a]) Value.nilFunc) W = .ok (.bool false) W by kernel_rfl)
  go_wp2_with (first
    | (go_at_call 53; refine C53.mono ?_; clear C53; rintro e w4 ⟨xs, Al, cl, rfl, H4, C54⟩)
    | (go_at_call 54; refine C54.mono ?_; clear C54; rintro e w5 ⟨ws, Aw, cw, rfl, H5, C56⟩)
    | (go_at_call 56; refine C56.mono ?_; clear C56; rintro e w6 ⟨g, A6, c6, rfl, H6⟩)
    | (go_at_call 55; refine (numE_any _ _).mono ?_; rintro e wz ⟨rfl, rfl⟩))
  --LOOP1
  obtain ⟨hxs, hg4, hb4⟩ := H4.out
  obtain ⟨hws, hg5, hb5⟩ := H5.out
  obtain ⟨hg6, hk6, ho6, hb6⟩ := H6.out
  have hb46 : Below w4.heap.size w4 w6 := hb5.trans (hb6.mono hb5.size)
  have hw6 : Below w.heap.size w w6 := HO.out.2.1.trans ((hb4.trans (hb46.mono hb4.size)).mono HO.out.2.1.size)
  have hap := hg4.bods.apart
  have hblt := hg4.bods.lt
  have hxl := hg4.len
  obtain ⟨gl, hgl⟩ : ∃ gl, 0 < m → Al = some ⟨gl, 0, none⟩ ∧ (w3.heap.size ≤ gl ∧ gl < w4.heap.size) ∧ ∃ cs, Blk w6 gl 94 cs ∧ (∀ j u, (flatF xs)[j]? = some u → cs[j]? = some u) := by
    by_cases hm0 : 0 < m
    · obtain ⟨gl, cs, hAl, hb, hk, hc⟩ := row2_blk hg4.row hm0
      exact ⟨gl, fun _ => ⟨hAl, ⟨hb, hk.lt⟩, cs, hk.below hb46 hk.lt, hc⟩⟩
    · exact ⟨0, fun h => absurd h hm0⟩
  have hg46 := hg4.new hb46
  have hL0 : LaterF w3 w4 w6 gl xs 0 ((xs[0]?.map FrT.body).getD []) w6 := by
    refine ⟨Fr.refl _ _, fun hi => ?_, fun hi => ?_, fun j hj _ => hg46.bods.own _ (List.getElem_mem hj)⟩
    · obtain ⟨_, _, cs, h1, h2⟩ := hgl (by omega)
      exact ⟨cs, h1, fun j hj _ => ⟨h2 _ _ (flatS_at xs j hj).1, h2 _ _ (flatS_at xs j hj).2⟩⟩
    · have e : (xs[0]?.map FrT.body).getD [] = xs[0].body := by rw [List.getElem?_eq_getElem hi]; rfl
      rw [e]
      exact ⟨hg46.bods.own _ (List.getElem_mem hi), rfl⟩
  have HL0 := Lib.hid hL0
  have HA := Lib.hid (And.intro hap (And.intro hblt (And.intro hxl hgl)))
  have HW := Lib.hid (And.intro hw6 (And.intro hb46 (And.intro hb4 (And.intro hb5 hb6))))
  clear hL0 hap hblt hxl hgl hg46 hg4 hg5 hg6 hk6 ho6 hxs hws hw6 hb46 hb4 hb5 hb6
  go_loopw [13] (fun iv wr => ∃ j, j ≤ m ∧ iv = .int .i64 j ∧ Hid (LaterF w3 w4 w6 gl xs j ((xs[j]?.map FrT.body).getD []) wr)) (fun iv _ => m - (intOf iv).toNat)
  case atStart => exact ⟨0, by omega, rfl, HL0⟩
  case round =>
  clear HL0
  obtain ⟨j, hj, rfl, HJ⟩ := hrel
  by_cases hlt : j < m
  · have q1 : (j : Int) < (m : Int) := by omega
    have q2 : (0 : Int) ≤ (j : Int) := by omega
    have hjx : j < xs.length := by rw [HA.out.2.2.1]; exact hlt
    obtain ⟨rfl, hgl, _⟩ := HA.out.2.2.2 (by omega)
    obtain ⟨cs, hk, hcs⟩ := HJ.out.blk hjx
    obtain ⟨e0, e1⟩ := hcs j hjx (Nat.le_refl _)
    have hhere := (HJ.out.here hjx).1
    rw [show (xs[j]?.map FrT.body).getD [] = xs[j].body by rw [List.getElem?_eq_getElem hjx]; rfl] at hhere
    -- what is wanted
    obtain ⟨hws, hg5, hb5⟩ := H5.out
    have hg56 := hg5.new H6.out.2.2.2
    have hjw : j < ws.length := by rw [hg5.len]; exact hlt
    have hwrow : wr.ownsRow w4.heap.size 94 2 (.slice Aw m cw) m (flatF ws) := own_fr hg56.row HJ.out.fr (fun k hk e => by have := own_base hg56.row k hk; omega)
    obtain ⟨gw, rfl, _, _, hwcell⟩ := row2_open hwrow (by omega)
    have f0 := hwcell _ _ (flatS_at ws j hjw).1
    have f1 := hwcell _ _ (flatS_at ws j hjw).2
    have hwown : wr.ownsRow w4.heap.size 5 1 (.slice ws[j].A ws[j].body.length ws[j].c) ws[j].body.length (byts ws[j].body) := own_fr (hg56.bods.own _ (List.getElem_mem hjw)) HJ.out.fr (fun k hk e => by have := own_base (hg56.bods.own _ (List.getElem_mem hjw)) k hk; omega)
    have hab : ws[j].abs = xs[j].abs := by
      have h1 : (ws.map FrT.abs)[j]? = (xs.map FrT.abs)[j]? := by rw [hws, H4.out.1]
      rw [List.getElem?_map, List.getElem?_map, List.getElem?_eq_getElem hjw, List.getElem?_eq_getElem hjx] at h1
      simpa using h1
    have hkk : ws[j].kind = xs[j].kind := congrArg Prod.fst hab
    have hbb : ws[j].body = xs[j].body := congrArg Prod.snd hab
    rw [hkk] at f0
    rw [hbb] at f1 hwown
    have hsmx : Small xs[j].body := scan_small b H0.out.2.1 xs[j].abs (by rw [← H4.out.1]; exact List.mem_map_of_mem (List.getElem_mem hjx))
    have c57 := same_any wr.drew (xs[j].kind : Nat) xs[j].A ws[j].A xs[j].body.length xs[j].c ws[j].c xs[j].body (Reads.of_own hhere).drew (Reads.of_own hwown).drew hsmx
    have hbig' : xs[j].body.length ≤ 60000 := by
      have h1 := scan_size b
      rw [← H4.out.1] at h1
      have h2 : sizeL [xs[j].abs] ≤ sizeL (xs.map FrT.abs) := by
        have e : xs.map FrT.abs = (xs.take j).map FrT.abs ++ xs[j].abs :: (xs.drop (j + 1)).map FrT.abs := by
          rw [← List.map_cons, ← List.map_append, List.getElem_cons_drop, List.take_append_drop]
        rw [e, sizeL_append, show xs[j].abs :: (xs.drop (j + 1)).map FrT.abs = [xs[j].abs] ++ (xs.drop (j + 1)).map FrT.abs from rfl, sizeL_append]
        omega
      have h3 : sizeL [xs[j].abs] = 9 + xs[j].body.length := sizeL_one _ _
      have := H0.out.2.2
      omega
    obtain ⟨K, hK⟩ : ∃ K, xs[j].kind = K := ⟨_, rfl⟩
    obtain ⟨ln, hln⟩ : ∃ l, xs[j].body.length = l := ⟨_, rfl⟩
    obtain ⟨Ax, hAx⟩ : ∃ a, xs[j].A = a := ⟨_, rfl⟩
    obtain ⟨cx, hcx⟩ : ∃ a, xs[j].c = a := ⟨_, rfl⟩
    obtain ⟨Ay, hAy⟩ : ∃ a, ws[j].A = a := ⟨_, rfl⟩
    obtain ⟨cy, hcy⟩ : ∃ a, ws[j].c = a := ⟨_, rfl⟩
    rw [hK] at e0 f0
    rw [hAx, hln, hcx] at e1
    rw [hAy, hln, hcy] at f1
    rw [hK, hAx, hln, hcx, hAy, hcy] at c57
    rw [hln] at hbig'
    have x0 : wr.cell? ⟨gl, j * 2, none⟩ = some (.int .i64 (K : Nat)) := (hk.cell _).trans e0
    have x1 : wr.cell? ⟨gl, j * 2 + 1, none⟩ = some (.slice Ax ln cx) := (hk.cell _).trans e1
    have x0' : wr.drew.cell? ⟨gl, j * 2, none⟩ = some (.int .i64 (K : Nat)) := x0
    have x1' : wr.drew.cell? ⟨gl, j * 2 + 1, none⟩ = some (.slice Ax ln cx) := x1
    have f0' : wr.drew.cell? ⟨gw, j * 2, none⟩ = some (.int .i64 (K : Nat)) := f0
    have f1' : wr.drew.cell? ⟨gw, j * 2 + 1, none⟩ = some (.slice Ay ln cy) := f1
    have HX := Lib.hid (And.intro hjx (And.intro hAx (And.intro hln (And.intro hcx hgl))))
    have C57 : Calls Try.prog 57 #[.agg #[.int .i64 (K : Nat), .slice Ax ln cx], .agg #[.int .i64 (K : Nat), .slice Ay ln cy]] wr.drew fun e w7 => e = .returned (.bool true) ∧ w7.cell? ⟨gl, j * 2 + 1, none⟩ = some (.slice Ax ln cx) ∧ Hid (LaterF w3 w4 w6 gl xs j ((xs[j]?.map FrT.body).getD []) w7) := by
      refine c57.mono ?_
      rintro e w7 ⟨rfl, hb⟩
      have hb7 : Below wr.heap.size wr w7 := (Below.refl _ wr).drew.trans hb
      exact ⟨rfl, ((hk.below hb7 hk.lt).cell _).trans e1, Lib.hid (HJ.out.new hb7)⟩
    clear c57 hhere hwrow hwcell hwown hk hcs hg5 hg56 hab hkk hbb hws hb5 hsmx hK hln hAx hcx hAy hcy hgl e0 e1 HJ hjw
    go_wp2
    go_region_law (first | (go_simp; go_at_call 57; refine C57.mono ?_; clear C57; rintro e w7 ⟨rfl, x7, H7⟩))
    all_goals
      clear x0 x0' x1 x1' f0 f0' f1 f1'
      go_wp2
      go_loopw [14] (fun kv wr2 => ∃ (k : Nat) (bs : List Nat), k ≤ ln ∧ kv = .int .i64 k ∧ Hid (LaterF w3 w4 w6 gl xs j bs wr2)) (fun kv _ => ln - (intOf kv).toNat)
      case atStart => exact ⟨0, _, by omega, rfl, H7⟩
      case round =>
      clear H7 x7
      obtain ⟨k, bs, hk, rfl, HK⟩ := hrel
      obtain ⟨cs, hkb, hcs⟩ := HK.out.blk hjx
      have e1 := (hcs j hjx (Nat.le_refl _)).2
      obtain ⟨hown, hbl⟩ := HK.out.here hjx
      rw [HX.out.2.1, HX.out.2.2.1, HX.out.2.2.2.1] at e1 hown
      rw [HX.out.2.2.1] at hbl
      have x1 : wr.cell? ⟨gl, j * 2 + 1, none⟩ = some (.slice Ax ln cx) := (hkb.cell _).trans e1
      by_cases hlk : k < ln
      · have q3 : (k : Int) < (ln : Int) := by omega
        have q4 : (0 : Int) ≤ (k : Int) := by omega
        obtain ⟨gb, hgb, hg1, hg2, hcell, hfr, hset⟩ := own_open hown (by omega)
        have hkx : k < bs.length := by omega
        have x2 := hcell k (.int .u8 (bs[k] : Nat)) (by simp [byts, hkx])
        have xf := hfr k
        have hs90 := hset k (.int .u8 90) hlk
        rw [show (byts bs).set k (.int .u8 90) = byts (bs.set k 90) by simp [byts, List.map_set]] at hs90
        have HN := Lib.hid (HK.out.set_ (gb := gb) (k := k) hjx (by rw [HX.out.2.1]; exact hgb) HA.out.1 ⟨hg1, HA.out.2.1 _ (List.getElem_mem hjx) gb (by rw [HX.out.2.1, hgb]; rfl)⟩ 90 (by rw [HX.out.2.1, HX.out.2.2.1, HX.out.2.2.2.1]; exact hs90))
        rw [hgb] at x1
        clear hown hcell hfr hset hs90 hkb hcs HK hbl e1
        go_wp2
        go_roundw
        case rel => exact ⟨k + 1, bs.set k 90, by omega, by go_num, HN⟩
        case measure => simp [intOf]; omega
      · have q3 : ¬ (k : Int) < (ln : Int) := by omega
        have ho1 := hown.alloc (.cells #[.int .u8 1, .int .u8 2, .int .u8 3] 5)
        have hr1 : Reads (wr.alloc (.cells #[.int .u8 1, .int .u8 2, .int .u8 3] 5)) (wr.heap.size + 1) 1 (some ⟨wr.heap.size, 0, none⟩) 3 (byts [1, 2, 3]) := by
          have := reads_blk (Blk.new wr 5 (byts [1, 2, 3]).toArray) (show ([1, 2, 3] : List Nat).length = 3 from rfl)
          rw [World.size_alloc] at this
          exact this
        have hsz3 : w3.heap.size ≤ (wr.alloc (.cells #[.int .u8 1, .int .u8 2, .int .u8 3] 5)).heap.size := by
          have h1 := HW.out.2.2.1.size
          have h2 := HW.out.2.1.size
          have h3 := HK.out.fr.size
          simp
          omega
        have FN : ∀ (v9 : Value) (w9 : World), w9.ownsRow w3.heap.size 5 1 v9 (ln + 3) (byts bs ++ byts [1, 2, 3]) → (wr.alloc (.cells #[.int .u8 1, .int .u8 2, .int .u8 3] 5)).grownBy w9 (Value.slice Ax ln cx).ownBlock →
            ∃ A9 c9, v9 = .slice A9 (ln + 3) c9 ∧ (∃ u, w9.cell? ⟨gl, j * 2 + 1, none⟩ = some u) ∧ w9.frozen? ⟨gl, j * 2 + 1, none⟩ = false ∧ Hid (LaterF w3 w4 w6 gl xs (j + 1) ((xs[j + 1]?.map FrT.body).getD []) (w9.setCell ⟨gl, j * 2 + 1, none⟩ (.slice A9 (ln + 3) c9))) := by
          intro v9 w9 o9 g9
          obtain ⟨A9, c9, rfl⟩ := own_shape o9
          have hal : Below wr.heap.size wr (wr.alloc (.cells #[.int .u8 1, .int .u8 2, .int .u8 3] 5)) := (Below.refl _ wr).alloc (Nat.le_refl _) _
          have hk9 : Blk w9 gl 94 cs := (hkb.alloc _).grown g9 (fun e => own_blk_ne ho1 (hkb.alloc _) (by decide) e.symm)
          refine ⟨A9, c9, rfl, ⟨_, (hk9.cell _).trans e1⟩, hk9.frozen _, Lib.hid ?_⟩
          exact (HK.out.new hal).next hjx HA.out.1 HA.out.2.1 HX.out.2.2.2.2 (by rw [HX.out.2.1, HX.out.2.2.1, HX.out.2.2.2.1]; exact g9) rfl
        clear hown hkb hcs HK hbl e1
        go_wp2_with (at_builtin; refine wpList_append_any _ rfl _ _ 24 rfl w3.heap.size 5 i0 (.int .u8 0) 1 1 Try.underlying24 hi hz0 hz1 hz2 rfl (by decide) _ _ _ rfl ho1 _ _ 3 _ _ rfl hr1 (byts_one _) (by unfold maxLen; omega) (by omega) hsz3 ?_; intro v9 w9 o9 g9 _; obtain ⟨A9, c9, rfl, ⟨u9, y1⟩, yf, H9⟩ := FN v9 w9 o9 g9; clear o9 g9 FN)
        go_roundw
        case rel => exact ⟨j + 1, by omega, by go_num, H9⟩
        case measure => simp [intOf]; omega
  have q1 : ¬ (j : Int) < (m : Int) := by omega
  obtain rfl : j = m := by omega
  --PART2
  have hfr := HJ.out.fr
  obtain ⟨hw6, hb46, hb4, hb5, hb6⟩ := HW.out
  obtain ⟨hg6, hk6, ho6, _⟩ := H6.out
  have hwr : Below w.heap.size w wr := hw6.trans (hfr.below (B := w.heap.size) (fun k hk => Nat.le_trans HO.out.2.1.size hk.1) hw6.size)
  have hb36 : Below w3.heap.size w3 w6 := hb4.trans (hb46.mono hb4.size)
  have oR : wr.ownsRow w.heap.size 5 1 (.slice Ao (n + 1) co) (n + 1) (byts (b ++ [119])) := own_fr (own_fr HO.out.1 (Fr.of_new (S := noB) hb36) (fun _ _ e => e)) hfr (fun k hk e => by have := (HO.out.1.lt k hk).2; omega)
  have hs45 := hb5.size
  have hs34 := hb4.size
  have gR : GotS w4.heap.size (.slice Aw j cw) j ws wr := by
    have h56 := H5.out.2.1.new hb6
    exact ⟨h56.len, own_fr h56.row hfr (fun k hk e => by have := own_base h56.row k hk; omega), ⟨fun x hx => own_fr (h56.bods.own x hx) hfr (fun k hk e => by have := own_base (h56.bods.own x hx) k hk; omega), h56.bods.apart⟩⟩
  have kR : Blk wr g 24 #[.slice A6 n c6] := hk6.fr hfr (fun e => by omega)
  have cR : wr.ownsRow w5.heap.size 5 1 (.slice A6 n c6) n (byts b) := own_fr ho6 hfr (fun k hk e => by have := own_base ho6 k hk; omega)
  have hrd : Reads wr wr.heap.size 1 Ao n (byts b) := by
    have := (Reads.of_own oR).upto (k := n) (by omega)
    rw [Nat.mul_one, ← byts_take, List.take_append_of_le_length (by rw [H0.out.2.2]; exact Nat.le_refl _), ← H0.out.2.2, List.take_length] at this
    rw [← H0.out.2.2]
    exact this
  have hsb := H0.out.2.1
  have c58 := one_any wr wr.heap.size Ao n co b hrd hsb (Nat.le_refl _) (by omega) (by omega)
  have hc6 : n ≤ c6 := (own_cap ho6).1
  have keepT : ∀ V, Below wr.heap.size wr V → (V.ownsRow w.heap.size 5 1 (.slice Ao (n + 1) co) (n + 1) (byts (b ++ [119])) ∧ GotS w4.heap.size (.slice Aw j cw) j ws V ∧ Blk V g 24 #[.slice A6 n c6] ∧ V.ownsRow w5.heap.size 5 1 (.slice A6 n c6) n (byts b) ∧ Below w.heap.size w V) := fun V hV =>
    ⟨own_fr oR (Fr.of_new (S := noB) hV) (fun _ _ e => e), gR.new hV, kR.below hV kR.lt, own_fr cR (Fr.of_new (S := noB) hV) (fun _ _ e => e), hwr.trans (hV.mono hwr.size)⟩
  have rO := fun (V : World) (hV : Below wr.heap.size wr V) => run_str (P := Try.prog) (src := 24) (dst := 9) (c := co) rfl rfl rfl ((Reads.of_own oR).below hV) (small_append hsb (fun c hc => by simp at hc; omega))
  have rB := fun (V : World) (hV : Below wr.heap.size wr V) => run_str (P := Try.prog) (src := 24) (dst := 9) (c := c) rfl rfl rfl (H0.out.1.below (hwr.trans (hV.mono hwr.size))) hsb
  obtain ⟨X, hX⟩ : ∃ X, strN b ++ { data := #[119] } = X := ⟨_, rfl⟩
  have hw119 : strN (b ++ [119]) = strN b ++ { data := #[119] } := strN_addS b [119]
  rw [hX] at hw119
  simp only [hw119] at rO
  have hadd := fun W : World => run_string_add_sum (P := Try.prog) W (strN b) { data := #[119] } (by rw [strN_sizeS, show ({ data := #[119] } : ByteArray).size = 1 from rfl, H0.out.2.2]; omega)
  simp only [hX] at hadd
  obtain ⟨Y, hY⟩ : ∃ Y, strN b = Y := ⟨_, rfl⟩
  simp only [hY] at rB hadd
  have hone := one_iff b
  rw [HM.out.1, HM.out.2.2] at hone
  have OV : ∀ (W : World) (lv : Int), (GotS w4.heap.size (.slice Aw j cw) j ws W ∧ Blk W g 24 #[.slice A6 n c6] ∧ W.ownsRow w5.heap.size 5 1 (.slice A6 n c6) n (byts b)) → Calls Try.prog 59 #[.func (.func 81) #[] #[.pointer (some ⟨g, 0, none⟩)], .slice Aw j cw, .int .i64 lv] W fun e w' => e = .returned (.bool true) ∧ Below W.heap.size W w' := by
    intro W lv hT
    exact over_any W g A6 n c6 b Aw j cw w4.heap.size ws lv hT.2.1 (Reads.of_own hT.2.2) hsb (by omega) hc6 hT.1 H5.out.1
  have HOV := Lib.hid OV
  have HK := Lib.hid (And.intro keepT (And.intro rO (And.intro rB hsb)))
  have hs3w : w.heap.size ≤ w3.heap.size := HO.out.2.1.size
  have HSZ := Lib.hid (And.intro hs3w (And.intro hs34 (And.intro hs45 hg6)))
  have hobk : ∀ k, (Value.slice Ao (n + 1) co).ownBlock = some k → w.heap.size ≤ k ∧ k < w3.heap.size := fun k hk => HO.out.1.lt k hk
  have HOB := Lib.hid hobk
  clear OV keepT rO rB oR gR kR cR hfr hw6 hb46 hb4 hb5 hb6 hk6 ho6 hb36 hwr hrd hX hw119 hY hs45 hs34 hsb hc6 hg6 hs3w hobk HJ
  by_cases hsg : beginE b = 0 ∧ 9 + bgN b = b.length
  · obtain ⟨hm1, hE0⟩ := hone.1 hsg
    have hsc := one_scan b hsg.1 hsg.2
    obtain ⟨N, hN⟩ : ∃ N, bgN b = N := ⟨_, rfl⟩
    obtain ⟨b0, hb0⟩ : ∃ x, b.getD 0 0 = x := ⟨_, rfl⟩
    obtain ⟨BD, hBD⟩ : ∃ L, bodyN b = L := ⟨_, rfl⟩
    have hbdl := bodyN_len hsg.1
    rw [hb0, hBD] at hsc
    rw [hBD, hN] at hbdl
    have hsBD : Small BD := by rw [← hBD]; exact small_body HK.out.2.2.2
    have C58 : Calls Try.prog 58 #[.slice Ao n co] wr fun e w8 => ∃ A8 c8, e = .returned (.tuple #[.agg #[.int .i64 (b0 : Nat), .slice A8 N c8], .int .i64 0]) ∧ Hid (w8.ownsRow wr.heap.size 5 1 (.slice A8 N c8) N (byts BD) ∧ Below wr.heap.size wr w8) := by
      refine c58.mono ?_
      rintro e w8 ⟨hb, ⟨h1, _⟩ | ⟨_, A8, c8, rfl, ho⟩⟩
      · exact absurd hsg h1
      · rw [hN] at ho ⊢
        rw [hBD] at ho
        exact ⟨A8, c8, by rw [hb0], Lib.hid ⟨ho, hb⟩⟩
    subst hm1
    subst hE0
    clear c58 hsg hone hN hb0 hBD
    -- want[0]
    have hw1 : ∃ y, ws = [y] ∧ y.kind = b0 ∧ y.body = BD := abs_one (by rw [H5.out.1, hsc])
    obtain ⟨y, hwy, hyk, hyb⟩ := hw1
    obtain ⟨ly, hly⟩ : ∃ l, y.body.length = l := ⟨_, rfl⟩
    have hlN : ly = N := by rw [← hly, hyb, hbdl]
    subst hlN
    have HW1 := Lib.hid (And.intro hwy (And.intro hyk (And.intro hyb hly)))
    clear hwy hyk hyb hly hsc hbdl
    go_upto_region 25 with (first
      | (go_at_call 58; refine C58.mono ?_; clear C58; rintro e w8 ⟨A8, c8, rfl, H8⟩; have kf := Blk.new w8 94 #[.int .i64 (b0 : Nat), .slice A8 ly c8]; have z0 := (kf.cell 0).trans rfl; have z1 := (kf.cell 1).trans rfl; have hal8 : Below w8.heap.size w8 (w8.alloc (.cells #[.int .i64 (b0 : Nat), .slice A8 ly c8] 94)) := (Below.refl _ w8).alloc (Nat.le_refl _) _; have hb8 := H8.out.2.trans (hal8.mono H8.out.2.size); have t1 := HK.out.2.1 _ hb8; have t2 := HK.out.2.2.1 _ hb8)
      | (go_at_call 55; refine (numE_any _ _).mono ?_; rintro e wz ⟨rfl, rfl⟩))
    obtain ⟨V9, hV9⟩ : ∃ V, w8.alloc (.cells #[.int .i64 (b0 : Nat), .slice A8 ly c8] 94) = V := ⟨_, rfl⟩
    have o9 : V9.ownsRow wr.heap.size 5 1 (.slice A8 ly c8) ly (byts BD) := by rw [← hV9]; exact H8.out.1.alloc _
    rw [hV9] at z0 z1 hb8 t1 t2 ⊢
    obtain ⟨oT, gT, kT, cT, bT⟩ := HK.out.1 V9 hb8
    obtain ⟨gw, rfl, _, _, hcell⟩ := row2_open gT.row (by omega)
    have hwy := HW1.out.1
    have f0 : V9.cell? ⟨gw, 0, none⟩ = some (.int .i64 (b0 : Nat)) := by
      have := hcell 0 (.int .i64 (y.kind : Nat)) (by rw [hwy]; rfl)
      rw [HW1.out.2.1] at this
      exact this
    have f1 : V9.cell? ⟨gw, 1, none⟩ = some (.slice y.A ly y.c) := by
      have := hcell 1 (.slice y.A y.body.length y.c) (by rw [hwy]; rfl)
      rw [HW1.out.2.2.2] at this
      exact this
    have hyo := gT.bods.own y (by rw [hwy]; exact List.mem_singleton.2 rfl)
    rw [HW1.out.2.2.2, HW1.out.2.2.1] at hyo
    have c57 := same_any V9.drew (b0 : Nat) A8 y.A ly c8 y.c BD ((Reads.of_own o9).drew) ((Reads.of_own hyo).drew) hsBD
    have C57 : Calls Try.prog 57 #[.agg #[.int .i64 (b0 : Nat), .slice A8 ly c8], .agg #[.int .i64 (b0 : Nat), .slice y.A ly y.c]] V9.drew fun e w10 => e = .returned (.bool true) ∧ Hid (w10.ownsRow w.heap.size 5 1 (.slice Ao (n + 1) co) (n + 1) (byts (b ++ [119])) ∧ GotS w4.heap.size (.slice (some ⟨gw, 0, none⟩) 1 cw) 1 ws w10 ∧ Blk w10 g 24 #[.slice A6 n c6] ∧ w10.ownsRow w5.heap.size 5 1 (.slice A6 n c6) n (byts b) ∧ Below w.heap.size w w10) := by
      refine c57.mono ?_
      rintro e w10 ⟨rfl, hb⟩
      exact ⟨rfl, Lib.hid (HK.out.1 w10 (hb8.trans (((Below.refl _ V9).drew.trans hb).mono hb8.size)))⟩
    have z0' : V9.drew.cell? ⟨w8.heap.size, 0, none⟩ = some (.int .i64 (b0 : Nat)) := z0
    have z1' : V9.drew.cell? ⟨w8.heap.size, 1, none⟩ = some (.slice A8 ly c8) := z1
    have f0' : V9.drew.cell? ⟨gw, 0, none⟩ = some (.int .i64 (b0 : Nat)) := f0
    have f1' : V9.drew.cell? ⟨gw, 1, none⟩ = some (.slice y.A ly y.c) := f1
    clear hV9 o9 oT gT kT cT bT hcell hwy hyo c57 hb8 hal8 kf t1 t2 HW1 H8 hsBD
    go_region_law (first
      | (go_simp; go_at_call 57; refine C57.mono ?_; clear C57; rintro e w10 ⟨rfl, H10⟩)
      | (go_simp; go_at_call 55; refine (numE_any _ _).mono ?_; rintro e wz ⟨rfl, rfl⟩))
    all_goals
      clear z0 z1 z0' z1' f0 f1 f0' f1'
      obtain ⟨oT, gT, kT, cT, bT⟩ := H10.out
      obtain ⟨go, rfl, hgo1, hgo2, _⟩ := own_open oT (by omega)
      have hgo := HOB.out go rfl
      have HT0 := Lib.hid (show Fr (fun k => w.heap.size ≤ k ∧ k < w3.heap.size) w10 w10 ∧ w10.ownsRow w.heap.size 5 1 (.slice (some ⟨go, 0, none⟩) (n + 1) co) (n + 1) (byts (b ++ [119])) ∧ (b ++ [119]).length = n + 1 from ⟨Fr.refl _ _, oT, by have := oT.1; rw [byts_length] at this; omega⟩)
      have HT1 := Lib.hid (And.intro gT (And.intro kT (And.intro cT bT)))
      clear oT gT kT cT bT hgo1 hgo2
      go_wp2
      go_loopw [17] (fun iv wr2 => ∃ (k : Nat) (bs : List Nat), k ≤ n + 1 ∧ iv = .int .i64 k ∧ Hid (Fr (fun k => w.heap.size ≤ k ∧ k < w3.heap.size) w10 wr2 ∧ wr2.ownsRow w.heap.size 5 1 (.slice (some ⟨go, 0, none⟩) (n + 1) co) (n + 1) (byts bs) ∧ bs.length = n + 1)) (fun iv _ => n + 1 - (intOf iv).toNat)
      case atStart => exact ⟨0, _, by omega, rfl, HT0⟩
      case round =>
      clear HT0
      obtain ⟨k, bs, hk, rfl, HJ⟩ := hrel
      obtain ⟨hfr, ho, hbl⟩ := HJ.out
      by_cases hlk : k < n + 1
      · have q3 : (k : Int) < (n : Int) + 1 := by omega
        have q3' : (k : Int) < ((n + 1 : Nat) : Int) := by omega
        have q4 : (0 : Int) ≤ (k : Int) := by omega
        obtain ⟨go', e, _, _, hcell, hfrz, hset⟩ := own_open ho (by omega)
        injection e with e
        injection e with e
        subst e
        have hkx : k < bs.length := by omega
        have x2 := hcell k (.int .u8 (bs[k] : Nat)) (by simp [byts, hkx])
        have xf := hfrz k
        have hs66 := hset k (.int .u8 102) hlk
        rw [show (byts bs).set k (.int .u8 102) = byts (bs.set k 102) by simp [byts, List.map_set]] at hs66
        have HN := Lib.hid (show Fr (fun k => w.heap.size ≤ k ∧ k < w3.heap.size) w10 (wr.setCell ⟨go, k, none⟩ (.int .u8 102)) ∧ (wr.setCell ⟨go, k, none⟩ (.int .u8 102)).ownsRow w.heap.size 5 1 (.slice (some ⟨go, 0, none⟩) (n + 1) co) (n + 1) (byts (bs.set k 102)) ∧ (bs.set k 102).length = n + 1 from ⟨hfr.setCell (p := ⟨go, k, none⟩) (fun _ => hgo) _, hs66, by rw [List.length_set]; exact hbl⟩)
        clear hcell hfrz hset hs66 hfr ho hbl HJ
        go_wp2
        go_roundw
        case rel => exact ⟨k + 1, bs.set k 102, by omega, by go_num, HN⟩
        case measure => simp [intOf]; omega
      have q3 : ¬ (k : Int) < (n : Int) + 1 := by omega
      have q3' : ¬ (k : Int) < ((n + 1 : Nat) : Int) := by omega
      obtain ⟨hs3w, hs34, hs45, hg6⟩ := HSZ.out
      obtain ⟨gT, kT, cT, bT⟩ := HT1.out
      have gV : GotS w4.heap.size (.slice (some ⟨gw, 0, none⟩) 1 cw) 1 ws wr := ⟨gT.len, own_fr gT.row hfr (fun k hk e => by have := own_base gT.row k hk; omega), ⟨fun x hx => own_fr (gT.bods.own x hx) hfr (fun k hk e => by have := own_base (gT.bods.own x hx) k hk; omega), gT.bods.apart⟩⟩
      have kV : Blk wr g 24 #[.slice A6 n c6] := kT.fr hfr (fun e => by omega)
      have cV : wr.ownsRow w5.heap.size 5 1 (.slice A6 n c6) n (byts b) := own_fr cT hfr (fun k hk e => by have := own_base cT k hk; omega)
      have bV : Below w.heap.size w wr := bT.trans (hfr.below (B := w.heap.size) (fun k hk => hk.1) bT.size)
      have c59 := HOV.out wr leave ⟨gV, kV, cV⟩
      have c59b : ∀ V, Below wr.heap.size wr V → Calls Try.prog 59 #[.func (.func 81) #[] #[.pointer (some ⟨g, 0, none⟩)], .slice (some ⟨gw, 0, none⟩) 1 cw, .int .i64 0] V fun e w' => e = .returned (.bool true) ∧ Below V.heap.size V w' := fun V hV => HOV.out V 0 ⟨gV.new hV, kV.below hV kV.lt, own_fr cV (Fr.of_new (S := noB) hV) (fun _ _ e => e)⟩
      have HBV := Lib.hid bV
      clear gV kV cV bV gT kT cT bT hfr ho hbl HJ
      go_wp2_with (first
        | (go_at_call 59; refine c59.mono ?_; clear c59; rintro e w20 ⟨rfl, h20⟩; have c59c := c59b w20 h20)
        | (go_at_call 59; refine c59c.mono ?_; clear c59c; rintro e w21 ⟨rfl, h21⟩)
        | (go_at_call 52; refine (k52 _).mono ?_; clear k52; rintro e w22 ⟨rfl, h22⟩))
      go_ret
      have h1 := HBV.out.trans (h20.mono HBV.out.size)
      have h2 := h1.trans (h21.mono h1.size)
      exact ⟨rfl, h2.trans (h22.mono h2.size)⟩
  · have C58 : Calls Try.prog 58 #[.slice Ao n co] wr fun e w8 => e = .returned (.tuple #[.agg #[.int .i64 0, .slice none 0 0], .int .i64 4]) ∧ Below wr.heap.size wr w8 := by
      refine c58.mono ?_
      rintro e w8 ⟨hb, ⟨_, rfl⟩ | ⟨h1, _⟩⟩
      · exact ⟨rfl, hb⟩
      · exact absurd h1 hsg
    have hno : ¬ (j = 1 ∧ E = 0) := fun h => hsg (hone.2 h)
    clear c58 hsg hone
    by_cases hj1 : j = 1
    · have hE1 : ¬ E = 0 := fun e => hno ⟨hj1, e⟩
      have qe : ((E : Int) == 0) = false := by rw [beq_eq_false_iff_ne]; omega
      clear hno
      subst hj1
      go_upto_block 4 with (first
        | (go_at_call 58; refine C58.mono ?_; clear C58; rintro e w8 ⟨rfl, hb8⟩; have kf := Blk.new w8 94 #[.int .i64 0, .slice none 0 0]; have z0 := (kf.cell 0).trans rfl; have z1 := (kf.cell 1).trans rfl; have hal8 : Below w8.heap.size w8 (w8.alloc (.cells #[.int .i64 0, .slice none 0 0] 94)) := (Below.refl _ w8).alloc (Nat.le_refl _) _; have hb9 := hb8.trans (hal8.mono hb8.size); have t1 := HK.out.2.1 _ hb9; have t2 := HK.out.2.2.1 _ hb9)
        | (go_at_call 55; refine (numE_any _ _).mono ?_; rintro e wz ⟨rfl, rfl⟩))
      obtain ⟨V9, hV9⟩ : ∃ V, w8.alloc (.cells #[.int .i64 0, .slice none 0 0] 94) = V := ⟨_, rfl⟩
      rw [hV9] at hb9 ⊢
      clear z0 z1 t1 t2 kf hal8 hV9
      obtain ⟨oT, gT, kT, cT, bT⟩ := HK.out.1 V9 hb9
      obtain ⟨go, rfl, hgo1, hgo2, _⟩ := own_open oT (by omega)
      have hgo := HOB.out go rfl
      have HT0 := Lib.hid (show Fr (fun k => w.heap.size ≤ k ∧ k < w3.heap.size) V9 V9 ∧ V9.ownsRow w.heap.size 5 1 (.slice (some ⟨go, 0, none⟩) (n + 1) co) (n + 1) (byts (b ++ [119])) ∧ (b ++ [119]).length = n + 1 from ⟨Fr.refl _ _, oT, by have := oT.1; rw [byts_length] at this; omega⟩)
      have HT1 := Lib.hid (And.intro gT (And.intro kT (And.intro cT bT)))
      clear oT gT kT cT bT hgo1 hgo2
      go_wp2
      go_loopw [17] (fun iv wr2 => ∃ (k : Nat) (bs : List Nat), k ≤ n + 1 ∧ iv = .int .i64 k ∧ Hid (Fr (fun k => w.heap.size ≤ k ∧ k < w3.heap.size) V9 wr2 ∧ wr2.ownsRow w.heap.size 5 1 (.slice (some ⟨go, 0, none⟩) (n + 1) co) (n + 1) (byts bs) ∧ bs.length = n + 1)) (fun iv _ => n + 1 - (intOf iv).toNat)
      case atStart => exact ⟨0, _, by omega, rfl, HT0⟩
      case round =>
      clear HT0
      obtain ⟨k, bs, hk, rfl, HJ⟩ := hrel
      obtain ⟨hfr, ho, hbl⟩ := HJ.out
      by_cases hlk : k < n + 1
      · have q3 : (k : Int) < (n : Int) + 1 := by omega
        have q3' : (k : Int) < ((n + 1 : Nat) : Int) := by omega
        have q4 : (0 : Int) ≤ (k : Int) := by omega
        obtain ⟨go', e, _, _, hcell, hfrz, hset⟩ := own_open ho (by omega)
        injection e with e
        injection e with e
        subst e
        have hkx : k < bs.length := by omega
        have x2 := hcell k (.int .u8 (bs[k] : Nat)) (by simp [byts, hkx])
        have xf := hfrz k
        have hs66 := hset k (.int .u8 102) hlk
        rw [show (byts bs).set k (.int .u8 102) = byts (bs.set k 102) by simp [byts, List.map_set]] at hs66
        have HN := Lib.hid (show Fr (fun k => w.heap.size ≤ k ∧ k < w3.heap.size) V9 (wr.setCell ⟨go, k, none⟩ (.int .u8 102)) ∧ (wr.setCell ⟨go, k, none⟩ (.int .u8 102)).ownsRow w.heap.size 5 1 (.slice (some ⟨go, 0, none⟩) (n + 1) co) (n + 1) (byts (bs.set k 102)) ∧ (bs.set k 102).length = n + 1 from ⟨hfr.setCell (p := ⟨go, k, none⟩) (fun _ => hgo) _, hs66, by rw [List.length_set]; exact hbl⟩)
        clear hcell hfrz hset hs66 hfr ho hbl HJ
        go_wp2
        go_roundw
        case rel => exact ⟨k + 1, bs.set k 102, by omega, by go_num, HN⟩
        case measure => simp [intOf]; omega
      have q3 : ¬ (k : Int) < (n : Int) + 1 := by omega
      have q3' : ¬ (k : Int) < ((n + 1 : Nat) : Int) := by omega
      obtain ⟨hs3w, hs34, hs45, hg6⟩ := HSZ.out
      obtain ⟨gT, kT, cT, bT⟩ := HT1.out
      have gV : GotS w4.heap.size (.slice Aw 1 cw) 1 ws wr := ⟨gT.len, own_fr gT.row hfr (fun k hk e => by have := own_base gT.row k hk; omega), ⟨fun x hx => own_fr (gT.bods.own x hx) hfr (fun k hk e => by have := own_base (gT.bods.own x hx) k hk; omega), gT.bods.apart⟩⟩
      have kV : Blk wr g 24 #[.slice A6 n c6] := kT.fr hfr (fun e => by omega)
      have cV : wr.ownsRow w5.heap.size 5 1 (.slice A6 n c6) n (byts b) := own_fr cT hfr (fun k hk e => by have := own_base cT k hk; omega)
      have bV : Below w.heap.size w wr := bT.trans (hfr.below (B := w.heap.size) (fun k hk => hk.1) bT.size)
      have c59 := HOV.out wr leave ⟨gV, kV, cV⟩
      have c59b : ∀ V, Below wr.heap.size wr V → Calls Try.prog 59 #[.func (.func 81) #[] #[.pointer (some ⟨g, 0, none⟩)], .slice Aw 1 cw, .int .i64 0] V fun e w' => e = .returned (.bool true) ∧ Below V.heap.size V w' := fun V hV => HOV.out V 0 ⟨gV.new hV, kV.below hV kV.lt, own_fr cV (Fr.of_new (S := noB) hV) (fun _ _ e => e)⟩
      have HBV := Lib.hid bV
      clear gV kV cV bV gT kT cT bT hfr ho hbl HJ
      go_wp2_with (first
        | (go_at_call 59; refine c59.mono ?_; clear c59; rintro e w20 ⟨rfl, h20⟩; have c59c := c59b w20 h20)
        | (go_at_call 59; refine c59c.mono ?_; clear c59c; rintro e w21 ⟨rfl, h21⟩)
        | (go_at_call 52; refine (k52 _).mono ?_; clear k52; rintro e w22 ⟨rfl, h22⟩))
      go_ret
      have h1 := HBV.out.trans (h20.mono HBV.out.size)
      have h2 := h1.trans (h21.mono h1.size)
      exact ⟨rfl, h2.trans (h22.mono h2.size)⟩
    · have qe : ((j : Int) == 1) = false := by rw [beq_eq_false_iff_ne]; omega
      clear hno
      go_upto_block 4 with (first
        | (go_at_call 58; refine C58.mono ?_; clear C58; rintro e w8 ⟨rfl, hb8⟩; have kf := Blk.new w8 94 #[.int .i64 0, .slice none 0 0]; have z0 := (kf.cell 0).trans rfl; have z1 := (kf.cell 1).trans rfl; have hal8 : Below w8.heap.size w8 (w8.alloc (.cells #[.int .i64 0, .slice none 0 0] 94)) := (Below.refl _ w8).alloc (Nat.le_refl _) _; have hb9 := hb8.trans (hal8.mono hb8.size); have t1 := HK.out.2.1 _ hb9; have t2 := HK.out.2.2.1 _ hb9)
        | (go_at_call 55; refine (numE_any _ _).mono ?_; rintro e wz ⟨rfl, rfl⟩))
      obtain ⟨V9, hV9⟩ : ∃ V, w8.alloc (.cells #[.int .i64 0, .slice none 0 0] 94) = V := ⟨_, rfl⟩
      rw [hV9] at hb9 ⊢
      clear z0 z1 t1 t2 kf hal8 hV9
      obtain ⟨oT, gT, kT, cT, bT⟩ := HK.out.1 V9 hb9
      obtain ⟨go, rfl, hgo1, hgo2, _⟩ := own_open oT (by omega)
      have hgo := HOB.out go rfl
      have HT0 := Lib.hid (show Fr (fun k => w.heap.size ≤ k ∧ k < w3.heap.size) V9 V9 ∧ V9.ownsRow w.heap.size 5 1 (.slice (some ⟨go, 0, none⟩) (n + 1) co) (n + 1) (byts (b ++ [119])) ∧ (b ++ [119]).length = n + 1 from ⟨Fr.refl _ _, oT, by have := oT.1; rw [byts_length] at this; omega⟩)
      have HT1 := Lib.hid (And.intro gT (And.intro kT (And.intro cT bT)))
      clear oT gT kT cT bT hgo1 hgo2
      go_wp2
      go_loopw [17] (fun iv wr2 => ∃ (k : Nat) (bs : List Nat), k ≤ n + 1 ∧ iv = .int .i64 k ∧ Hid (Fr (fun k => w.heap.size ≤ k ∧ k < w3.heap.size) V9 wr2 ∧ wr2.ownsRow w.heap.size 5 1 (.slice (some ⟨go, 0, none⟩) (n + 1) co) (n + 1) (byts bs) ∧ bs.length = n + 1)) (fun iv _ => n + 1 - (intOf iv).toNat)
      case atStart => exact ⟨0, _, by omega, rfl, HT0⟩
      case round =>
      clear HT0
      obtain ⟨k, bs, hk, rfl, HJ⟩ := hrel
      obtain ⟨hfr, ho, hbl⟩ := HJ.out
      by_cases hlk : k < n + 1
      · have q3 : (k : Int) < (n : Int) + 1 := by omega
        have q3' : (k : Int) < ((n + 1 : Nat) : Int) := by omega
        have q4 : (0 : Int) ≤ (k : Int) := by omega
        obtain ⟨go', e, _, _, hcell, hfrz, hset⟩ := own_open ho (by omega)
        injection e with e
        injection e with e
        subst e
        have hkx : k < bs.length := by omega
        have x2 := hcell k (.int .u8 (bs[k] : Nat)) (by simp [byts, hkx])
        have xf := hfrz k
        have hs66 := hset k (.int .u8 102) hlk
        rw [show (byts bs).set k (.int .u8 102) = byts (bs.set k 102) by simp [byts, List.map_set]] at hs66
        have HN := Lib.hid (show Fr (fun k => w.heap.size ≤ k ∧ k < w3.heap.size) V9 (wr.setCell ⟨go, k, none⟩ (.int .u8 102)) ∧ (wr.setCell ⟨go, k, none⟩ (.int .u8 102)).ownsRow w.heap.size 5 1 (.slice (some ⟨go, 0, none⟩) (n + 1) co) (n + 1) (byts (bs.set k 102)) ∧ (bs.set k 102).length = n + 1 from ⟨hfr.setCell (p := ⟨go, k, none⟩) (fun _ => hgo) _, hs66, by rw [List.length_set]; exact hbl⟩)
        clear hcell hfrz hset hs66 hfr ho hbl HJ
        go_wp2
        go_roundw
        case rel => exact ⟨k + 1, bs.set k 102, by omega, by go_num, HN⟩
        case measure => simp [intOf]; omega
      have q3 : ¬ (k : Int) < (n : Int) + 1 := by omega
      have q3' : ¬ (k : Int) < ((n + 1 : Nat) : Int) := by omega
      obtain ⟨hs3w, hs34, hs45, hg6⟩ := HSZ.out
      obtain ⟨gT, kT, cT, bT⟩ := HT1.out
      have gV : GotS w4.heap.size (.slice Aw j cw) j ws wr := ⟨gT.len, own_fr gT.row hfr (fun k hk e => by have := own_base gT.row k hk; omega), ⟨fun x hx => own_fr (gT.bods.own x hx) hfr (fun k hk e => by have := own_base (gT.bods.own x hx) k hk; omega), gT.bods.apart⟩⟩
      have kV : Blk wr g 24 #[.slice A6 n c6] := kT.fr hfr (fun e => by omega)
      have cV : wr.ownsRow w5.heap.size 5 1 (.slice A6 n c6) n (byts b) := own_fr cT hfr (fun k hk e => by have := own_base cT k hk; omega)
      have bV : Below w.heap.size w wr := bT.trans (hfr.below (B := w.heap.size) (fun k hk => hk.1) bT.size)
      have c59 := HOV.out wr leave ⟨gV, kV, cV⟩
      have c59b : ∀ V, Below wr.heap.size wr V → Calls Try.prog 59 #[.func (.func 81) #[] #[.pointer (some ⟨g, 0, none⟩)], .slice Aw j cw, .int .i64 0] V fun e w' => e = .returned (.bool true) ∧ Below V.heap.size V w' := fun V hV => HOV.out V 0 ⟨gV.new hV, kV.below hV kV.lt, own_fr cV (Fr.of_new (S := noB) hV) (fun _ _ e => e)⟩
      have HBV := Lib.hid bV
      clear gV kV cV bV gT kT cT bT hfr ho hbl HJ
      go_wp2_with (first
        | (go_at_call 59; refine c59.mono ?_; clear c59; rintro e w20 ⟨rfl, h20⟩; have c59c := c59b w20 h20)
        | (go_at_call 59; refine c59c.mono ?_; clear c59c; rintro e w21 ⟨rfl, h21⟩)
        | (go_at_call 52; refine (k52 _).mono ?_; clear k52; rintro e w22 ⟨rfl, h22⟩))
      go_ret
      have h1 := HBV.out.trans (h20.mono HBV.out.size)
      have h2 := h1.trans (h21.mono h1.size)
      exact ⟨rfl, h2.trans (h22.mono h2.size)⟩
end Go.Proofs.Ytpnagblbhlglhaa
