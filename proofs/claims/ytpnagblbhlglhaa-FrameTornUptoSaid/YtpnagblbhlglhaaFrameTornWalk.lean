/- The walk of wicketlaw04.FrameTorn: it answers true. Conditions: those that it states. -/
import Derived.Test.YtpnagblbhlglhaaFrameOther
import Derived.Test.YtpnagblbhlglhaaFrameIn
import Derived.Test.YtpnagblbhlglhaaFrameKnown
namespace Go.Proofs.Ytpnagblbhlglhaa
open Go.RowKit

theorem flatF_at (xs : List FrT) (i : Nat) (h : i < xs.length) : (flatF xs)[i * 2]? = some (.int .i64 (xs[i].kind : Nat)) ∧ (flatF xs)[i * 2 + 1]? = some (.slice xs[i].A xs[i].body.length xs[i].c) := by
  induction xs generalizing i with
  | nil => cases h
  | cons x xs ih =>
    have hc : flatF (x :: xs) = .int .i64 (x.kind : Nat) :: .slice x.A x.body.length x.c :: flatF xs := rfl
    cases i with
    | zero => rw [hc]; exact ⟨rfl, rfl⟩
    | succ i =>
      have := ih i (by simpa using h)
      rw [hc, Nat.succ_mul]
      exact this
/-- Frames that Scan told. -/
structure GotF (s : Nat) (v : Value) (n : Nat) (xs : List FrT) (W : World) : Prop where
  len : xs.length = n
  row : W.ownsRow s 94 2 v n (flatF xs)
  bods : BodsF s xs W
theorem GotF.new {s n : Nat} {v : Value} {xs : List FrT} {W W' : World} (h : GotF s v n xs W) (hb : Below W.heap.size W W') : GotF s v n xs W' :=
  ⟨h.len, own_fr h.row (Fr.of_new (S := noB) hb) (fun _ _ e => e), h.bods.turn (grown_below hb) (fun r e => by cases e)⟩
/-- A round of the going over what Scan told: its frame is that which came in. -/
theorem torn_round (w w3 W : World) (A A3 : Option Addr) (n s m c3 : Nat) (fs : List FrS) (xs : List FrT) (h : InF w w.heap.size A n fs) (hb03 : Below w.heap.size w w3) (hall : ∀ x ∈ fs, x.ok) (hg : GotF s (.slice A3 m c3) m xs w3) (hW : Below w3.heap.size w3 W)
    (j : Nat) (hj : j < m) (hjn : j < fs.length) (hx : (xs.map FrT.abs)[j]? = (fs.map FrS.abs)[j]?) :
    ∃ (g : Nat) (ad : Addr) (K nb : Nat) (Ab Ax : Option Addr) (cb cx : Nat), A = some ad ∧ A3 = some ⟨g, 0, none⟩ ∧ fs[j].body.length = nb ∧ nb ≤ 1048576 ∧ W.drew.cell? ⟨g, j * 2, none⟩ = some (.int .i64 (K : Nat)) ∧ W.drew.cell? ⟨g, j * 2 + 1, none⟩ = some (.slice Ax nb cx) ∧
      W.drew.cell? (ad.add (j * 2)) = some (.int .i64 (K : Nat)) ∧ W.cell? ⟨(ad.add (j * 2)).block, (ad.add (j * 2)).off + 1, none⟩ = some (.slice Ab nb cb) ∧
      Calls Try.prog 57 #[.agg #[.int .i64 (K : Nat), .slice Ax nb cx], .agg #[.int .i64 (K : Nat), .slice Ab nb cb]] W.drew fun e w4 => e = .returned (.bool true) ∧ w4.cell? ⟨(ad.add (j * 2)).block, (ad.add (j * 2)).off + 1, none⟩ = some (.slice Ab nb cb) ∧ Hid (Below w3.heap.size w3 w4) := by
  have hgW := hg.new hW
  have hjx : j < xs.length := by rw [hg.len]; exact hj
  have hwW : Below w.heap.size w W := hb03.trans (hW.mono hb03.size)
  obtain ⟨ad, rfl, hab, d0, d1, hr, hs, hb⟩ := (h.below hwW).at_ j hjn
  obtain ⟨g, rfl, _, _, hcell⟩ := row2_open hgW.row (by omega)
  have hf := flatF_at xs j hjx
  have hx' : xs[j].abs = fs[j].abs := by
    rw [List.getElem?_map, List.getElem?_map, List.getElem?_eq_getElem hjx, List.getElem?_eq_getElem hjn] at hx
    simpa using hx
  have hk : xs[j].kind = fs[j].kind.toNat := congrArg Prod.fst hx'
  have hbd : xs[j].body = fs[j].body := congrArg Prod.snd hx'
  have hok := hall _ (List.getElem_mem hjn)
  have hkk : fs[j].kind = ((xs[j].kind : Nat) : Int) := by unfold FrS.ok at hok; omega
  rw [hkk] at d0
  have e0 := hcell _ _ hf.1
  have e1 := hcell _ _ hf.2
  rw [hbd] at e1
  have hob := hgW.bods.own _ (List.getElem_mem hjx)
  rw [hbd] at hob
  refine ⟨g, ad, xs[j].kind, fs[j].body.length, fs[j].A, xs[j].A, fs[j].c, xs[j].c, rfl, rfl, rfl, hb, e0, e1, d0, d1, ?_⟩
  have hbw : Below W.heap.size W W.drew := (Below.refl _ W).drew
  refine (same_any W.drew (xs[j].kind : Nat) xs[j].A fs[j].A fs[j].body.length xs[j].c fs[j].c fs[j].body (Reads.of_own hob).drew (hr.more hwW.size).drew hs).mono ?_
  rintro e w4 ⟨rfl, hb4⟩
  have hb5 : Below W.heap.size W w4 := hbw.trans hb4
  refine ⟨rfl, ?_, Lib.hid (hW.trans (hb5.mono hW.size))⟩
  have := (hb5.cell (p := (ad.add (j * 2)).add 1) (by rw [block_of_add, block_of_add]; have := hwW.size; omega)).trans d1
  exact this
/-- The first frame. -/
theorem torn_first (w : World) (A : Option Addr) (n : Nat) (fs : List FrS) (bit : Int) (h : InF w w.heap.size A n fs) (hall : ∀ x ∈ fs, x.ok) (hb0 : -9223372036854775808 ≤ bit) (hb1 : bit ≤ 9223372036854775807) (i : Nat) (hi : i < fs.length) :
    ∃ (ad : Addr) (K nb : Nat) (Ab : Option Addr) (cb : Nat), A = some ad ∧ fs[i].body.length = nb ∧ nb ≤ 1048576 ∧ ∀ W, Below w.heap.size w W → W.cell? (ad.add (i * 2)) = some (.int .i64 (K : Nat)) ∧ W.cell? ⟨(ad.add (i * 2)).block, (ad.add (i * 2)).off + 1, none⟩ = some (.slice Ab nb cb) ∧
      Calls Try.prog 64 #[.agg #[.int .i64 (K : Nat), .slice Ab nb cb], .int .i64 bit] W fun e w' => e = .returned (.bool true) ∧ Below w.heap.size w w' := by
  obtain ⟨ad, rfl, _⟩ := h.at_ i hi
  have hok := hall _ (List.getElem_mem hi)
  have hkk : fs[i].kind = ((fs[i].kind.toNat : Nat) : Int) := by unfold FrS.ok at hok; omega
  have hb : fs[i].body.length ≤ 1048576 := (h.at_ i hi).choose_spec.2.2.2.2.2.2
  refine ⟨ad, fs[i].kind.toNat, fs[i].body.length, fs[i].A, fs[i].c, rfl, rfl, hb, fun W hW => ?_⟩
  obtain ⟨ad', e, hab, d0, d1, hr, hs, _⟩ := (h.below hW).at_ i hi
  injection e with e
  subst e
  rw [hkk] at d0
  refine ⟨d0, d1, (other_any W w.heap.size _ _ _ _ _ bit (by unfold FrS.ok at hok; omega) hr hs hW.size hb hb0 hb1).mono ?_⟩
  rintro e w' ⟨rfl, hb'⟩
  exact ⟨rfl, hW.trans (hb'.mono hW.size)⟩
set_option maxHeartbeats 8000000 in
set_option maxRecDepth 100000 in
theorem frameTorn_walk (w : World) (A : Option Addr) (n c : Nat) (fs : List FrS) (cut bit : Int) (h : InF w w.heap.size A n fs) (hn : n ≤ 1048576) (hT : sizeL (fs.map FrS.abs) ≤ 1000000000) (hc0 : -9223372036854775808 ≤ cut) (hc1 : cut ≤ 9223372036854775807) (hb0 : -9223372036854775808 ≤ bit) (hb1 : bit ≤ 9223372036854775807) :
    Calls Try.prog 12 #[.slice A n c, .int .i64 cut, .int .i64 bit] w fun e w' => e = .returned (.bool true) ∧ Below w.heap.size w w' := by
  have hlen := h.len
  have H0 := Lib.hid (And.intro h hT)
  have k52 := knownF w
  clear h hT
  go_enter Try.func12, Try.ntmps12
  go_wp2_with (go_at_call 52; refine k52.mono ?_; clear k52; rintro e wk ⟨rfl, bk⟩)
  have HK := Lib.hid bk
  clear bk
  go_loopw [7, 8] (fun mv iv wr => ∃ i m : Nat, i ≤ n ∧ m ≤ 60000 * i ∧ mv = .int .i64 m ∧ iv = .int .i64 i ∧ Hid (wr = wk ∧ ∀ j (hj : j < fs.length), j < i → fs[j].ok)) (fun _ iv _ => n - (intOf iv).toNat)
  case atStart => exact ⟨0, 0, by omega, by omega, rfl, rfl, Lib.hid ⟨rfl, fun j _ hj => absurd hj (by omega)⟩⟩
  case round =>
  obtain ⟨i, m, hi1, hm, rfl, rfl, HI⟩ := hrel
  obtain rfl := HI.out.1
  by_cases hlt : i < n
  · have q1 : (i : Int) < (n : Int) := by omega
    have q3 : (0 : Int) ≤ (i : Int) := by omega
    have hil : i < fs.length := by omega
    obtain ⟨ad, rfl, hab, d0, d1, _, _, hb1'⟩ := (H0.out.1.below HK.out).at_ i hil
    obtain ⟨K, hK⟩ : ∃ K, fs[i].kind = K := ⟨_, rfl⟩
    obtain ⟨nb, hnb⟩ : ∃ nb, fs[i].body.length = nb := ⟨_, rfl⟩
    obtain ⟨Ab, hAb⟩ : ∃ a, fs[i].A = a := ⟨_, rfl⟩
    obtain ⟨cb, hcb⟩ : ∃ a, fs[i].c = a := ⟨_, rfl⟩
    rw [hK] at d0
    rw [hAb, hnb, hcb] at d1
    rw [hnb] at hb1'
    have d5 : wr.cell? ⟨(ad.add (i * 2)).block, (ad.add (i * 2)).off + 1, none⟩ = some (.slice Ab nb cb) := d1
    clear d1
    by_cases hok : 0 ≤ K ∧ K ≤ 255
    · have a1 : ¬ K < 0 := by omega
      have a2 : ¬ 255 < K := by omega
      have HB := Lib.hid (show ∀ j (hj : j < fs.length), j < i + 1 → fs[j].ok from fun j hj hji => by
        by_cases e : j = i
        · subst e; unfold FrS.ok; rw [hK]; exact hok
        · exact HI.out.2 j hj (by omega))
      clear hK hok HI hnb hAb hcb
      by_cases h60 : nb ≤ 60000
      · obtain ⟨m2, hm2⟩ : ∃ m2, m + nb = m2 := ⟨_, rfl⟩
        have hm3 : m2 ≤ 60000 * (i + 1) := by omega
        have u0 : IntKind.i64.wrap ((m : Int) + (nb : Int)) = (m2 : Int) := by rw [IntWalk.i64_in _ (by omega)]; omega
        go_wp2
        go_roundw
        case rel => exact ⟨i + 1, m2, by omega, hm3, rfl, by go_num, Lib.hid ⟨trivial, HB.out⟩⟩
        case measure => simp [intOf]; omega
      · obtain ⟨m2, hm2⟩ : ∃ m2, m + 60000 = m2 := ⟨_, rfl⟩
        have hm3 : m2 ≤ 60000 * (i + 1) := by omega
        have u0 : IntKind.i64.wrap ((m : Int) + 60000) = (m2 : Int) := by rw [IntWalk.i64_in _ (by omega)]; omega
        have x60 : ¬ (nb : Int) ≤ 60000 := by omega
        go_wp2
        go_roundw
        case rel => exact ⟨i + 1, m2, by omega, hm3, rfl, by go_num, Lib.hid ⟨trivial, HB.out⟩⟩
        case measure => simp [intOf]; omega
    · clear hK HI hnb hAb hcb
      by_cases a1 : K < 0
      · go_wp2
        all_goals (go_ret; exact ⟨rfl, HK.out⟩)
      · have a2 : 255 < K := by omega
        go_wp2
        all_goals (go_ret; exact ⟨rfl, HK.out⟩)
  have q1 : ¬ (i : Int) < (n : Int) := by omega
  obtain rfl : i = n := by omega
  have hall : ∀ x ∈ fs, x.ok := fun x hx => by
    obtain ⟨j, hj, rfl⟩ := List.getElem_of_mem hx
    exact HI.out.2 j hj (by omega)
  have HA := Lib.hid hall
  clear hall HI
  by_cases hbig : 60000 < m
  · have q2 : (60000 : Int) < (m : Int) := by omega
    go_wp2
    go_ret
    exact ⟨rfl, HK.out⟩
  have q2 : ¬ (60000 : Int) < (m : Int) := by omega
  have hK1 := HK.out.size
  have c63 := putAll_any wr w.heap.size A i c fs (H0.out.1.below HK.out) hK1 hn H0.out.2
  have hfl := framesN_len (fs.map FrS.abs)
  have hTT := H0.out.2
  have hbo : ∀ x ∈ fs.map FrS.abs, x.2.length ≤ 2147483647 := fun x hx => by
    obtain ⟨y, hy, rfl⟩ := List.mem_map.1 hx
    obtain ⟨j, hj, rfl⟩ := List.getElem_of_mem hy
    obtain ⟨_, _, _, _, _, _, _, hb⟩ := H0.out.1.at_ j hj
    show fs[j].body.length ≤ _
    omega
  have hsm : Small (framesN (fs.map FrS.abs)) := fun x hx => by
    obtain ⟨y, hy, hx⟩ := List.mem_flatMap.1 hx
    obtain ⟨z, hz, rfl⟩ := List.mem_map.1 hy
    obtain ⟨j, hj, rfl⟩ := List.getElem_of_mem hz
    obtain ⟨_, _, _, _, _, _, hs, _⟩ := H0.out.1.at_ j hj
    have hk : fs[j].kind.toNat < 256 := by have := HA.out _ hz; unfold FrS.ok at this; omega
    exact (small_append (small_append (headN_small hk) (word4_small _)) hs) x hx
  have hscan := scan_all _ hbo
  have hcutA := scan_cut _ hbo
  obtain ⟨L, hL⟩ : ∃ L, fs.map FrS.abs = L := ⟨_, rfl⟩
  rw [hL] at hfl hTT hbo hsm hscan hcutA
  obtain ⟨F, hF⟩ : ∃ F, framesN L = F := ⟨_, rfl⟩
  rw [hF] at hfl hsm hscan hcutA
  obtain ⟨N, hN⟩ : ∃ N, F.length = N := ⟨_, rfl⟩
  rw [hN] at hfl
  have hLl : L.length = i := by rw [← hL, List.length_map]; exact hlen
  have C63 : Calls Try.prog 63 #[.slice A i c] wr fun e w2 => ∃ A2 c2, e = .returned (.tuple #[.slice A2 N c2, .int .i64 0]) ∧ w2.ownsRow wr.heap.size 5 1 (.slice A2 N c2) N (byts F) ∧ N ≤ c2 ∧ Below wr.heap.size wr w2 ∧
      Calls Try.prog 53 #[.slice A2 N c2] w2 fun e w3 => ∃ (xs : List FrT) (A3 : Option Addr) (c3 : Nat), e = .returned (.tuple #[.slice A3 i c3, .int .i64 (N : Nat), .int .i64 0]) ∧ Hid (xs.map FrT.abs = L ∧ GotF w2.heap.size (.slice A3 i c3) i xs w3 ∧ Below w2.heap.size w2 w3 ∧ Below wr.heap.size wr w2 ∧ w2.ownsRow wr.heap.size 5 1 (.slice A2 N c2) N (byts F)) := by
    refine c63.mono ?_
    rintro e w2 ⟨hb, ⟨_, A2, c2, rfl, ho⟩ | ⟨⟨x, hx, hno⟩, _⟩⟩
    · rw [hL, hF, hN] at ho ⊢
      refine ⟨A2, c2, rfl, ho, (own_cap ho).1, hb, ?_⟩
      refine (scan_any w2 w2.heap.size A2 N c2 F (Reads.of_own ho) hsm (Nat.le_refl _) (by omega) (own_cap ho).1).mono ?_
      rintro e w3 ⟨xs, v, hxs, rfl, hr, hbd, hb3⟩
      rw [hscan.1] at hxs ⊢
      rw [hscan.2, ← hfl]
      have hxl : xs.length = i := by rw [← hLl, ← hxs, List.length_map]
      rw [hxl] at hr
      obtain ⟨A3, c3, rfl⟩ := own_shape hr
      exact ⟨xs, A3, c3, rfl, Lib.hid ⟨hxs, ⟨hxl, hr, hbd⟩, hb3, hb, ho⟩⟩
    · exact absurd (HA.out x hx) hno
  have HC := Lib.hid (And.intro hcutA (And.intro hsm (And.intro hL (And.intro hF (And.intro hN (And.intro hLl (And.intro hbo hfl)))))))
  clear c63 hcutA hsm hL hF hLl hbo hscan hfl
  go_wp2_with (first
    | (go_at_call 63; refine C63.mono ?_; clear C63; rintro e w2 ⟨A2, c2, rfl, o2, hc2, b2, C53⟩)
    | (go_at_call 53; refine C53.mono ?_; clear C53; rintro e w3 ⟨xs, A3, c3, rfl, HG⟩)
    | (go_at_call 55; refine (numE_any _ _).mono ?_; rintro e w4 ⟨rfl, rfl⟩))
  obtain ⟨hxs, hgot, hb23, hb12, hoF⟩ := HG.out
  have hB3 : Below w.heap.size w w3 := HK.out.trans ((hb12.trans (hb23.mono hb12.size)).mono hK1)
  have H3 := Lib.hid hB3
  clear hB3 hxs hgot hb23 hb12 hoF o2 b2
  go_loopw [14, 15] (fun av iv wr2 => ∃ j a : Nat, j ≤ i ∧ av = .int .i64 a ∧ iv = .int .i64 j ∧ Hid (a = sizeL (L.take j) ∧ Below w3.heap.size w3 wr2)) (fun _ iv _ => i - (intOf iv).toNat)
  case atStart => exact ⟨0, 0, by omega, rfl, rfl, Lib.hid ⟨rfl, Below.refl _ w3⟩⟩
  case round =>
  obtain ⟨j, a, hj1, rfl, rfl, HJ⟩ := hrel
  by_cases hlt2 : j < i
  · have q4 : (j : Int) < (i : Int) := by omega
    have q5 : (0 : Int) ≤ (j : Int) := by omega
    have hjl : j < fs.length := by omega
    obtain ⟨g, ad, K, nb, Ab, Ax, cb, cx, rfl, rfl, hnb, hnb1, x0, x1, y0, y1, c57⟩ := torn_round w w3 wr A A3 i w2.heap.size i c3 fs xs H0.out.1 H3.out HA.out HG.out.2.1 HJ.out.2 j hlt2 hjl (by rw [HG.out.1, HC.out.2.2.1])
    obtain ⟨a2, ha2⟩ : ∃ a2, a + (9 + nb) = a2 := ⟨_, rfl⟩
    have hsz : a2 = sizeL (L.take (j + 1)) := by
      have hjL : j < L.length := by rw [HC.out.2.2.2.2.2.1]; exact hlt2
      rw [List.take_succ_eq_append_getElem hjL, sizeL_append, ← HJ.out.1, ← ha2]
      have : L[j] = fs[j].abs := by simp [← HC.out.2.2.1]
      rw [this]
      show _ = a + sizeL [(fs[j].kind.toNat, fs[j].body)]
      rw [sizeL_one, hnb]
    have hal : a2 ≤ 1000000000 := by
      rw [hsz]
      exact Nat.le_trans (prefix_size (List.take_prefix _ _)) hTT
    have u0 : IntKind.i64.wrap ((a : Int) + (9 + (nb : Int))) = (a2 : Int) := by rw [IntWalk.i64_in _ (by omega)]; omega
    have c61 := fun W : World => size_any W Ab nb cb (by omega)
    have HS := Lib.hid hsz
    clear hsz ha2 hal hnb hnb1
    go_wp2
    go_region_law (first | (go_simp; go_at_call 57; refine c57.mono ?_; clear c57; rintro e w4 ⟨rfl, z5, H4⟩))
    all_goals
      clear x0 x1 y0 y1
      go_wp2_with (go_at_call 61; refine (c61 _).mono ?_; rintro e w5 ⟨rfl, rfl⟩)
      go_roundw
      case rel => exact ⟨j + 1, a2, by omega, rfl, by go_num, Lib.hid ⟨HS.out, H4.out⟩⟩
      case measure => simp [intOf]; omega
  have q4 : ¬ (j : Int) < (i : Int) := by omega
  obtain rfl : j = i := by omega
  have haN : a = N := by rw [HJ.out.1, List.take_of_length_le (by rw [HC.out.2.2.2.2.2.1]; exact Nat.le_refl _), HC.out.2.2.2.2.2.2.2]
  subst haN
  by_cases hcin : 0 ≤ cut ∧ cut < (a : Int)
  · obtain ⟨k, rfl⟩ : ∃ k : Nat, cut = (k : Int) := ⟨cut.toNat, by omega⟩
    have hka : k < a := by omega
    have haT : a ≤ 1000000000 := by rw [HC.out.2.2.2.2.2.2.2]; exact hTT
    have r1 : (k : Int) < (a : Int) := by omega
    have r2 : (0 : Int) ≤ (k : Int) := by omega
    obtain ⟨m2, hm1, hm2, hm3, hm4, hm5⟩ := HC.out.1 k (by have := HC.out.2.2.2.2.2.2.2; omega)
    rw [HC.out.2.2.2.2.2.1] at hm1 hm5
    obtain ⟨g2, hg2⟩ : ∃ g2, sizeL (L.take m2) = g2 := ⟨_, rfl⟩
    rw [hg2] at hm3 hm4
    obtain ⟨wq, hwq⟩ : ∃ W : World, W = wr := ⟨_, rfl⟩
    have hoF := own_fr HG.out.2.2.2.2 (Fr.of_new (S := noB) (HG.out.2.2.1.trans (HJ.out.2.mono HG.out.2.2.1.size))) (fun _ _ e => e)
    have C53b : Calls Try.prog 53 #[.slice A2 k c2] wr fun e w5 => ∃ (xs2 : List FrT) (A4 : Option Addr) (c4 : Nat), e = .returned (.tuple #[.slice A4 m2 c4, .int .i64 (g2 : Nat), .int .i64 ((if g2 = k then 0 else 140 : Nat) : Nat)]) ∧ Hid (xs2.map FrT.abs = L.take m2 ∧ GotF wq.heap.size (.slice A4 m2 c4) m2 xs2 w5 ∧ Below wr.heap.size wr w5) := by
      refine (scan_any wr wr.heap.size A2 k c2 (F.take k) ?_ (small_take HC.out.2.1 k) (Nat.le_refl _) (by omega) (by omega)).mono ?_
      · have := (Reads.of_own hoF).upto (k := k) (by omega)
        rw [Nat.mul_one, ← byts_take] at this
        exact this
      · rintro e w5 ⟨xs2, v, hxs, rfl, hr, hbd, hb5⟩
        rw [hm2] at hxs ⊢
        rw [hg2, hm4]
        have hxl : xs2.length = m2 := by
          have := congrArg List.length hxs
          rw [List.length_map, List.length_take, HC.out.2.2.2.2.2.1] at this
          omega
        rw [hxl] at hr
        obtain ⟨A4, c4, rfl⟩ := own_shape hr
        rw [hwq]
        exact ⟨xs2, A4, c4, rfl, Lib.hid ⟨hxs, ⟨hxl, hr, hbd⟩, hb5⟩⟩
    have HM := Lib.hid (And.intro hg2 hm5)
    have r3 : ¬ (j : Int) < (m2 : Int) := by omega
    have r4 : ¬ (k : Int) < (g2 : Int) := by omega
    have r3d : decide (j < m2) = false := by simp; omega
    have r4d : decide (k < g2) = false := by simp; omega
    have r3e : (decide ((j : Int) < (m2 : Int))) = false := by simp; omega
    have r4e : (decide ((k : Int) < (g2 : Int))) = false := by simp; omega
    clear hg2 hm5 hm4 hm2 hoF hwq
    by_cases hgk : g2 = k
    · rw [if_pos hgk] at C53b
      subst hgk
      go_wp2_with (first
        | (go_at_call 53; refine C53b.mono ?_; clear C53b; rintro e w5 ⟨xs2, A4, c4, rfl, HG2⟩)
        | (go_at_call 55; refine (numE_any _ _).mono ?_; rintro e w4 ⟨rfl, rfl⟩))
      have HB5 := Lib.hid (H3.out.trans ((HJ.out.2.trans (HG2.out.2.2.mono HJ.out.2.size)).mono H3.out.size))
      go_loopw [19, 20] (fun av iv wr2 => ∃ j2 a2 : Nat, j2 ≤ m2 ∧ av = .int .i64 a2 ∧ iv = .int .i64 j2 ∧ Hid (a2 = sizeL (L.take j2) ∧ Below w5.heap.size w5 wr2)) (fun _ iv _ => m2 - (intOf iv).toNat)
      case atStart => exact ⟨0, 0, by omega, rfl, rfl, Lib.hid ⟨rfl, Below.refl _ w5⟩⟩
      case round =>
      obtain ⟨j2, a2, hj2, rfl, rfl, HJ2⟩ := hrel
      by_cases hlt3 : j2 < m2
      · have q4 : (j2 : Int) < (m2 : Int) := by omega
        have q5 : (0 : Int) ≤ (j2 : Int) := by omega
        have q6 : (j2 : Int) < (j : Int) := by omega
        have hjl : j2 < fs.length := by omega
        obtain ⟨g, ad, K, nb, Ab, Ax, cb, cx, rfl, rfl, hnb, hnb1, x0, x1, y0, y1, c57⟩ := torn_round w w5 wr A A4 j wq.heap.size m2 c4 fs xs2 H0.out.1 HB5.out HA.out HG2.out.2.1 HJ2.out.2 j2 hlt3 hjl (by rw [HG2.out.1, HC.out.2.2.1, List.getElem?_take_of_lt hlt3])
        obtain ⟨a3, ha3⟩ : ∃ a3, a2 + (9 + nb) = a3 := ⟨_, rfl⟩
        have hsz : a3 = sizeL (L.take (j2 + 1)) := by
          have hjL : j2 < L.length := by rw [HC.out.2.2.2.2.2.1]; omega
          rw [List.take_succ_eq_append_getElem hjL, sizeL_append, ← HJ2.out.1, ← ha3]
          have : L[j2] = fs[j2].abs := by simp [← HC.out.2.2.1]
          rw [this]
          show _ = a2 + sizeL [(fs[j2].kind.toNat, fs[j2].body)]
          rw [sizeL_one, hnb]
        have hal : a3 ≤ 1000000000 := by
          rw [hsz]
          exact Nat.le_trans (prefix_size (List.take_prefix _ _)) hTT
        have u0 : IntKind.i64.wrap ((a2 : Int) + (9 + (nb : Int))) = (a3 : Int) := by rw [IntWalk.i64_in _ (by omega)]; omega
        have c61 := fun W : World => size_any W Ab nb cb (by omega)
        have HS := Lib.hid hsz
        clear hsz ha3 hal hnb hnb1
        go_wp2
        go_region_law (first | (go_simp; go_at_call 57; refine c57.mono ?_; clear c57; rintro e w4 ⟨rfl, z5, H4⟩))
        all_goals
          clear x0 x1 y0 y1
          go_wp2_with (go_at_call 61; refine (c61 _).mono ?_; rintro e w5 ⟨rfl, rfl⟩)
          go_roundw
          case rel => exact ⟨j2 + 1, a3, by omega, rfl, by go_num, Lib.hid ⟨HS.out, H4.out⟩⟩
          case measure => simp [intOf]; omega
      have q4 : ¬ (j2 : Int) < (m2 : Int) := by omega
      obtain rfl : j2 = m2 := by omega
      have hag : a2 = g2 := by rw [HJ2.out.1, HM.out.1]
      subst hag
      have HB6 := Lib.hid (HB5.out.trans (HJ2.out.2.mono HB5.out.size))
      clear HJ2
      by_cases hmi : j2 < j
      · have q7 : (j2 : Int) < (j : Int) := by omega
        have q8 : (0 : Int) ≤ (j2 : Int) := by omega
        obtain ⟨ad, K, nb, Ab, cb, rfl, hnb, hnb1, hW⟩ := torn_first w A j fs bit H0.out.1 HA.out hb0 hb1 j2 (by omega)
        obtain ⟨y0, y1, _⟩ := hW _ HB6.out
        obtain ⟨a3, ha3⟩ : ∃ a3, a2 + (9 + nb) = a3 := ⟨_, rfl⟩
        have hsz : a3 = sizeL (L.take (j2 + 1)) := by
          have hjL : j2 < L.length := by rw [HC.out.2.2.2.2.2.1]; omega
          rw [List.take_succ_eq_append_getElem hjL, sizeL_append, HM.out.1, ← ha3]
          have : L[j2] = fs[j2].abs := by simp [← HC.out.2.2.1]
          rw [this]
          show _ = a2 + sizeL [(fs[j2].kind.toNat, fs[j2].body)]
          rw [sizeL_one, hnb]
        have hal : a3 ≤ 1000000000 := by
          rw [hsz]
          exact Nat.le_trans (prefix_size (List.take_prefix _ _)) hTT
        have hbey : a2 < a3 := by rw [hsz]; exact HM.out.2 hmi
        have u0 : IntKind.i64.wrap ((a2 : Int) + (9 + (nb : Int))) = (a3 : Int) := by rw [IntWalk.i64_in _ (by omega)]; omega
        have q9 : ¬ (a3 : Int) ≤ (a2 : Int) := by omega
        have c61 := fun W : World => size_any W Ab nb cb (by omega)
        clear hsz ha3 hal hnb hnb1 hW
        obtain ⟨ad', K', nb', Ab', cb', e', _, _, hW'⟩ := torn_first w (some ad) j fs bit H0.out.1 HA.out hb0 hb1 0 (by omega)
        injection e' with e'
        subst e'
        obtain ⟨z0, z1, c64⟩ := hW' _ HB6.out
        rw [Nat.zero_mul] at z0 z1
        have yz : ad.add 0 = ad := by simp [Addr.add]
        rw [yz] at z0 z1
        have r0 : ((j : Int) == 0) = false := by rw [beq_eq_false_iff_ne]; omega
        have r1 : (0 : Int) < (j : Int) := by omega
        clear hW' yz
        go_wp2_with (first
          | (go_at_call 61; refine (c61 _).mono ?_; rintro e w5 ⟨rfl, rfl⟩)
          | (go_at_call 64; refine c64.mono ?_; clear c64; rintro e w9 ⟨rfl, h9⟩))
        go_ret
        exact ⟨rfl, h9⟩
      · have q7 : ¬ (j2 : Int) < (j : Int) := by omega
        have HEB := Lib.hid HB6.out
        by_cases hi0 : j = 0
        · subst hi0
          go_wp2
          go_ret
          exact ⟨rfl, HEB.out⟩
        · obtain ⟨ad, K, nb, Ab, cb, rfl, _, _, hW⟩ := torn_first w A j fs bit H0.out.1 HA.out hb0 hb1 0 (by omega)
          obtain ⟨y0, y1, c64⟩ := hW _ HEB.out
          rw [Nat.zero_mul] at y0 y1
          have yz : ad.add 0 = ad := by simp [Addr.add]
          rw [yz] at y0 y1
          have r0 : ((j : Int) == 0) = false := by rw [beq_eq_false_iff_ne]; omega
          have r1 : (0 : Int) < (j : Int) := by omega
          clear hW
          go_wp2_with (go_at_call 64; refine c64.mono ?_; clear c64; rintro e w9 ⟨rfl, h9⟩)
          go_ret
          exact ⟨rfl, h9⟩
    · rw [if_neg hgk] at C53b
      have r5 : ((g2 : Int) == (k : Int)) = false := by rw [beq_eq_false_iff_ne]; omega
      go_wp2_with (first
        | (go_at_call 53; refine C53b.mono ?_; clear C53b; rintro e w5 ⟨xs2, A4, c4, rfl, HG2⟩)
        | (go_at_call 55; refine (numE_any _ _).mono ?_; rintro e w4 ⟨rfl, rfl⟩))
      have HB5 := Lib.hid (H3.out.trans ((HJ.out.2.trans (HG2.out.2.2.mono HJ.out.2.size)).mono H3.out.size))
      go_loopw [19, 20] (fun av iv wr2 => ∃ j2 a2 : Nat, j2 ≤ m2 ∧ av = .int .i64 a2 ∧ iv = .int .i64 j2 ∧ Hid (a2 = sizeL (L.take j2) ∧ Below w5.heap.size w5 wr2)) (fun _ iv _ => m2 - (intOf iv).toNat)
      case atStart => exact ⟨0, 0, by omega, rfl, rfl, Lib.hid ⟨rfl, Below.refl _ w5⟩⟩
      case round =>
      obtain ⟨j2, a2, hj2, rfl, rfl, HJ2⟩ := hrel
      by_cases hlt3 : j2 < m2
      · have q4 : (j2 : Int) < (m2 : Int) := by omega
        have q5 : (0 : Int) ≤ (j2 : Int) := by omega
        have q6 : (j2 : Int) < (j : Int) := by omega
        have hjl : j2 < fs.length := by omega
        obtain ⟨g, ad, K, nb, Ab, Ax, cb, cx, rfl, rfl, hnb, hnb1, x0, x1, y0, y1, c57⟩ := torn_round w w5 wr A A4 j wq.heap.size m2 c4 fs xs2 H0.out.1 HB5.out HA.out HG2.out.2.1 HJ2.out.2 j2 hlt3 hjl (by rw [HG2.out.1, HC.out.2.2.1, List.getElem?_take_of_lt hlt3])
        obtain ⟨a3, ha3⟩ : ∃ a3, a2 + (9 + nb) = a3 := ⟨_, rfl⟩
        have hsz : a3 = sizeL (L.take (j2 + 1)) := by
          have hjL : j2 < L.length := by rw [HC.out.2.2.2.2.2.1]; omega
          rw [List.take_succ_eq_append_getElem hjL, sizeL_append, ← HJ2.out.1, ← ha3]
          have : L[j2] = fs[j2].abs := by simp [← HC.out.2.2.1]
          rw [this]
          show _ = a2 + sizeL [(fs[j2].kind.toNat, fs[j2].body)]
          rw [sizeL_one, hnb]
        have hal : a3 ≤ 1000000000 := by
          rw [hsz]
          exact Nat.le_trans (prefix_size (List.take_prefix _ _)) hTT
        have u0 : IntKind.i64.wrap ((a2 : Int) + (9 + (nb : Int))) = (a3 : Int) := by rw [IntWalk.i64_in _ (by omega)]; omega
        have c61 := fun W : World => size_any W Ab nb cb (by omega)
        have HS := Lib.hid hsz
        clear hsz ha3 hal hnb hnb1
        go_wp2
        go_region_law (first | (go_simp; go_at_call 57; refine c57.mono ?_; clear c57; rintro e w4 ⟨rfl, z5, H4⟩))
        all_goals
          clear x0 x1 y0 y1
          go_wp2_with (go_at_call 61; refine (c61 _).mono ?_; rintro e w5 ⟨rfl, rfl⟩)
          go_roundw
          case rel => exact ⟨j2 + 1, a3, by omega, rfl, by go_num, Lib.hid ⟨HS.out, H4.out⟩⟩
          case measure => simp [intOf]; omega
      have q4 : ¬ (j2 : Int) < (m2 : Int) := by omega
      obtain rfl : j2 = m2 := by omega
      have hag : a2 = g2 := by rw [HJ2.out.1, HM.out.1]
      subst hag
      have HB6 := Lib.hid (HB5.out.trans (HJ2.out.2.mono HB5.out.size))
      clear HJ2
      by_cases hmi : j2 < j
      · have q7 : (j2 : Int) < (j : Int) := by omega
        have q8 : (0 : Int) ≤ (j2 : Int) := by omega
        obtain ⟨ad, K, nb, Ab, cb, rfl, hnb, hnb1, hW⟩ := torn_first w A j fs bit H0.out.1 HA.out hb0 hb1 j2 (by omega)
        obtain ⟨y0, y1, _⟩ := hW _ HB6.out
        obtain ⟨a3, ha3⟩ : ∃ a3, a2 + (9 + nb) = a3 := ⟨_, rfl⟩
        have hsz : a3 = sizeL (L.take (j2 + 1)) := by
          have hjL : j2 < L.length := by rw [HC.out.2.2.2.2.2.1]; omega
          rw [List.take_succ_eq_append_getElem hjL, sizeL_append, HM.out.1, ← ha3]
          have : L[j2] = fs[j2].abs := by simp [← HC.out.2.2.1]
          rw [this]
          show _ = a2 + sizeL [(fs[j2].kind.toNat, fs[j2].body)]
          rw [sizeL_one, hnb]
        have hal : a3 ≤ 1000000000 := by
          rw [hsz]
          exact Nat.le_trans (prefix_size (List.take_prefix _ _)) hTT
        have hbey : k < a3 := by rw [hsz]; exact HM.out.2 hmi
        have u0 : IntKind.i64.wrap ((a2 : Int) + (9 + (nb : Int))) = (a3 : Int) := by rw [IntWalk.i64_in _ (by omega)]; omega
        have q9 : ¬ (a3 : Int) ≤ (k : Int) := by omega
        have c61 := fun W : World => size_any W Ab nb cb (by omega)
        clear hsz ha3 hal hnb hnb1 hW
        obtain ⟨ad', K', nb', Ab', cb', e', _, _, hW'⟩ := torn_first w (some ad) j fs bit H0.out.1 HA.out hb0 hb1 0 (by omega)
        injection e' with e'
        subst e'
        obtain ⟨z0, z1, c64⟩ := hW' _ HB6.out
        rw [Nat.zero_mul] at z0 z1
        have yz : ad.add 0 = ad := by simp [Addr.add]
        rw [yz] at z0 z1
        have r0 : ((j : Int) == 0) = false := by rw [beq_eq_false_iff_ne]; omega
        have r1 : (0 : Int) < (j : Int) := by omega
        clear hW' yz
        go_wp2_with (first
          | (go_at_call 61; refine (c61 _).mono ?_; rintro e w5 ⟨rfl, rfl⟩)
          | (go_at_call 64; refine c64.mono ?_; clear c64; rintro e w9 ⟨rfl, h9⟩))
        go_ret
        exact ⟨rfl, h9⟩
      · have q7 : ¬ (j2 : Int) < (j : Int) := by omega
        have HEB := Lib.hid HB6.out
        by_cases hi0 : j = 0
        · subst hi0
          go_wp2
          go_ret
          exact ⟨rfl, HEB.out⟩
        · obtain ⟨ad, K, nb, Ab, cb, rfl, _, _, hW⟩ := torn_first w A j fs bit H0.out.1 HA.out hb0 hb1 0 (by omega)
          obtain ⟨y0, y1, c64⟩ := hW _ HEB.out
          rw [Nat.zero_mul] at y0 y1
          have yz : ad.add 0 = ad := by simp [Addr.add]
          rw [yz] at y0 y1
          have r0 : ((j : Int) == 0) = false := by rw [beq_eq_false_iff_ne]; omega
          have r1 : (0 : Int) < (j : Int) := by omega
          clear hW
          go_wp2_with (go_at_call 64; refine c64.mono ?_; clear c64; rintro e w9 ⟨rfl, h9⟩)
          go_ret
          exact ⟨rfl, h9⟩
  · by_cases hc2' : 0 ≤ cut
    · have r1 : ¬ cut < (a : Int) := by omega
      clear hcin
      have HEB := Lib.hid (H3.out.trans (HJ.out.2.mono H3.out.size))
      by_cases hi0 : j = 0
      · subst hi0
        go_wp2
        go_ret
        exact ⟨rfl, HEB.out⟩
      · obtain ⟨ad, K, nb, Ab, cb, rfl, _, _, hW⟩ := torn_first w A j fs bit H0.out.1 HA.out hb0 hb1 0 (by omega)
        obtain ⟨y0, y1, c64⟩ := hW _ HEB.out
        rw [Nat.zero_mul] at y0 y1
        have yz : ad.add 0 = ad := by simp [Addr.add]
        rw [yz] at y0 y1
        have r0 : ((j : Int) == 0) = false := by rw [beq_eq_false_iff_ne]; omega
        have r1 : (0 : Int) < (j : Int) := by omega
        clear hW
        go_wp2_with (go_at_call 64; refine c64.mono ?_; clear c64; rintro e w9 ⟨rfl, h9⟩)
        go_ret
        exact ⟨rfl, h9⟩
    · have r1 : cut < 0 := by omega
      clear hcin
      have HEB := Lib.hid (H3.out.trans (HJ.out.2.mono H3.out.size))
      by_cases hi0 : j = 0
      · subst hi0
        go_wp2
        go_ret
        exact ⟨rfl, HEB.out⟩
      · obtain ⟨ad, K, nb, Ab, cb, rfl, _, _, hW⟩ := torn_first w A j fs bit H0.out.1 HA.out hb0 hb1 0 (by omega)
        obtain ⟨y0, y1, c64⟩ := hW _ HEB.out
        rw [Nat.zero_mul] at y0 y1
        have yz : ad.add 0 = ad := by simp [Addr.add]
        rw [yz] at y0 y1
        have r0 : ((j : Int) == 0) = false := by rw [beq_eq_false_iff_ne]; omega
        have r1 : (0 : Int) < (j : Int) := by omega
        clear hW
        go_wp2_with (go_at_call 64; refine c64.mono ?_; clear c64; rintro e w9 ⟨rfl, h9⟩)
        go_ret
        exact ⟨rfl, h9⟩
end Go.Proofs.Ytpnagblbhlglhaa
