/- Frames that came in; frame.PutAll. Conditions: those that each states. -/
import Derived.Test.YtpnagblbhlglhaaFrameScan
import Derived.Test.YtpnagblbhlglhaaFrameMath
namespace Go.Proofs.Ytpnagblbhlglhaa
open Go.RowKit

/-- A frame that came in. -/
structure FrS where
  kind : Int
  A : Option Addr
  c : Nat
  body : List Nat
def FrS.abs (x : FrS) : Nat × List Nat := (x.kind.toNat, x.body)
def FrS.ok (x : FrS) : Prop := 0 ≤ x.kind ∧ x.kind ≤ 255
/-- Frames, cell by cell. -/
structure InF (w : World) (B : Nat) (A : Option Addr) (n : Nat) (fs : List FrS) : Prop where
  len : fs.length = n
  at_ : ∀ i (h : i < fs.length), ∃ ad, A = some ad ∧ ad.block < B ∧ w.cell? (ad.add (i * 2)) = some (.int .i64 fs[i].kind) ∧ w.cell? ((ad.add (i * 2)).add 1) = some (.slice fs[i].A fs[i].body.length fs[i].c) ∧
    Reads w B 1 fs[i].A fs[i].body.length (byts fs[i].body) ∧ Small fs[i].body ∧ fs[i].body.length ≤ 1048576
theorem InF.below {w w' : World} {B n : Nat} {A : Option Addr} {fs : List FrS} (h : InF w B A n fs) (hb : Below B w w') : InF w' B A n fs :=
  ⟨h.len, fun i hi => by
    obtain ⟨ad, e, hb1, c0, c1, r, s⟩ := h.at_ i hi
    exact ⟨ad, e, hb1, (hb.cell (by rw [block_of_add]; exact hb1)).trans c0, (hb.cell (by rw [block_of_add, block_of_add]; exact hb1)).trans c1, r.below hb, s⟩⟩
theorem InF.more {w : World} {B B' n : Nat} {A : Option Addr} {fs : List FrS} (h : InF w B A n fs) (hB : B ≤ B') : InF w B' A n fs :=
  ⟨h.len, fun i hi => by
    obtain ⟨ad, e, hb1, c0, c1, r, s⟩ := h.at_ i hi
    exact ⟨ad, e, by omega, c0, c1, r.more hB, s⟩⟩
theorem framesN_take (fs : List FrS) (i : Nat) (h : i < fs.length) : framesN ((fs.take (i + 1)).map FrS.abs) = framesN ((fs.take i).map FrS.abs) ++ frameN fs[i].kind.toNat fs[i].body := by
  rw [List.take_succ_eq_append_getElem h, List.map_append, framesN_append]
  simp [framesN, FrS.abs]

/-- What PutAll answers. -/
def PutAllPost (w : World) (fs : List FrS) (e : Ending) (w' : World) : Prop := Below w.heap.size w w' ∧
  (((∀ x ∈ fs, x.ok) ∧ ∃ A2 c2, e = .returned (.tuple #[.slice A2 (framesN (fs.map FrS.abs)).length c2, .int .i64 0]) ∧ w'.ownsRow w.heap.size 5 1 (.slice A2 (framesN (fs.map FrS.abs)).length c2) (framesN (fs.map FrS.abs)).length (byts (framesN (fs.map FrS.abs)))) ∨
    ((∃ x ∈ fs, ¬ x.ok) ∧ e = .returned (.tuple #[.slice none 0 0, .int .i64 2])))

set_option maxHeartbeats 4000000 in
set_option maxRecDepth 100000 in
theorem putAll_any (w : World) (B : Nat) (A : Option Addr) (n c : Nat) (fs : List FrS) (h : InF w B A n fs) (hB : B ≤ w.heap.size) (hn : n ≤ 1048576) (hT : sizeL (fs.map FrS.abs) ≤ 1000000000) :
    Calls Try.prog 63 #[.slice A n c] w (PutAllPost w fs) := by
  obtain ⟨i0, hi, hz0, hz1, hz2⟩ := info_parts Try.info5w
  have hlen := h.len
  have H0 := Lib.hid (And.intro h hlen)
  clear h
  go_enter Try.func63, Try.ntmps63
  go_wp2
  go_loopw [4, 15] (fun lv iv wr => ∃ i : Nat, i ≤ n ∧ iv = .int .i64 i ∧ lv = .int .i64 0 ∧ Hid (Below w.heap.size w wr ∧ ∀ j (hj : j < fs.length), j < i → fs[j].ok)) (fun _ iv _ => n - (intOf iv).toNat)
  case atStart => exact ⟨0, by omega, rfl, rfl, Lib.hid ⟨Below.refl _ w, fun j _ hj => absurd hj (by omega)⟩⟩
  case round =>
  obtain ⟨i, hi1, rfl, rfl, HI⟩ := hrel
  by_cases hlt : i < n
  · have q1 : (i : Int) < (n : Int) := by omega
    have q3 : (0 : Int) ≤ (i : Int) := by omega
    have hil : i < fs.length := by omega
    obtain ⟨ad, rfl, hab, d0, d1, _, _, hb1⟩ := (H0.out.1.more hB |>.below HI.out.1).at_ i hil
    obtain ⟨K, hK⟩ : ∃ K, fs[i].kind = K := ⟨_, rfl⟩
    obtain ⟨nb, hnb⟩ : ∃ nb, fs[i].body.length = nb := ⟨_, rfl⟩
    obtain ⟨Ab, hAb⟩ : ∃ a, fs[i].A = a := ⟨_, rfl⟩
    obtain ⟨cb, hcb⟩ : ∃ a, fs[i].c = a := ⟨_, rfl⟩
    rw [hK] at d0
    rw [hAb, hnb, hcb] at d1
    have d5 : wr.cell? ⟨(ad.add (i * 2)).block, (ad.add (i * 2)).off + 1, none⟩ = some (.slice Ab nb cb) := d1
    have c1 := fun W : World => check_any W K Ab nb cb
    have kf := Blk.new wr 94 #[.int .i64 K, .slice Ab nb cb]
    have z0 := (kf.cell 0).trans rfl
    have z1 := (kf.cell 1).trans rfl
    have FIN : Below w.heap.size w (wr.alloc (.cells #[.int .i64 K, .slice Ab nb cb] 94)) := HI.out.1.alloc HI.out.1.size _
    have HF := Lib.hid FIN
    rw [show (if 2147483647 < nb then 3 else 0 : Int) = 0 from if_neg (by omega)] at c1
    by_cases hok : K < 0 ∨ 255 < K
    · simp only [if_pos hok] at c1
      have HB := Lib.hid (show ∃ x ∈ fs, ¬ x.ok from ⟨fs[i], List.getElem_mem hil, by unfold FrS.ok; rw [hK]; omega⟩)
      clear hok hK FIN
      go_wp2_with (go_at_call 83; refine (c1 _).mono ?_; clear c1; rintro e w1 ⟨rfl, rfl⟩)
      refine bodyPost_ret (v := .tuple #[.slice none 0 0, .int .i64 2]) ?_ rfl ⟨HF.out, .inr ⟨HB.out, rfl⟩⟩
      clear z0 z1 kf d0 d1 d5
      simp [results, Try.f63, go_sem]
    · simp only [if_neg hok] at c1
      have HB := Lib.hid (show ∀ j (hj : j < fs.length), j < i + 1 → fs[j].ok from fun j hj hji => by
        by_cases e : j = i
        · subst e; unfold FrS.ok; rw [hK]; omega
        · exact HI.out.2 j hj (by omega))
      clear hok hK FIN
      go_wp2_with (go_at_call 83; refine (c1 _).mono ?_; clear c1; rintro e w1 ⟨rfl, rfl⟩)
      go_roundw
      case rel => exact ⟨i + 1, by omega, by go_num, rfl, Lib.hid ⟨HF.out, HB.out⟩⟩
      case measure => simp [intOf]; omega
  have q1 : ¬ (i : Int) < (n : Int) := by omega
  obtain rfl : i = n := by omega
  have hall : ∀ x ∈ fs, x.ok := fun x hx => by
    obtain ⟨j, hj, rfl⟩ := List.getElem_of_mem hx
    exact HI.out.2 j hj (by omega)
  have HA := Lib.hid hall
  have HW := Lib.hid HI.out.1
  clear hall HI
  have hcat : sizeL (fs.map FrS.abs) = (framesN (fs.map FrS.abs)).length := (framesN_len _).symm
  have hpre : ∀ j, (framesN ((fs.take j).map FrS.abs)).length ≤ 1000000000 := fun j => by
    rw [framesN_len]
    refine Nat.le_trans (prefix_size ?_) hT
    exact (List.take_prefix j fs).map FrS.abs
  have HP := Lib.hid hpre
  clear hcat hpre hT
  have o0 : (wr.alloc (.cells #[] 5)).ownsRow w.heap.size 5 1 (.slice (some ⟨wr.heap.size, 0, none⟩) 0 0) 0 (byts (framesN ((fs.take 0).map FrS.abs))) := own_mono (own_lit wr #[] 0 rfl (by omega)) HW.out.size
  have hb0 : Below w.heap.size w (wr.alloc (.cells #[] 5)) := HW.out.alloc HW.out.size _
  have H1 := Lib.hid (And.intro o0 hb0)
  clear o0 hb0
  go_wp2
  go_loopw [8, 38] (fun ov iv wr2 => ∃ (j m : Nat) (A2 : Option Addr) (c2 : Nat), j ≤ i ∧ iv = .int .i64 j ∧ ov = .slice A2 m c2 ∧ Hid ((framesN ((fs.take j).map FrS.abs)).length = m ∧ wr2.ownsRow w.heap.size 5 1 (.slice A2 m c2) m (byts (framesN ((fs.take j).map FrS.abs))) ∧ Below w.heap.size w wr2)) (fun _ iv _ => i - (intOf iv).toNat)
  case atStart => exact ⟨0, 0, _, _, by omega, rfl, rfl, Lib.hid ⟨rfl, H1.out⟩⟩
  case round =>
  clear H1 HW
  obtain ⟨j, m, A2, c2, hj, rfl, rfl, HJ⟩ := hrel
  by_cases hlt : j < i
  · have q1 : (j : Int) < (i : Int) := by omega
    have q3 : (0 : Int) ≤ (j : Int) := by omega
    have hjl : j < fs.length := by omega
    obtain ⟨ad, rfl, hab, d0, d1, hrd, hsm, hb1⟩ := (H0.out.1.more hB |>.below HJ.out.2.2).at_ j hjl
    have hkind := HA.out _ (List.getElem_mem hjl)
    have htake := framesN_take fs j hjl
    have hm1 := HP.out (j + 1)
    obtain ⟨K, hK⟩ : ∃ K, fs[j].kind.toNat = K := ⟨_, rfl⟩
    have hK' : fs[j].kind = (K : Int) := by unfold FrS.ok at hkind; omega
    have hK2 : K < 256 := by unfold FrS.ok at hkind; omega
    obtain ⟨bd, hbd⟩ : ∃ bd, fs[j].body = bd := ⟨_, rfl⟩
    obtain ⟨Ab, hAb⟩ : ∃ a, fs[j].A = a := ⟨_, rfl⟩
    obtain ⟨cb, hcb⟩ : ∃ a, fs[j].c = a := ⟨_, rfl⟩
    rw [hK'] at d0
    rw [hAb, hbd, hcb] at d1
    rw [hAb, hbd] at hrd
    rw [hbd] at hsm hb1
    rw [hK, hbd] at htake
    have hlm := HJ.out.1
    have hoj := HJ.out.2.1
    obtain ⟨Lj, hLj⟩ : ∃ L, framesN ((fs.take j).map FrS.abs) = L := ⟨_, rfl⟩
    rw [hLj] at htake hlm hoj
    rw [htake, List.length_append, frameN_len, hlm] at hm1
    obtain ⟨nb, hnb⟩ : ∃ nb, bd.length = nb := ⟨_, rfl⟩
    rw [hnb] at d1 hrd hb1 hm1
    have d5 : wr.cell? ⟨(ad.add (j * 2)).block, (ad.add (j * 2)).off + 1, none⟩ = some (.slice Ab nb cb) := d1
    have kf := Blk.new wr 94 #[.int .i64 K, .slice Ab nb cb]
    have z0 := (kf.cell 0).trans rfl
    have z1 := (kf.cell 1).trans rfl
    have hal : Below wr.heap.size wr (wr.alloc (.cells #[.int .i64 K, .slice Ab nb cb] 94)) := (Below.refl _ wr).alloc (Nat.le_refl _) _
    have hwl := HJ.out.2.2.size
    have c60 := put_any (wr.alloc (.cells #[.int .i64 K, .slice Ab nb cb] 94)) w.heap.size K Ab nb cb bd hK2 (hrd.below (hal.mono hwl)) hsm (Nat.le_trans hwl hal.size) hb1
    have C60 : Calls Try.prog 60 #[.int .i64 K, .slice Ab nb cb] (wr.alloc (.cells #[.int .i64 K, .slice Ab nb cb] 94)) fun e w2 => ∃ A3 c3, e = .returned (.tuple #[.slice A3 (9 + nb) c3, .int .i64 0]) ∧ Reads w2 w2.heap.size 1 A3 (9 + nb) (byts (frameN K bd)) ∧ w2.ownsRow w.heap.size 5 1 (.slice A2 m c2) m (byts Lj) ∧ Below w.heap.size w w2 := by
      refine c60.mono ?_
      rintro e w2 ⟨A3, c3, rfl, ho, hb⟩
      have hb2 : Below wr.heap.size wr w2 := hal.trans (hb.mono hal.size)
      exact ⟨A3, c3, rfl, Reads.of_own ho, own_fr hoj (Fr.of_new (S := noB) hb2) (fun _ _ e => e), HJ.out.2.2.trans (hb2.mono hwl)⟩
    have HT := Lib.hid htake
    clear htake hoj hLj hal c60 hrd hsm hK hK' hbd hAb hcb hkind hab kf
    go_wp2_with (first
      | (go_at_call 60; refine C60.mono ?_; clear C60; rintro e w2 ⟨A3, c3, rfl, r2, o2, b2⟩)
      | (at_builtin; refine wpList_append_any _ rfl _ _ 24 rfl w.heap.size 5 i0 (.int .u8 0) 1 1 Try.underlying24 hi hz0 hz1 hz2 rfl (by decide) _ _ _ rfl o2 _ _ (9 + nb) _ _ rfl r2 ?c1 ?c2 ?c3 ?c4 ?_))
    case c1 => exact byts_one _
    case c2 => unfold maxLen; omega
    case c3 => omega
    case c4 => exact b2.size
    intro v3 w3 o3 g3 _
    obtain ⟨A4, c4, rfl⟩ := own_shape o3
    have hb3 : Below w.heap.size w w3 := b2.grown g3 b2.size (own_base o2)
    rw [← byts_append, ← HT.out] at o3
    have H3 := Lib.hid (And.intro (show (framesN ((fs.take (j + 1)).map FrS.abs)).length = m + (9 + nb) by rw [HT.out, List.length_append, frameN_len, hlm, hnb]) (And.intro o3 hb3))
    clear o3 hb3 g3 o2 r2 b2 z0 z1 d0 d1 d5 HT
    go_wp2
    go_roundw
    case rel => exact ⟨j + 1, m + (9 + nb), A4, c4, by omega, by go_num, rfl, H3⟩
    case measure => simp [intOf]; omega
  have q1 : ¬ (j : Int) < (i : Int) := by omega
  obtain rfl : j = i := by omega
  go_wp2
  have hfull : fs.take j = fs := List.take_of_length_le (by omega)
  obtain ⟨h1, h2, h3⟩ := HJ.out
  rw [hfull] at h1 h2
  refine bodyPost_ret (v := .tuple #[.slice A2 m c2, .int .i64 0]) ?_ rfl ⟨h3, .inl ⟨HA.out, A2, c2, by rw [h1], by rw [h1]; exact h2⟩⟩
  clear h1 h2 h3 hfull HJ
  simp [results, Try.f63, go_sem]
end Go.Proofs.Ytpnagblbhlglhaa
