/- wicketlaw03.DiskLasts: what it does behind its first stop. Conditions: those that each states. -/
import Derived.Test.YtapgcglpkilofaaDiskLaw
import Derived.Test.YtapgcglpkilofaaDiskCopy
import Derived.Test.YtapgcglpkilofaaDiskTells
namespace Go.Proofs.Ytapgcglpkilofaa
open Go.RowKit

/-- How bytes convert from here on. -/
def Conv (u : World) (A : Option Addr) (n c : Nat) (X : ByteArray) : Prop := ∀ W, Below u.heap.size u W → (convert 22 9 (.slice A n c)).run Try.prog W = .ok (.string X) W
theorem Conv.new {u u' : World} {A : Option Addr} {n c : Nat} {X : ByteArray} (h : Conv u A n c X) (hb : Below u.heap.size u u') : Conv u' A n c X := fun W hW => h W (hb.trans (hW.mono hb.size))
theorem conv_own {u : World} {b n c : Nat} {A : Option Addr} {l : List Nat} (h : u.ownsRow b 5 1 (.slice A n c) n (byts l)) (hs : Small l) : Conv u A n c (strN l) := fun _ hb =>
  run_str (P := Try.prog) (src := 22) (dst := 9) (c := c) rfl rfl rfl ((Reads.of_own h).below hb) hs
theorem Conv.here {u : World} {A : Option Addr} {n c : Nat} {X : ByteArray} (h : Conv u A n c X) : (convert 22 9 (.slice A n c)).run Try.prog u = .ok (.string X) u := h u (Below.refl _ _)

/-- What DiskLasts does behind its first stop. -/
theorem lasts_chain (w u : World) (p : Nat) (S : Nat → Prop) (s : DS) (q2 : Nat) (S2 : Nat → Prop) (keep : Int) (A5 : Option Addr) (m e5 : Nat) (A6 : Option Addr) (L e6 : Nat) (Ad : Option Addr) (nd cd : Nat) (data : List Nat)
    (i : InP w u p S s) (j : InP w u q2 S2 (s.stopS keep)) (hm : s.log.length = m) (hL : (s.stopS keep).log.length = L) (b5 : Nat) (O5 : u.ownsRow b5 5 1 (.slice A5 m e5) m (byts s.log)) (hA5 : ∀ k, blkOf A5 = some k → ¬ S k) (T6 : Conv u A6 L e6 (strN (s.stopS keep).log))
    (hd : Reads w w.heap.size 1 Ad nd (byts data)) (hsd : Small data) (hnd : nd ≤ 1048576) :
    ∃ (nv : Nat) (x : Bool) (Y : ByteArray),
    Calls Try.prog 14 #[.pointer (some ⟨q2, 0, none⟩), .int .i64 keep] u fun e w4 => ∃ q3, e = .returned (.pointer (some ⟨q3, 0, none⟩)) ∧ Conv w4.drew A6 L e6 (strN (s.stopS keep).log) ∧
      Calls Try.prog 13 #[.pointer (some ⟨q3, 0, none⟩)] w4.drew fun e w5 => ∃ A7 e7, e = .returned (.slice A7 L e7) ∧ Conv w5 A6 L e6 (strN (s.stopS keep).log) ∧ Conv w5 A7 L e7 (strN (s.stopS keep).log) ∧
      Calls Try.prog 16 #[.pointer (some ⟨p, 0, none⟩)] w5 fun e w6 => ∃ A8 e8, e = .returned (.tuple #[.slice A8 nv e8, .bool x]) ∧
      Calls Try.prog 17 #[.pointer (some ⟨p, 0, none⟩), .slice Ad nd cd] w6 fun e w7 => e = .returned (.int .i64 0) ∧
      Calls Try.prog 16 #[.pointer (some ⟨p, 0, none⟩)] w7 fun e w8 => ∃ A9 e9, e = .returned (.tuple #[.slice A9 nv e9, .bool x]) ∧ Conv w8 A8 nv e8 Y ∧ Conv w8 A9 nv e9 Y ∧
      Calls Try.prog 18 #[.pointer (some ⟨p, 0, none⟩)] w8 fun e w9 => e = .returned (.int .i64 0) ∧
      Calls Try.prog 14 #[.pointer (some ⟨p, 0, none⟩), .int .i64 (-1)] w9 fun e w10 => ∃ q4, e = .returned (.pointer (some ⟨q4, 0, none⟩)) ∧ Conv w10.drew A5 m e5 (strN s.log) ∧
      Calls Try.prog 13 #[.pointer (some ⟨q4, 0, none⟩)] w10.drew fun e w11 => ∃ A10 e10, e = .returned (.slice A10 m e10) ∧ Conv w11 A5 m e5 (strN s.log) ∧ Conv w11 A10 m e10 (strN s.log) ∧
      Calls Try.prog 12 #[] w11 fun e w12 => e = .returned (.bool true) ∧ Below w.heap.size w w12 ∧ Conv w12 A5 m e5 (strN s.log) ∧ Conv w12 A10 m e10 (strN s.log) := by
  have ok := i.ok
  obtain ⟨⟨lv, x⟩, hv⟩ : ∃ v, s.snapV = v := ⟨_, rfl⟩
  have sv := snapV_ok ok
  rw [hv] at sv
  obtain ⟨nv, hnv⟩ : ∃ n, lv.length = n := ⟨_, rfl⟩
  refine ⟨nv, x, strN lv, ?_⟩
  refine (stopP u q2 S2 (s.stopS keep) j.pd keep).mono ?_
  rintro e w4 ⟨q3, S4, rfl, a1, a2, a3⟩
  have b4 : Below u.heap.size u w4.drew := a3.drew
  have i4 := (i.new a3).drew
  obtain ⟨S4', j4, _⟩ := inP_made j.below a1 a2 a3
  refine ⟨q3, rfl, T6.new b4, ?_⟩
  have hlog : ((s.stopS keep).stopS keep).log = (s.stopS keep).log := DS.stop_stop ok keep
  refine (log_out w4.drew q3 S4' ((s.stopS keep).stopS keep) j4.drew.pd L (by rw [hlog]; exact hL)).mono ?_
  rintro e w5 ⟨A7, e7, rfl, o7, m7⟩
  rw [hlog] at o7
  have i5 := i4.new m7
  have bb5 := b4.trans (m7.mono b4.size)
  refine ⟨A7, e7, rfl, T6.new bb5, conv_own o7 j.ok.sl, ?_⟩
  refine ((hv ▸ snap_any w5 p S s i5.pd).out nv hnv).mono ?_
  rintro e w6 ⟨A8, e8, rfl, o8, m8⟩
  have i6 := i5.new m8
  have b6 := bb5.trans (m8.mono bb5.size)
  have T8 := conv_own o8 sv.2
  have hA8 : ∀ k, blkOf A8 = some k → w5.heap.size ≤ k := fun k hk => (o8.lt k (by rw [ownBlock_slice]; exact hk)).1
  refine ⟨A8, e8, rfl, ?_⟩
  refine (putP w6 p S s i6.pd Ad nd cd data ((hd.below i6.below).more i6.below.size) hsd (by omega) (fun k h0 hk e => ?_)).mono ?_
  · obtain ⟨ad, rfl, hb, _⟩ := hd.2 h0
    have hk' : ad.block = k := by simpa [blkOf] using hk
    have := i6.lo k e
    omega
  rintro e w7 ⟨rfl, m7p⟩
  obtain ⟨S7, i7, s7⟩ := m7p.into i6
  have o8b := own_fr o8 s7.2 fun k hk e => by
    have h5 := hA8 k (bk_of hk)
    have h6 := i5.hi k e
    omega
  have hlt5 : ∀ k, blkOf A5 = some k → k < u.heap.size := fun k hk => (O5.lt k (by rw [ownBlock_slice]; exact hk)).2
  have o57 := own_fr (own_fr (S := noB) O5 (Fr.of_new b6) fun _ _ e => e) s7.2 fun k hk => hA5 k (bk_of hk)
  refine ⟨rfl, ?_⟩
  have hv7 : (s.putS data).snapV = (lv, x) := by rw [DS.snap_put]; exact hv
  refine ((hv7 ▸ snap_any w7 p S7 (s.putS data) i7.pd).out nv hnv).mono ?_
  rintro e w8 ⟨A9, e9, rfl, o9, m9⟩
  have i8 := i7.new m9
  have T8b := (conv_own o8b sv.2).new m9
  refine ⟨A9, e9, rfl, T8b, conv_own o9 sv.2, ?_⟩
  refine (syncP w8 p S7 (s.putS data) i8.pd).mono ?_
  rintro e w9 ⟨rfl, m9p⟩
  obtain ⟨S9, i9, s9⟩ := m9p.into i8
  have o59 := own_fr (own_fr (S := noB) o57 (Fr.of_new m9) fun _ _ e => e) s9.2 fun k hk e => by
    rcases s7.1 k e with e1 | e1
    · exact hA5 k (bk_of hk) e1
    · have := hlt5 k (bk_of hk)
      have := b6.size
      omega
  have T59 := conv_own o59 ok.sl
  refine ⟨rfl, ?_⟩
  refine (stopP w9 p S9 (s.putS data).syncS i9.pd (-1)).mono ?_
  rintro e w10 ⟨q4, S10, rfl, c1, c2, c3⟩
  obtain ⟨S10', j10, _⟩ := inP_made i9.below c1 c2 c3
  have hlog4 : ((s.putS data).syncS.stopS (-1)).log = s.log := by rw [DS.sync_stop, DS.put_log]
  refine ⟨q4, rfl, T59.new c3.drew, ?_⟩
  refine (log_out w10.drew q4 S10' _ j10.drew.pd m (by rw [hlog4]; exact hm)).mono ?_
  rintro e w11 ⟨A10, e10, rfl, o10, m10⟩
  rw [hlog4] at o10
  have T10 := conv_own o10 ok.sl
  refine ⟨A10, e10, rfl, (T59.new c3.drew).new m10, T10, ?_⟩
  refine (known_any w11).mono ?_
  rintro e w12 ⟨rfl, m12⟩
  exact ⟨rfl, (j10.drew.new m10).below.trans (m12.mono (j10.drew.new m10).below.size), ((T59.new c3.drew).new m10).new m12, T10.new m12⟩

end Go.Proofs.Ytapgcglpkilofaa
