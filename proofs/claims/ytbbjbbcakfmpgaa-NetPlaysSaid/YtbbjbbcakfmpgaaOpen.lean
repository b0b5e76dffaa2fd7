/- Arguments opened: slices of bytes, slices of slices of bytes; what a bound on the bulk gives. Conditions: those that each states. -/
import Derived.Test.YtbbjbbcakfmpgaaRows
import Derived.Test.YtbbjbbcakfmpgaaBytes
import Derived.ProofKit
import Derived.OpenShut
import Derived.Deep.Slices
import Derived.SizedLaws
namespace Go.Proofs.Ytbbjbbcakfmpgaa
open Go.ChangeShapes Go.WideShapes Go.ChangeAt Go.RowKit Go.Deep

section
variable {H : Type} {enc : TypeId × Value → H} {P : Program} {w : World} {base : Nat} {sp : Nat → Bool} {held : Bool}

/-- How many elements a slice's datum has. -/
def elems {H : Type} : DataW H → List (DataW H)
  | .slice l _ => l
  | _ => []

/-- A slice of bytes that came in. -/
theorem open_bytes {t e fuel : Nat} {a : Option Addr} {n c : Nat} {x : DataW H × List MemPlace} (ht : P.underlying t = some (.slice e)) (he : P.underlying e = some (.int .u8)) (hc : P.cellsOf e = 1)
    (h : DataW.trod enc P w base sp held fuel t [.slice a n c] = some x) :
    ∃ bs : List Nat, Reads w w.heap.size 1 a n (byts bs) ∧ Small bs ∧ n ≤ c ∧ c ≤ maxLen ∧ (elems x.1).length = n ∧ bs.length = n := by
  rcases open_ints ht he hc h with ⟨hcs, rfl⟩ | ⟨ad, len, cap, zs, hcs, _, hl, hm, hz, rfl, hcell, hwz⟩
  · injection hcs with hcs _
    injection hcs with h1 h2 h3
    subst h1; subst h2; subst h3
    exact ⟨[], Reads.none_, fun c hc => by simp at hc, Nat.le_refl _, by simp, rfl, rfl⟩
  · injection hcs with hcs _
    injection hcs with h1 h2 h3
    subst h1; subst h2; subst h3
    have hzl : n ≤ zs.length := by rw [hz]; split <;> omega
    have hnn : ∀ z ∈ zs, 0 ≤ z ∧ z ≤ 255 := fun z hz' => by have := hwz z hz'; simp [Lit.wf, IntKind.min, IntKind.max, IntKind.signed, IntKind.bits] at this; omega
    refine ⟨(zs.take n).map Int.toNat, ⟨by simp [byts]; omega, fun h0 => ⟨ad, rfl, ?_, fun j u hu => ?_⟩⟩, ?_, hl, hm, by simp [elems, lits]; omega, by simp; omega⟩
    · have := World.block_lt_of_cell? w _ (hcell 0 (by omega))
      rwa [block_of_add] at this
    · have hj : j < n := by have := (List.getElem?_eq_some_iff.1 hu).1; simp [byts] at this; omega
      have hjz : j < zs.length := by omega
      rw [hcell j hjz]
      simp [byts, List.getElem?_take, hj, List.getElem?_eq_getElem hjz] at hu
      rw [← hu]
      have := hnn zs[j] (List.getElem_mem hjz)
      simp [List.getElem?_eq_getElem hjz]
      omega
    · intro cc hcc
      simp only [List.mem_map] at hcc
      obtain ⟨z, hz', rfl⟩ := hcc
      have := hnn z (List.mem_of_mem_take hz')
      omega

/-- A slice of slices of bytes that came in. -/
theorem open_bytes2 {t s e fuel : Nat} {a : Option Addr} {n c : Nat} {x : DataW H × List MemPlace} (ht : P.underlying t = some (.slice s)) (hs : P.underlying s = some (.slice e)) (hc1 : P.cellsOf s = 1) (he : P.underlying e = some (.int .u8)) (hc : P.cellsOf e = 1)
    (h : DataW.trod enc P w base sp held fuel t [.slice a n c] = some x) :
    ∃ ls : List (List Nat), Reads2 w w.heap.size a n ls ∧ n ≤ c ∧ c ≤ maxLen ∧ ls.map List.length = (elems x.1).map (fun d => (elems d).length) := by
  rcases open_slice1 ht hc1 h with ⟨hcs, rfl⟩ | ⟨ad, len, cap, m, k, V, D, Pl, hcs, _, hl, hm, hmm, rfl, hi⟩
  · injection hcs with hcs _
    injection hcs with h1 h2 h3
    subst h1; subst h2; subst h3
    exact ⟨[], ⟨rfl, fun k hk => by simp at hk⟩, Nat.le_refl _, by simp, rfl⟩
  · injection hcs with hcs _
    injection hcs with h1 h2 h3
    subst h1; subst h2; subst h3
    have hnm : n ≤ m := by rw [hmm]; split <;> omega
    have each : ∀ i, i < n → ∃ bs : List Nat, ∃ A' c', w.cell? (ad.add i) = some (.slice A' bs.length c') ∧ Reads w w.heap.size 1 A' bs.length (byts bs) ∧ Small bs ∧ bs.length ≤ 9223372036854775807 ∧ (elems (D i)).length = bs.length := by
      intro i hin
      obtain ⟨h1, h2⟩ := hi i (by omega)
      obtain ⟨A', n', c', hV⟩ : ∃ A' n' c', V i = .slice A' n' c' := by
        rcases open_ints hs he hc h2 with ⟨hcs, _⟩ | ⟨ad, len, cap, zs, hcs, _⟩
        · injection hcs with hcs _; exact ⟨_, _, _, hcs⟩
        · injection hcs with hcs _; exact ⟨_, _, _, hcs⟩
      rw [hV] at h1 h2
      obtain ⟨bs, hr, hsm, hle, hmx, hd, hbl⟩ := open_bytes hs he hc h2
      subst hbl
      exact ⟨bs, A', c', h1, hr, hsm, by unfold maxLen at hmx; omega, hd⟩
    obtain ⟨F, hF⟩ := choose_lt (α := List Nat) each
    refine ⟨(List.range n).map F, ⟨by simp, fun k hk => ?_⟩, hl, hm, ?_⟩
    · have hk' : k < n := by simpa using hk
      obtain ⟨A', c', h1, h2, h3, h4, _⟩ := hF k hk'
      refine ⟨ad, A', c', rfl, ?_, by simpa using h1, by simpa using h2, by simpa using h3, by simpa using h4⟩
      have := World.block_lt_of_cell? w _ h1
      rwa [block_of_add] at this
    · show List.map List.length (List.map F (List.range n)) = List.map (fun d => (elems d).length) (List.map D (List.range n))
      rw [List.map_map, List.map_map]
      refine List.map_congr_left fun i hi => ?_
      obtain ⟨A', c', _, _, _, _, h5⟩ := hF i (by simpa using hi)
      exact h5.symm
end

/-! ### What a bound on the bulk gives -/
theorem bulk_one {H : Type} (d : DataW H) : 1 ≤ Rows.uptoBulk d := by
  cases d with
  | lit l => cases l <;> simp [Rows.uptoBulk]
  | nil => simp [Rows.uptoBulk]
  | ptr d => simp [Rows.uptoBulk]
  | slice elems spare => simp [Rows.uptoBulk]
  | agg parts => simp [Rows.uptoBulk]
  | iface t d => simp [Rows.uptoBulk]
  | map entries => simp [Rows.uptoBulk]
  | held h => simp [Rows.uptoBulk]
theorem bulk_length {H : Type} (l : List (DataW H)) : l.length ≤ Rows.uptoBulkAll l := by
  induction l with
  | nil => simp [Rows.uptoBulkAll]
  | cons x r ih => have := bulk_one x; simp only [Rows.uptoBulkAll, List.length_cons]; omega
theorem bulk_elems {H : Type} (d : DataW H) : (elems d).length + 1 ≤ Rows.uptoBulk d := by
  cases d with
  | slice l r => have := bulk_length l; simp only [elems, Rows.uptoBulk]; omega
  | _ => simp only [elems, List.length_nil]; exact bulk_one _
theorem bulk_sum {H : Type} (l : List (DataW H)) : (l.map fun d => (elems d).length).sum + l.length ≤ Rows.uptoBulkAll l := by
  induction l with
  | nil => simp [Rows.uptoBulkAll]
  | cons x r ih =>
    have := bulk_elems x
    simp only [List.map_cons, List.sum_cons, List.length_cons, Rows.uptoBulkAll]
    omega
theorem bulk_elems2 {H : Type} (d : DataW H) : ((elems d).map fun e => (elems e).length).sum + (elems d).length + 1 ≤ Rows.uptoBulk d := by
  cases d with
  | slice l r =>
    have := bulk_sum l
    show (l.map fun e => (elems e).length).sum + l.length + 1 ≤ Rows.uptoBulkAll l + Rows.uptoBulkAll r + 1
    omega
  | _ => show 0 + 0 + 1 ≤ _; exact bulk_one _

section
variable {H : Type} {enc : TypeId × Value → H} {P : Program} {w : World} {base : Nat} {sp : Nat → Bool} {held : Bool}
theorem okWide_arr {t e : TypeId} {n : Nat} {r : Reach} {b0 : Nat} {v : Value} (ht : P.underlying t = some (.array n e)) (h : Value.okWide P w r b0 t v) : ∃ cs, v = .agg cs ∧ cs.size = P.cellsOf t := by
  simp only [Value.okWide, ht] at h
  obtain ⟨cs, h1, h2, _⟩ := h
  exact ⟨cs, h1, h2⟩
/-- An array of elements of one cell that came in by value. -/
theorem open_arr {t e fuel n : Nat} {cs : List Value} {x : DataW H × List MemPlace} (ht : P.underlying t = some (.array n e)) (hc : P.cellsOf e = 1) (hct : P.cellsOf t = n)
    (h : DataW.trod enc P w base sp held fuel t cs = some x) : cs.length = n ∧ ∀ i (hi : i < cs.length), ∃ m y, DataW.trod enc P w base sp held m e [cs[i]] = some y := by
  obtain ⟨xs, m, _, _, hlen, hl, hel⟩ := DataW.trod_array ht h
  rw [hct] at hlen
  refine ⟨hlen, fun i hi => ?_⟩
  have := hel i (by omega)
  rw [hc, Nat.mul_one, List.getElem?_eq_getElem (show i < xs.length by omega)] at this
  rw [List.drop_eq_getElem_cons hi, List.take_succ_cons, List.take_zero] at this
  exact ⟨m, _, this⟩
theorem open_int_cell {t m : Nat} {k : IntKind} {u : Value} {y : DataW H × List MemPlace} (ht : P.underlying t = some (.int k)) (h : DataW.trod enc P w base sp held m t [u] = some y) : ∃ z, u = .int k z ∧ (Lit.int k z).wf = true := by
  obtain ⟨z, h1, _, h2⟩ := DataW.trod_int ht h
  simp at h1
  exact ⟨z, h1, h2⟩
theorem open_bytes_cell {t e m : Nat} {u : Value} {y : DataW H × List MemPlace} (ht : P.underlying t = some (.slice e)) (he : P.underlying e = some (.int .u8)) (hc : P.cellsOf e = 1)
    (h : DataW.trod enc P w base sp held m t [u] = some y) : ∃ a n c bs, u = .slice a n c ∧ Reads w w.heap.size 1 a n (byts bs) ∧ Small bs ∧ n ≤ c ∧ c ≤ maxLen ∧ bs.length = n := by
  obtain ⟨a, n, c, rfl⟩ : ∃ a n c, u = .slice a n c := by
    rcases open_ints ht he hc h with ⟨hcs, _⟩ | ⟨ad, len, cap, zs, hcs, _⟩
    · injection hcs with hcs _; exact ⟨_, _, _, hcs⟩
    · injection hcs with hcs _; exact ⟨_, _, _, hcs⟩
  obtain ⟨bs, hr, hsm, hle, hmx, _, hbl⟩ := open_bytes ht he hc h
  exact ⟨a, n, c, bs, rfl, hr, hsm, hle, hmx, hbl⟩
end

/-- Are a struct's fields of one cell each, one behind the other? -/
def oneCells (P : Program) (fs : Array Field) : Bool := (List.range fs.size).all fun i => match fs[i]? with
  | some f => f.offset == i && P.cellsOf f.type == 1
  | none => false
section
variable {H : Type} {enc : TypeId × Value → H} {P : Program} {w : World} {base : Nat} {sp : Nat → Bool} {held : Bool}
/-- A struct whose fields are of one cell each. -/
theorem open_fields {t fuel : Nat} {fs : Array Field} {cs : List Value} {x : DataW H × List MemPlace} (ht : P.underlying t = some (.struct fs)) (h1 : oneCells P fs = true) (hct : P.cellsOf t = fs.size)
    (h : DataW.trod enc P w base sp held fuel t cs = some x) : cs.length = fs.size ∧ ∃ ys : List (DataW H × List MemPlace), x.1 = .agg (ys.map (·.1)) ∧ ys.length = fs.size ∧
      ∀ i (f : Field) (hi : i < cs.length), fs[i]? = some f → ∃ m y, ys[i]? = some y ∧ DataW.trod enc P w base sp held m f.type [cs[i]] = some y := by
  obtain ⟨xs, n, _, rfl, hl, hlen, hf⟩ := DataW.trod_struct ht h
  rw [hct] at hl
  refine ⟨hl, xs, rfl, hlen, fun i f hi hfi => ?_⟩
  have h2 := List.all_eq_true.1 h1 i (by simp; omega)
  simp only [hfi, Bool.and_eq_true, beq_iff_eq] at h2
  have h3 := hf i f hfi
  rw [h2.1, h2.2, List.getElem?_eq_getElem (show i < xs.length by omega)] at h3
  rw [List.drop_eq_getElem_cons hi, List.take_succ_cons, List.take_zero] at h3
  exact ⟨n, xs[i], List.getElem?_eq_getElem _, h3⟩
theorem open_bool_cell {t m : Nat} {u : Value} {y : DataW H × List MemPlace} (ht : P.underlying t = some .bool) (h : DataW.trod enc P w base sp held m t [u] = some y) : ∃ z, u = .bool z := by
  obtain ⟨z, h1, _⟩ := DataW.trod_bool ht h
  simp at h1
  exact ⟨z, h1⟩
theorem bulk_part {H : Type} (ys : List (DataW H)) (y : DataW H) (h : y ∈ ys) : Rows.uptoBulk y ≤ Rows.uptoBulkAll ys := by
  induction ys with
  | nil => cases h
  | cons x r ih =>
    simp only [Rows.uptoBulkAll]
    rcases List.mem_cons.1 h with rfl | h
    · omega
    · have := ih h; omega
/-- What the sizes say of a slice's length. -/
theorem weight_elems {H : Type} {P : Program} {t e R : Nat} {d : DataW H} (ht : P.underlying t = some (.slice e)) (hb : P.bytesOf e = 1) (h : ∀ m ∈ d.weights P t, m ≤ R) : (elems d).length ≤ R := by
  cases d with
  | slice l r =>
    have := h ((l.length + r.length) * P.bytesOf e) (by simp [DataW.weights, ht])
    rw [hb] at this
    show l.length ≤ R
    omega
  | _ => exact Nat.zero_le _
theorem weight_arg {H : Type} {P : Program} {ts : List TypeId} {ds : List (DataW H)} (h : (DataW.weightsEach P ts ds).all (· ≤ reachBytes) = true) {j : Nat} {t : TypeId} {d : DataW H} (ht : ts[j]? = some t) (hd : ds[j]? = some d) : ∀ m ∈ d.weights P t, m ≤ reachBytes := by
  intro m hm
  have := List.all_eq_true.1 h m (DataW.weights_mem_each ht hd m hm)
  simpa using this
/-- A struct of a number, a signed one, a flag and bytes. -/
theorem open_things {t t0 t1 t2 t3 e fuel : Nat} {fs : Array Field} {cs : Array Value} {x : DataW H × List MemPlace} (ht : P.underlying t = some (.struct fs)) (h1 : oneCells P fs = true) (hct : P.cellsOf t = fs.size)
    (hft : fs.toList.map (·.type) = [t0, t1, t2, t3]) (u0 : P.underlying t0 = some (.int .u64)) (u1 : P.underlying t1 = some (.int .i64)) (u2 : P.underlying t2 = some .bool) (u3 : P.underlying t3 = some (.slice e)) (he : P.underlying e = some (.int .u8)) (hc : P.cellsOf e = 1)
    (h : DataW.trod enc P w base sp held fuel t cs.toList = some x) : ∃ (N : Nat) (S : Int) (F : Bool) (A : Option Addr) (n c : Nat) (bs : List Nat), cs = #[.int .u64 N, .int .i64 S, .bool F, .slice A n c] ∧ N < 18446744073709551616 ∧ -9223372036854775808 ≤ S ∧ S ≤ 9223372036854775807 ∧
      Reads w w.heap.size 1 A n (byts bs) ∧ Small bs ∧ n ≤ c ∧ c ≤ maxLen ∧ bs.length = n ∧ n ≤ Rows.uptoBulk x.1 ∧ (P.bytesOf e = 1 → ∀ R, (∀ m ∈ x.1.weights P t, m ≤ R) → n ≤ R) := by
  have hsz : fs.size = 4 := by have := congrArg List.length hft; simpa using this
  obtain ⟨hl, ys, hx, hyl, hf⟩ := open_fields ht h1 hct h
  rw [hsz] at hl hyl
  have ft : ∀ i (hi : i < 4), ∃ f, fs[i]? = some f ∧ f.type = [t0, t1, t2, t3][i]'hi := by
    intro i hi
    refine ⟨fs[i]'(by omega), Array.getElem?_eq_getElem _, ?_⟩
    simp only [← hft]
    simp
  obtain ⟨f0, g0, e0⟩ := ft 0 (by omega)
  obtain ⟨f1, g1, e1⟩ := ft 1 (by omega)
  obtain ⟨f2, g2, e2⟩ := ft 2 (by omega)
  obtain ⟨f3, g3, e3⟩ := ft 3 (by omega)
  obtain ⟨m0, y0, _, r0⟩ := hf 0 f0 (by omega) g0
  obtain ⟨m1, y1, _, r1⟩ := hf 1 f1 (by omega) g1
  obtain ⟨m2, y2, _, r2⟩ := hf 2 f2 (by omega) g2
  obtain ⟨m3, y3, q3, r3⟩ := hf 3 f3 (by omega) g3
  rw [show f0.type = t0 from e0] at r0
  rw [show f1.type = t1 from e1] at r1
  rw [show f2.type = t2 from e2] at r2
  rw [show f3.type = t3 from e3] at r3
  obtain ⟨N, hN, wN⟩ := open_int_cell u0 r0
  obtain ⟨S, hS, wS⟩ := open_int_cell u1 r1
  obtain ⟨F, hF⟩ := open_bool_cell u2 r2
  obtain ⟨A, n, c, hA⟩ : ∃ a n c, cs.toList[3]'(by omega) = .slice a n c := by
    obtain ⟨a, n, c, bs, h4, _⟩ := open_bytes_cell u3 he hc r3
    exact ⟨a, n, c, h4⟩
  rw [hA] at r3
  obtain ⟨bs, hr, hsm, hle, hmx, hel, hbl⟩ := open_bytes u3 he hc r3
  simp [Lit.wf, IntKind.min, IntKind.max, IntKind.signed, IntKind.bits] at wN wS
  have hb : n ≤ Rows.uptoBulk x.1 := by
    have h5 := bulk_part (ys.map (·.1)) y3.1 (List.mem_map_of_mem (List.mem_of_getElem? q3))
    have h6 := bulk_elems y3.1
    rw [hx]
    simp only [Rows.uptoBulk]
    omega
  have hwt : P.bytesOf e = 1 → ∀ R, (∀ m ∈ x.1.weights P t, m ≤ R) → n ≤ R := by
    intro hb1 R hR
    rw [← hel]
    refine weight_elems u3 hb1 (fun m hm => hR m ?_)
    rw [hx]
    simp only [DataW.weights, ht]
    exact DataW.weights_mem_each (j := 3) (by rw [hft]; rfl) (by rw [List.getElem?_map, q3]; rfl) m hm
  refine ⟨N.toNat, S, F, A, n, c, bs, ?_, by omega, by omega, by omega, hr, hsm, hle, hmx, hbl, hb, hwt⟩
  apply Array.ext'
  apply List.ext_getElem (by simpa using hl)
  intro i h1 h2
  rcases (show i = 0 ∨ i = 1 ∨ i = 2 ∨ i = 3 by simp at h2; omega) with rfl | rfl | rfl | rfl
  · rw [hN]; show Value.int .u64 N = .int .u64 _; rw [Int.toNat_of_nonneg (by omega)]
  · exact hS
  · exact hF
  · exact hA
end

theorem weights_all_mem {H : Type} {P : Program} {e : TypeId} : ∀ {l : List (DataW H)} {d : DataW H}, d ∈ l → ∀ m ∈ d.weights P e, m ∈ DataW.weightsAll P e l
  | x :: r, d, hd, m, hm => by
    simp only [DataW.weightsAll, List.mem_append]
    rcases List.mem_cons.1 hd with rfl | h
    · exact .inl hm
    · exact .inr (weights_all_mem h m hm)
section
variable {H : Type} {enc : TypeId × Value → H} {P : Program} {w : World} {base : Nat} {sp : Nat → Bool} {held : Bool}
/-- An array of elements of one cell that came in by value, with its sizes. -/
theorem open_arr_w {t e fuel n : Nat} {cs : List Value} {x : DataW H × List MemPlace} (ht : P.underlying t = some (.array n e)) (hc : P.cellsOf e = 1) (hct : P.cellsOf t = n)
    (h : DataW.trod enc P w base sp held fuel t cs = some x) : cs.length = n ∧ ∀ i (hi : i < cs.length), ∃ m y, DataW.trod enc P w base sp held m e [cs[i]] = some y ∧ ∀ q ∈ y.1.weights P e, q ∈ x.1.weights P t := by
  obtain ⟨xs, m, _, hx, hlen, hl, hel⟩ := DataW.trod_array ht h
  rw [hct] at hlen
  refine ⟨hlen, fun i hi => ?_⟩
  have h2 := hel i (by omega)
  rw [hc, Nat.mul_one, List.getElem?_eq_getElem (show i < xs.length by omega)] at h2
  rw [List.drop_eq_getElem_cons hi, List.take_succ_cons, List.take_zero] at h2
  refine ⟨m, _, h2, fun q hq => ?_⟩
  rw [hx]
  simp only [DataW.weights, ht]
  exact weights_all_mem (List.mem_map_of_mem (List.getElem_mem _)) q hq
theorem open_bytes_cell_w {t e m : Nat} {u : Value} {y : DataW H × List MemPlace} (ht : P.underlying t = some (.slice e)) (he : P.underlying e = some (.int .u8)) (hc : P.cellsOf e = 1) (hb : P.bytesOf e = 1)
    (h : DataW.trod enc P w base sp held m t [u] = some y) : ∃ a n c bs, u = .slice a n c ∧ Reads w w.heap.size 1 a n (byts bs) ∧ Small bs ∧ n ≤ c ∧ c ≤ maxLen ∧ bs.length = n ∧ ∀ R, (∀ q ∈ y.1.weights P t, q ≤ R) → n ≤ R := by
  obtain ⟨a, n, c, rfl⟩ : ∃ a n c, u = .slice a n c := by
    rcases open_ints ht he hc h with ⟨hcs, _⟩ | ⟨ad, len, cap, zs, hcs, _⟩
    · injection hcs with hcs _; exact ⟨_, _, _, hcs⟩
    · injection hcs with hcs _; exact ⟨_, _, _, hcs⟩
  obtain ⟨bs, hr, hsm, hle, hmx, hel, hbl⟩ := open_bytes ht he hc h
  exact ⟨a, n, c, bs, rfl, hr, hsm, hle, hmx, hbl, fun R hR => by rw [← hel]; exact weight_elems ht hb hR⟩
end

end Go.Proofs.Ytbbjbbcakfmpgaa
