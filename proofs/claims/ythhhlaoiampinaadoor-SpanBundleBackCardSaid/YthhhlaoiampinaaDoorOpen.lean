/- What comes in, opened: structs by value, slices of texts, slices of structs. Over any program. -/
import Derived.Test.YthhhlaoiampinaaDoorBase
import Derived.ProofKit
import Derived.OpenShut
import Derived.SliceStrings
import Derived.Deep.Slices
import Derived.Deep.Fields
import Derived.ChangeSame
import Derived.SizedLaws
import Derived.Lib.SmallJoins
namespace Go.Proofs.YthhhlaoiampinaaDoor
open Go.ChangeShapes Go.WideShapes Go.Deep Go.RowKit Go.Joins

section
variable {H : Type} {enc : TypeId × Value → H} {P : Program} {w : World} {base : Nat} {spare : Nat → Bool} {held : Bool}

/-- A bool and a text. -/
theorem open_bs {r : Reach} {b0 : Nat} {t : TypeId} {f0 f1 : Field} {v : Value} {d : DataW H} {p : List MemPlace} (hs : P.underlying t = some (.struct #[f0, f1])) (hone : oneCellFields P #[f0, f1] = true) (hC : P.cellsOf t = 2)
    (h0 : P.underlying f0.type = some .bool) (h1 : P.underlying f1.type = some .string)
    (hv : Value.okWide P w r b0 t v) (h : DataW.Trod enc P w base spare held t v d p) : ∃ (b : Bool) (s : ByteArray), v = .agg #[.bool b, .string s] ∧ s.size ≤ maxLen := by
  obtain ⟨v0, v1, y0, y1, n, rfl, _, _, g0, g1⟩ := open_agg2 hs hone hC hv h
  obtain ⟨b, e0, _⟩ := DataW.trod_bool h0 g0
  obtain ⟨s, e1, _, hz⟩ := DataW.trod_string h1 g1
  simp at e0 e1
  subst e0 e1
  exact ⟨b, s, rfl, hz⟩

/-- Two numbers. -/
theorem open_ii {r : Reach} {b0 : Nat} {t : TypeId} {k0 k1 : IntKind} {f0 f1 : Field} {v : Value} {d : DataW H} {p : List MemPlace} (hs : P.underlying t = some (.struct #[f0, f1])) (hone : oneCellFields P #[f0, f1] = true) (hC : P.cellsOf t = 2)
    (h0 : P.underlying f0.type = some (.int k0)) (h1 : P.underlying f1.type = some (.int k1))
    (hv : Value.okWide P w r b0 t v) (h : DataW.Trod enc P w base spare held t v d p) : ∃ (a b : Int), v = .agg #[.int k0 a, .int k1 b] ∧ (Lit.int k0 a).wf = true ∧ (Lit.int k1 b).wf = true := by
  obtain ⟨v0, v1, y0, y1, n, rfl, _, _, g0, g1⟩ := open_agg2 hs hone hC hv h
  obtain ⟨a, e0, _, w0⟩ := DataW.trod_int h0 g0
  obtain ⟨b, e1, _, w1⟩ := DataW.trod_int h1 g1
  simp at e0 e1
  subst e0 e1
  exact ⟨a, b, rfl, w0, w1⟩

/-- A slice of structs, field by field. -/
theorem open_slice_fields {t e : TypeId} {fs : Array Field} {fuel : Nat} {cs : List Value} {x : DataW H × List MemPlace} (ht : P.underlying t = some (.slice e)) (he : P.underlying e = some (.struct fs))
    (hone : oneCellFields P fs = true) (hC : P.cellsOf e = fs.size) (h : DataW.trod enc P w base spare held fuel t cs = some x) :
    (cs = [.slice none 0 0] ∧ x = (.nil, [])) ∨
    ∃ (a : Addr) (len cap m : Nat) (D : Nat → DataW H) (Pl : Nat → List MemPlace), cs = [.slice (some a) len cap] ∧ base ≤ a.block ∧ len ≤ cap ∧ cap ≤ maxLen ∧ m = (if spare a.block then cap else len) ∧
      x = (.slice ((List.range len).map D) ((List.range (m - len)).map fun j => D (len + j)), MemPlace.row a (m * fs.size) ++ (List.range m).flatMap Pl) ∧
      ∀ i, i < m → ∃ (ys : List (DataW H × List MemPlace)) (n : Nat), D i = .agg (ys.map (·.1)) ∧ Pl i = ys.flatMap (·.2) ∧ ys.length = fs.size ∧
        ∀ (j : Nat) (f : Field), fs[j]? = some f → ∃ (v : Value) (y : DataW H × List MemPlace), w.cell? (a.add (i * fs.size + j)) = some v ∧ ys[j]? = some y ∧ DataW.trod enc P w base spare held n f.type [v] = some y := by
  rcases open_slice ht h with h0 | ⟨a, len, cap, m, n, D, Pl, hcs, hb, hl, hm, hmm, hx, hi⟩
  · exact .inl h0
  · refine .inr ⟨a, len, cap, m, D, Pl, hcs, hb, hl, hm, hmm, by rw [hC] at hx; exact hx, fun i him => ?_⟩
    obtain ⟨cs', hc, ht'⟩ := hi i him
    rw [hC] at hc
    obtain ⟨ys, n', hn', hy, hlen, hyl, hf⟩ := DataW.trod_struct he ht'
    obtain ⟨_, hcl, hat⟩ := World.cells?_some hc
    simp only [Prod.mk.injEq] at hy
    refine ⟨ys, n', hy.1, hy.2, hyl, fun j f hj => ?_⟩
    obtain ⟨ho, hk⟩ := hone_of hone j f hj
    have hjl : j < fs.size := (Array.getElem?_eq_some_iff.1 hj).1
    have hcell := hat j hjl
    have hv : cs'[j]? = some (cs'[j]'(by omega)) := List.getElem?_eq_getElem (by omega)
    have h1 := hf j f hj
    rw [ho, hk] at h1
    have hone' : (cs'.drop j).take 1 = [cs'[j]'(by omega)] := by
      rw [List.drop_eq_getElem_cons (by omega)]
      rfl
    rw [hone'] at h1
    have hys : ys[j]? = some (ys[j]'(by omega)) := List.getElem?_eq_getElem (by omega)
    refine ⟨_, _, ?_, hys, h1.trans hys⟩
    rw [← Go.Deep.add_add, hcell, hv]

/-- From what is known of every element to the list: 'SlR'. -/
theorem slr_of {α : Type} {en : α → List Value} {size : Nat} (R : Nat → α → Prop) (hen : ∀ x, (en x).length = size) {a : Addr} {len cap : Nat} (hlen : len ≤ cap) (hsz : 0 < size)
    (h : ∀ i, i < len → ∃ x : α, (∀ j u, (en x)[j]? = some u → w.cell? (a.add (i * size + j)) = some u) ∧ R i x) : ∃ xs : List α, xs.length = len ∧ SlR w en (.slice (some a) len cap) xs ∧ (∀ i (hi : i < xs.length), R i xs[i]) := by
  have : ∃ xs : List α, xs.length = len ∧ (∀ i (hi : i < xs.length), (∀ j u, (en xs[i])[j]? = some u → w.cell? (a.add (i * size + j)) = some u) ∧ R i xs[i]) := by
    clear hlen
    induction len with
    | zero => exact ⟨[], rfl, fun i hi => by simp at hi⟩
    | succ n ih =>
      obtain ⟨xs, hl, hx⟩ := ih (fun i hi => h i (by omega))
      obtain ⟨x, hx'⟩ := h n (by omega)
      refine ⟨xs ++ [x], by simp [hl], fun i hi => ?_⟩
      by_cases hi' : i < xs.length
      · rw [List.getElem_append_left hi']; exact hx i hi'
      · have : i = n := by simp at hi; omega
        subst this
        rw [List.getElem_append_right (by omega)]
        simpa [hl] using hx'
  obtain ⟨xs, hl, hx⟩ := this
  refine ⟨xs, hl, ?_, fun i hi => (hx i hi).2⟩
  subst hl
  refine ⟨_, cap, rfl, hlen, fun hn => ?_⟩
  have flat : ∀ (ys : List α) j, (ys.flatMap en)[j]? = (ys[j / size]?).bind fun y => (en y)[j % size]? := by
    intro ys
    induction ys with
    | nil => intro j; simp
    | cons y ys ih =>
      intro j
      rw [List.flatMap_cons, List.getElem?_append, hen y]
      by_cases hj : j < size
      · rw [if_pos hj, Nat.div_eq_of_lt hj, Nat.mod_eq_of_lt hj]; rfl
      · rw [if_neg hj, ih, show j = (j - size) + size from by omega, Nat.add_div_right _ hsz, Nat.add_mod_right]
        simp
  have hall : ∀ j u, (xs.flatMap en)[j]? = some u → w.cell? (a.add j) = some u := by
    intro j u hu
    rw [flat] at hu
    obtain ⟨y, hy, hu'⟩ := Option.bind_eq_some_iff.1 hu
    obtain ⟨hlt, rfl⟩ := List.getElem?_eq_some_iff.1 hy
    have := (hx (j / size) hlt).1 (j % size) u hu'
    rwa [Nat.div_add_mod' j size] at this
  obtain ⟨u0, hu0⟩ : ∃ u, (xs.flatMap en)[0]? = some u := by
    have : 0 < (xs.flatMap en).length := by
      cases xs with
      | nil => simp at hn
      | cons x xs => rw [List.flatMap_cons, List.length_append, hen x]; omega
    exact ⟨_, List.getElem?_eq_getElem this⟩
  have hc0 := hall 0 u0 hu0
  obtain ⟨b, off, spot⟩ := a
  have e0 : (⟨b, off, spot⟩ : Addr).add 0 = ⟨b, off, spot⟩ := by simp [Addr.add]
  rw [e0] at hc0
  have hspot : spot = none := by simpa using World.cell?_spot hc0
  subst hspot
  refine ⟨b, off, rfl, World.block_lt_of_cell? _ _ hc0, fun j u hu => ?_⟩
  have := hall j u hu
  have e : ((⟨b, off, none⟩ : Addr).add j) = ⟨b, off + j, none⟩ := by unfold Addr.add; split <;> simp_all
  rwa [e] at this
end
/-- A slice of structs of two ints, of whatever length the machine holds. -/
theorem open_iir {H : Type} {P : Program} {enc : TypeId × Value → H} {w : World} {base : Nat} {spare : Nat → Bool} {held : Bool} {r : Reach} {b0 n : Nat} {t e : TypeId} {f0 f1 : Field} {v : Value} {d : DataW H} {p : List MemPlace} (ht : P.underlying t = some (.slice e)) (he : P.underlying e = some (.struct #[f0, f1])) (hone : oneCellFields P #[f0, f1] = true) (hC : P.cellsOf e = 2)
    (h0 : P.underlying f0.type = some (.int .i64)) (h1 : P.underlying f1.type = some (.int .i64)) (hv : Value.okWide P w r b0 t v) (h : DataW.Trod enc P w base spare held t v d p) (hb : ∀ es sp, d = .slice es sp → (es.length + sp.length) * n ≤ 140737488351232) : ∃ xs : List (Int × Int), SlR w e_ii v xs ∧ xs.length * n ≤ 140737488351232 ∧ ∀ d ∈ xs, (Lit.int .i64 d.1).wf = true ∧ (Lit.int .i64 d.2).wf = true := by
  obtain ⟨A, len, cap, rfl⟩ := okWide_slice ht hv
  obtain ⟨fuel, hf⟩ := h
  rcases open_slice_fields ht he hone hC hf with ⟨hcs, _⟩ | ⟨a, len', cap', m, D, Pl, hcs, _, hl, hm, hmm, hx, hi⟩
  · simp [Value.cells] at hcs
    obtain ⟨rfl, rfl, rfl⟩ := hcs
    exact ⟨[], SlR.nil _ _, by simp, by simp⟩
  · simp [Value.cells] at hcs
    obtain ⟨rfl, rfl, rfl⟩ := hcs
    have hlm : len ≤ m := by rw [hmm]; split <;> omega
    obtain ⟨xs, hxl, hs, hR⟩ := slr_of (w := w) (en := e_ii) (size := 2) (a := a) (len := len) (cap := cap) (fun i d => (Lit.int .i64 d.1).wf = true ∧ (Lit.int .i64 d.2).wf = true) (fun _ => rfl) hl (by omega) (fun i hi' => by
      obtain ⟨ys, n', hD, _, hyl, hfl⟩ := hi i (by omega)
      obtain ⟨v0, y0, c0, g0, t0⟩ := hfl 0 f0 rfl
      obtain ⟨v1, y1, c1, g1, t1⟩ := hfl 1 f1 rfl
      obtain ⟨x0, e0, z0, w0⟩ := DataW.trod_int h0 t0
      obtain ⟨x1, e1, z1, w1⟩ := DataW.trod_int h1 t1
      simp only [List.cons.injEq, and_true] at e0 e1
      subst e0 e1 z0 z1
      refine ⟨(x0, x1), fun j u hu => ?_, w0, w1⟩
      match j, hu with
      | 0, hu => simp only [e_ii, List.getElem?_cons_zero, List.getElem?_cons_succ, Option.some.injEq] at hu; subst hu; exact c0
      | 1, hu => simp only [e_ii, List.getElem?_cons_zero, List.getElem?_cons_succ, Option.some.injEq] at hu; subst hu; exact c1
      | j + 2, hu => simp [e_ii] at hu)
    refine ⟨xs, hs, ?_, fun d hd => ?_⟩
    · have := hb _ _ (congrArg Prod.fst hx)
      simp only [List.length_map, List.length_range] at this
      subst hxl
      exact Nat.le_trans (Nat.mul_le_mul_right _ (Nat.le_add_right _ _)) this
    · obtain ⟨i, hi', rfl⟩ := List.mem_iff_getElem.1 hd
      exact hR i (by omega)
end Go.Proofs.YthhhlaoiampinaaDoor
