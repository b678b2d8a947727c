/- A slice of structs of two texts, of whatever size the machine holds: how it is opened in the first form of a row. -/
import Derived.Test.YtiijgbgknolmcaaDoorOpen
import Derived.SizedLaws
namespace Go.Proofs.YtiijgbgknolmcaaDoor
open Go.ChangeShapes Go.WideShapes Go.Deep Go.RowKit Go.Joins
theorem weights_mem_all {H : Type} {P : Program} {e : TypeId} : ∀ {l : List (DataW H)} {x : DataW H}, x ∈ l → ∀ n ∈ x.weights P e, n ∈ DataW.weightsAll P e l
  | y :: l, x, hx, n, hn => by
    rw [DataW.weightsAll]
    rcases List.mem_cons.1 hx with rfl | hx
    · exact List.mem_append_left _ hn
    · exact List.mem_append_right _ (weights_mem_all hx n hn)
/-- What the size rule says of a slice of structs of two texts. -/
theorem sized_ss {H : Type} {P : Program} {ts : List TypeId} {ds : List (DataW H)} (h : (DataW.weightsEach P ts ds).all (· ≤ reachBytes) = true) {j : Nat} {t e : TypeId} {f0 f1 : Field} {es sp : List (DataW H)} (ht : ts[j]? = some t) (hd : ds[j]? = some (.slice es sp)) (hu : P.underlying t = some (.slice e)) (he : P.underlying e = some (.struct #[f0, f1])) :
    ∀ x ∈ es, ∀ b0 b1, x = .agg [.lit (.string b0), .lit (.string b1)] → b0.length ≤ 140737488351232 ∧ b1.length ≤ 140737488351232 := by
  intro x hx b0 b1 hxe
  have hm : ∀ n ∈ x.weights P e, n ≤ reachBytes := fun n hn => by
    have := List.all_eq_true.1 h _ (DataW.weights_mem_each ht hd n (by
      rw [DataW.weights, hu]
      exact List.mem_cons_of_mem _ (List.mem_append_left _ (weights_mem_all hx n hn))))
    simpa using this
  subst hxe
  simp only [DataW.weights, he, DataW.weightsEach] at hm
  have h0 := hm b0.length (by simp [DataW.weightsEach, DataW.weights])
  have h1 := hm b1.length (by simp [DataW.weightsEach, DataW.weights])
  simp only [reachBytes] at h0 h1
  exact ⟨h0, h1⟩
theorem sized_ts {H : Type} {P : Program} {ts : List TypeId} {ds : List (DataW H)} (h : (DataW.weightsEach P ts ds).all (· ≤ reachBytes) = true) {j : Nat} {t e : TypeId} {es sp : List (DataW H)} (ht : ts[j]? = some t) (hd : ds[j]? = some (.slice es sp)) (hu : P.underlying t = some (.slice e)) :
    ∀ x ∈ es, ∀ b0, x = .lit (.string b0) → b0.length ≤ 140737488351232 := by
  intro x hx b0 hxe
  have := List.all_eq_true.1 h _ (DataW.weights_mem_each ht hd b0.length (by
    rw [DataW.weights, hu]
    exact List.mem_cons_of_mem _ (List.mem_append_left _ (weights_mem_all hx _ (by rw [hxe]; simp [DataW.weights])))))
  have h2 : b0.length ≤ reachBytes := by simpa using this
  simpa only [reachBytes] using h2
/-- A slice of texts, of whatever size the machine holds. -/
theorem open_textsr {H : Type} {P : Program} {enc : TypeId × Value → H} {w : World} {base : Nat} {spare : Nat → Bool} {held : Bool} {r : Reach} {b0 n : Nat} {t e : TypeId} {v : Value} {d : DataW H} {p : List MemPlace} (ht : P.underlying t = some (.slice e)) (he : P.underlying e = some .string) (hC : P.cellsOf e = 1)
    (hv : Value.okWide P w r b0 t v) (h : DataW.Trod enc P w base spare held t v d p) (hb : ∀ es sp, d = .slice es sp → (es.length + sp.length) * n ≤ 140737488351232) (hin : ∀ es sp, d = .slice es sp → ∀ x ∈ es, ∀ b0, x = .lit (.string b0) → b0.length ≤ 140737488351232) :
    ∃ xs : List ByteArray, SlR w es v xs ∧ xs.length * n ≤ 140737488351232 ∧ ∀ s ∈ xs, s.size ≤ 140737488351232 := by
  obtain ⟨A, len, cap, rfl⟩ := okWide_slice ht hv
  obtain ⟨fuel, hf⟩ := h
  rcases open_slice ht hf with ⟨hcs, _⟩ | ⟨a, len', cap', m, n', D, Pl, hcs, _, hl, hm, hmm, hx, hi⟩
  · simp [Value.cells] at hcs
    obtain ⟨rfl, rfl, rfl⟩ := hcs
    exact ⟨[], SlR.nil _ _, by simp, by simp⟩
  · simp [Value.cells] at hcs
    obtain ⟨rfl, rfl, rfl⟩ := hcs
    have hlm : len ≤ m := by rw [hmm]; split <;> omega
    obtain ⟨xs, hxl, hs, hR⟩ := slr_of (w := w) (en := es) (size := 1) (a := a) (len := len) (cap := cap) (fun i x => D i = .lit (.string x.data.toList)) (fun _ => rfl) hl (by omega) (fun i hi' => by
      obtain ⟨cs', hc, ht'⟩ := hi i (by omega)
      rw [hC] at hc
      obtain ⟨_, hcl, hat⟩ := World.cells?_some hc
      obtain ⟨s, e0, hy, hz⟩ := DataW.trod_string he ht'
      refine ⟨s, fun j u hu => ?_, ?_⟩
      · have hj : j = 0 := by
          rcases Nat.eq_zero_or_pos j with h0 | h0
          · exact h0
          · rw [List.getElem?_eq_none (by simp [es]; omega)] at hu; cases hu
        subst hj
        have hu' : u = .string s := by simpa [es] using hu.symm
        subst hu'
        have := hat 0 (by omega)
        rw [e0] at this
        rw [← Go.Deep.add_add, hC] at *
        simpa using this
      · simp only [Prod.mk.injEq] at hy
        rw [hy.1])
    refine ⟨xs, hs, ?_, fun s hs' => ?_⟩
    · have := hb _ _ (congrArg Prod.fst hx)
      simp only [List.length_map, List.length_range] at this
      subst hxl
      exact Nat.le_trans (Nat.mul_le_mul_right _ (Nat.le_add_right _ _)) this
    · obtain ⟨i, hi', rfl⟩ := List.mem_iff_getElem.1 hs'
      have hDi := hR i hi'
      have := hin _ _ (congrArg Prod.fst hx) (D i) (List.mem_map.2 ⟨i, List.mem_range.2 (by omega), rfl⟩) _ hDi
      simp only [Array.length_toList] at this
      exact this
theorem open_ssr {H : Type} {P : Program} {enc : TypeId × Value → H} {w : World} {base : Nat} {spare : Nat → Bool} {held : Bool} {r : Reach} {b0 n : Nat} {t e : TypeId} {f0 f1 : Field} {v : Value} {d : DataW H} {p : List MemPlace} (ht : P.underlying t = some (.slice e)) (he : P.underlying e = some (.struct #[f0, f1])) (hone : oneCellFields P #[f0, f1] = true) (hC : P.cellsOf e = 2)
    (h0 : P.underlying f0.type = some .string) (h1 : P.underlying f1.type = some .string) (hv : Value.okWide P w r b0 t v) (h : DataW.Trod enc P w base spare held t v d p) (hb : ∀ es sp, d = .slice es sp → (es.length + sp.length) * n ≤ 140737488351232)
    (hin : ∀ es sp, d = .slice es sp → ∀ x ∈ es, ∀ b0 b1, x = .agg [.lit (.string b0), .lit (.string b1)] → b0.length ≤ 140737488351232 ∧ b1.length ≤ 140737488351232) :
    ∃ xs : List (ByteArray × ByteArray), SlR w e_ss v xs ∧ xs.length * n ≤ 140737488351232 ∧ ∀ d ∈ xs, d.1.size ≤ 140737488351232 ∧ d.2.size ≤ 140737488351232 := by
  obtain ⟨A, len, cap, rfl⟩ := okWide_slice ht hv
  obtain ⟨fuel, hf⟩ := h
  rcases open_slice_fields ht he hone hC hf with ⟨hcs, _⟩ | ⟨a, len', cap', m, D, Pl, hcs, _, hl, hm, hmm, hx, hi⟩
  · simp [Value.cells] at hcs
    obtain ⟨rfl, rfl, rfl⟩ := hcs
    exact ⟨[], SlR.nil _ _, by simp, by simp⟩
  · simp [Value.cells] at hcs
    obtain ⟨rfl, rfl, rfl⟩ := hcs
    have hlm : len ≤ m := by rw [hmm]; split <;> omega
    obtain ⟨xs, hxl, hs, hR⟩ := slr_of (w := w) (en := e_ss) (size := 2) (a := a) (len := len) (cap := cap) (fun i d => D i = .agg [.lit (.string d.1.data.toList), .lit (.string d.2.data.toList)]) (fun _ => rfl) hl (by omega) (fun i hi' => by
      obtain ⟨ys, n', hD, _, hyl, hfl⟩ := hi i (by omega)
      obtain ⟨v0, y0, c0, g0, t0⟩ := hfl 0 f0 rfl
      obtain ⟨v1, y1, c1, g1, t1⟩ := hfl 1 f1 rfl
      obtain ⟨x0, e0, z0, _⟩ := DataW.trod_string h0 t0
      obtain ⟨x1, e1, z1, _⟩ := DataW.trod_string h1 t1
      simp only [List.cons.injEq, and_true] at e0 e1
      subst e0 e1 z0 z1
      have hys : ys = [_, _] := List.ext_getElem? (l₂ := [(DataW.lit (.string x0.data.toList), []), (DataW.lit (.string x1.data.toList), [])]) (fun j => by
        match j with
        | 0 => exact g0
        | 1 => exact g1
        | j + 2 => rw [List.getElem?_eq_none (by rw [hyl]; simp), List.getElem?_eq_none (by simp)])
      refine ⟨(x0, x1), fun j u hu => ?_, ?_⟩
      · match j, hu with
        | 0, hu => simp only [e_ss, List.getElem?_cons_zero, List.getElem?_cons_succ, Option.some.injEq] at hu; subst hu; exact c0
        | 1, hu => simp only [e_ss, List.getElem?_cons_zero, List.getElem?_cons_succ, Option.some.injEq] at hu; subst hu; exact c1
        | j + 2, hu => simp [e_ss] at hu
      · rw [hD, hys]; rfl)
    refine ⟨xs, hs, ?_, fun d hd => ?_⟩
    · have := hb _ _ (congrArg Prod.fst hx)
      simp only [List.length_map, List.length_range] at this
      subst hxl
      exact Nat.le_trans (Nat.mul_le_mul_right _ (Nat.le_add_right _ _)) this
    · obtain ⟨i, hi', rfl⟩ := List.mem_iff_getElem.1 hd
      have hDi := hR i hi'
      have := hin _ _ (congrArg Prod.fst hx) (D i) (List.mem_map.2 ⟨i, List.mem_range.2 (by omega), rfl⟩) _ _ hDi
      simp only [Array.length_toList] at this
      exact this
end Go.Proofs.YtiijgbgknolmcaaDoor
