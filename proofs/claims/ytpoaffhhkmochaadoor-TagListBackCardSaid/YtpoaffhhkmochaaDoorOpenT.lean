/- A slice of tags, of whatever size the machine holds. -/
import Derived.Test.YtpoaffhhkmochaaDoorOpenR
namespace Go.Proofs.YtpoaffhhkmochaaDoor
open Go.ChangeShapes Go.WideShapes Go.Deep Go.RowKit Go.Joins
theorem open_bsr {H : Type} {P : Program} {enc : TypeId × Value → H} {w : World} {base : Nat} {spare : Nat → Bool} {held : Bool} {r : Reach} {b0 n : Nat} {t e : TypeId} {f0 f1 : Field} {v : Value} {d : DataW H} {p : List MemPlace} (ht : P.underlying t = some (.slice e)) (he : P.underlying e = some (.struct #[f0, f1])) (hone : oneCellFields P #[f0, f1] = true) (hC : P.cellsOf e = 2)
    (h0 : P.underlying f0.type = some .bool) (h1 : P.underlying f1.type = some .string) (hv : Value.okWide P w r b0 t v) (h : DataW.Trod enc P w base spare held t v d p) (hb : ∀ es sp, d = .slice es sp → (es.length + sp.length) * n ≤ 140737488351232) :
    ∃ xs : List (Bool × ByteArray), SlR w e_bs v xs ∧ xs.length * n ≤ 140737488351232 ∧ ∀ d ∈ xs, d.2.size ≤ 9223372036854775807 := by
  obtain ⟨A, len, cap, rfl⟩ := okWide_slice ht hv
  obtain ⟨fuel, hf⟩ := h
  rcases open_slice_fields ht he hone hC hf with ⟨hcs, _⟩ | ⟨a, len', cap', m, D, Pl, hcs, _, hl, hm, hmm, hx, hi⟩
  · simp [Value.cells] at hcs
    obtain ⟨rfl, rfl, rfl⟩ := hcs
    exact ⟨[], SlR.nil _ _, by simp, by simp⟩
  · simp [Value.cells] at hcs
    obtain ⟨rfl, rfl, rfl⟩ := hcs
    have hlm : len ≤ m := by rw [hmm]; split <;> omega
    obtain ⟨xs, hxl, hs, hR⟩ := slr_of (w := w) (en := e_bs) (size := 2) (a := a) (len := len) (cap := cap) (fun _ d => d.2.size ≤ 9223372036854775807) (fun _ => rfl) hl (by omega) (fun i hi' => by
      obtain ⟨ys, n', hD, _, hyl, hfl⟩ := hi i (by omega)
      obtain ⟨v0, y0, c0, g0, t0⟩ := hfl 0 f0 rfl
      obtain ⟨v1, y1, c1, g1, t1⟩ := hfl 1 f1 rfl
      obtain ⟨x0, e0, z0⟩ := DataW.trod_bool h0 t0
      obtain ⟨x1, e1, z1, hz⟩ := DataW.trod_string h1 t1
      simp only [List.cons.injEq, and_true] at e0 e1
      subst e0 e1
      refine ⟨(x0, x1), fun j u hu => ?_, by simpa only [maxLen] using hz⟩
      match j, hu with
      | 0, hu => simp only [e_bs, List.getElem?_cons_zero, List.getElem?_cons_succ, Option.some.injEq] at hu; subst hu; exact c0
      | 1, hu => simp only [e_bs, List.getElem?_cons_zero, List.getElem?_cons_succ, Option.some.injEq] at hu; subst hu; exact c1
      | j + 2, hu => simp [e_bs] at hu)
    refine ⟨xs, hs, ?_, fun d hd => ?_⟩
    · have := hb _ _ (congrArg Prod.fst hx)
      simp only [List.length_map, List.length_range] at this
      subst hxl
      exact Nat.le_trans (Nat.mul_le_mul_right _ (Nat.le_add_right _ _)) this
    · obtain ⟨i, hi', rfl⟩ := List.mem_iff_getElem.1 hd
      exact hR i hi'
end Go.Proofs.YtpoaffhhkmochaaDoor
