/- Where what comes in is of bulk at most 1048576: slices opened, with bounds on what they hold. -/
import Derived.Test.YthhhlaoiampinaaRows
import Derived.Test.YthhhlaoiampinaaOpen
import Derived.Deep.CondSized
namespace Go.Proofs.Ythhhlaoiampinaa
open Go.ChangeShapes Go.WideShapes Go.Deep Go.RowKit Go.Joins
namespace Bulk
variable {H : Type}
theorem pos (d : DataW H) : 1 ≤ Rows.uptoBulk d := by
  cases d with
  | lit l => cases l <;> simp [Rows.uptoBulk]
  | _ => simp [Rows.uptoBulk]
theorem mem_le {d : DataW H} : ∀ {l : List (DataW H)}, d ∈ l → Rows.uptoBulk d ≤ Rows.uptoBulkAll l
  | x :: r, h => by
    simp only [Rows.uptoBulkAll]
    rcases List.mem_cons.1 h with rfl | h
    · omega
    · have := mem_le h; omega
theorem len_le : ∀ (l : List (DataW H)), l.length ≤ Rows.uptoBulkAll l
  | [] => by simp
  | x :: r => by have := len_le r; have := pos x; simp only [Rows.uptoBulkAll, List.length_cons]; omega
theorem small {l : List (DataW H)} (h : Rows.uptoSmall H l = true) : Rows.uptoBulkAll l ≤ 1048576 := of_decide_eq_true h
theorem of_mem {d : DataW H} {l : List (DataW H)} (h : Rows.uptoSmall H l = true) (hm : d ∈ l) : Rows.uptoBulk d ≤ 1048576 := Nat.le_trans (mem_le hm) (small h)
theorem str (l : List UInt8) : Rows.uptoBulk (DataW.lit (H := H) (.string l)) = l.length + 1 := by simp [Rows.uptoBulk]
theorem slice_le (a b : List (DataW H)) : Rows.uptoBulkAll a ≤ Rows.uptoBulk (.slice a b) := by simp only [Rows.uptoBulk]; omega
theorem agg_eq (a : List (DataW H)) : Rows.uptoBulk (.agg a) = Rows.uptoBulkAll a + 1 := by simp only [Rows.uptoBulk]
theorem all_append (a b : List (DataW H)) : Rows.uptoBulkAll (a ++ b) = Rows.uptoBulkAll a + Rows.uptoBulkAll b := by
  induction a with
  | nil => simp [Rows.uptoBulkAll]
  | cons x a ih => simp only [List.cons_append, Rows.uptoBulkAll, ih]; omega
/-- The weights of a list's elements, together. -/
theorem sum_le {α : Type} (wt : α → Nat) (D : Nat → DataW H) (xs : List α) (h : ∀ i (hi : i < xs.length), wt xs[i] ≤ Rows.uptoBulk (D i)) : (xs.map wt).sum ≤ Rows.uptoBulkAll ((List.range xs.length).map D) := by
  have : ∀ n, n ≤ xs.length → ((xs.take n).map wt).sum ≤ Rows.uptoBulkAll ((List.range n).map D) := by
    intro n
    induction n with
    | zero => intro _; simp
    | succ n ih =>
      intro hn
      have i := ih (by omega)
      have e : xs.take (n + 1) = xs.take n ++ [xs[n]] := by rw [List.take_add_one, List.getElem?_eq_getElem (by omega)]; rfl
      rw [e, List.range_succ, List.map_append, List.map_append, List.sum_append, all_append]
      have := h n (by omega)
      simp only [List.map_cons, List.map_nil, List.sum_cons, List.sum_nil, Rows.uptoBulkAll]
      omega
  have := this xs.length (Nat.le_refl _)
  rwa [List.take_of_length_le (Nat.le_refl _)] at this
end Bulk

section
variable {H : Type} {enc : TypeId × Value → H} {P : Program} {w : World} {base : Nat} {spare : Nat → Bool} {held : Bool}
/-- A slice of texts. -/
theorem open_texts {r : Reach} {b0 : Nat} {t e : TypeId} {v : Value} {d : DataW H} {p : List MemPlace} (ht : P.underlying t = some (.slice e)) (he : P.underlying e = some .string) (hC : P.cellsOf e = 1)
    (hv : Value.okWide P w r b0 t v) (h : DataW.Trod enc P w base spare held t v d p) (hb : Rows.uptoBulk d ≤ 1048576) : ∃ xs : List ByteArray, SlR w es v xs ∧ (xs.map (fun x => x.size + 1)).sum ≤ 1048576 := by
  obtain ⟨A, len, cap, rfl⟩ := okWide_slice ht hv
  obtain ⟨fuel, hf⟩ := h
  rcases open_slice ht hf with ⟨hcs, _⟩ | ⟨a, len', cap', m, n, D, Pl, hcs, _, hl, hm, hmm, hx, hi⟩
  · simp [Value.cells] at hcs
    obtain ⟨rfl, rfl, rfl⟩ := hcs
    exact ⟨[], SlR.nil _ _, by simp⟩
  · simp [Value.cells] at hcs
    obtain ⟨rfl, rfl, rfl⟩ := hcs
    have hlm : len ≤ m := by rw [hmm]; split <;> omega
    obtain ⟨xs, hxl, hs, hR⟩ := slr_of (w := w) (en := es) (size := 1) (a := a) (len := len) (cap := cap) (fun i x => x.size + 1 ≤ Rows.uptoBulk (D i)) (fun _ => rfl) hl (by omega) (fun i hi' => by
      obtain ⟨cs', hc, ht'⟩ := hi i (by omega)
      rw [hC] at hc
      obtain ⟨_, hcl, hat⟩ := World.cells?_some hc
      obtain ⟨s, e0, hy, hz⟩ := DataW.trod_string he ht'
      refine ⟨s, fun j u hu => ?_, ?_⟩
      · have hj : j = 0 := by
          rcases Nat.eq_zero_or_pos j with h0 | h0
          · exact h0
          · rw [List.getElem?_eq_none (by simp [es]; omega)] at hu; cases hu
        subst hj
        have hu' : u = .string s := by simpa [es] using hu.symm
        subst hu'
        have := hat 0 (by omega)
        rw [e0] at this
        rw [← Go.Deep.add_add, hC] at *
        simpa using this
      · simp only [Prod.mk.injEq] at hy
        rw [hy.1, Bulk.str]
        exact Nat.le_refl _)
    refine ⟨xs, hs, ?_⟩
    subst hxl
    have h1 := Bulk.sum_le (fun x => x.size + 1) D xs hR
    have hxx := congrArg Prod.fst hx
    simp only at hxx
    rw [hxx] at hb
    exact Nat.le_trans h1 (Nat.le_trans (Bulk.slice_le _ _) hb)
/-- A slice of structs of the make 'ss'. -/
theorem open_sss {r : Reach} {b0 : Nat} {t e : TypeId} {f0 f1 : Field} {v : Value} {d : DataW H} {p : List MemPlace} (ht : P.underlying t = some (.slice e)) (he : P.underlying e = some (.struct #[f0, f1])) (hone : oneCellFields P #[f0, f1] = true) (hC : P.cellsOf e = 2)
    (h0 : P.underlying f0.type = some .string) (h1 : P.underlying f1.type = some .string) (hv : Value.okWide P w r b0 t v) (h : DataW.Trod enc P w base spare held t v d p) (hb : Rows.uptoBulk d ≤ 1048576) : ∃ xs : List (ByteArray × ByteArray), SlR w e_ss v xs ∧ (xs.map (fun d => d.1.size + d.2.size + 2)).sum ≤ 1048576 := by
  obtain ⟨A, len, cap, rfl⟩ := okWide_slice ht hv
  obtain ⟨fuel, hf⟩ := h
  rcases open_slice_fields ht he hone hC hf with ⟨hcs, _⟩ | ⟨a, len', cap', m, D, Pl, hcs, _, hl, hm, hmm, hx, hi⟩
  · simp [Value.cells] at hcs
    obtain ⟨rfl, rfl, rfl⟩ := hcs
    exact ⟨[], SlR.nil _ _, by simp⟩
  · simp [Value.cells] at hcs
    obtain ⟨rfl, rfl, rfl⟩ := hcs
    have hlm : len ≤ m := by rw [hmm]; split <;> omega
    obtain ⟨xs, hxl, hs, hR⟩ := slr_of (w := w) (en := e_ss) (size := 2) (a := a) (len := len) (cap := cap) (fun i d => d.1.size + d.2.size + 2 ≤ Rows.uptoBulk (D i)) (fun _ => rfl) hl (by omega) (fun i hi' => by
      obtain ⟨ys, n', hD, _, hyl, hfl⟩ := hi i (by omega)
      obtain ⟨v0, y0, c0, g0, t0⟩ := hfl 0 f0 rfl
      obtain ⟨v1, y1, c1, g1, t1⟩ := hfl 1 f1 rfl
      obtain ⟨x0, e0, z0, _⟩ := DataW.trod_string h0 t0
      obtain ⟨x1, e1, z1, _⟩ := DataW.trod_string h1 t1
      simp only [List.cons.injEq, and_true] at e0 e1
      subst e0 e1 z0 z1
      have hys : ys = [_, _] := List.ext_getElem? (l₂ := [(DataW.lit (.string x0.data.toList), []), (DataW.lit (.string x1.data.toList), [])]) (fun j => by
        match j with
        | 0 => exact g0
        | 1 => exact g1
        | j + 2 => rw [List.getElem?_eq_none (by rw [hyl]; simp), List.getElem?_eq_none (by simp)])
      refine ⟨(x0, x1), fun j u hu => ?_, ?_⟩
      · match j, hu with
        | 0, hu => simp only [e_ss, List.getElem?_cons_zero, List.getElem?_cons_succ, Option.some.injEq] at hu; subst hu; exact c0
        | 1, hu => simp only [e_ss, List.getElem?_cons_zero, List.getElem?_cons_succ, Option.some.injEq] at hu; subst hu; exact c1
        | j + 2, hu => simp [e_ss] at hu
      · rw [hD, hys]; simp only [List.map_cons, List.map_nil, Rows.uptoBulk, Rows.uptoBulkAll, ByteArray.size, Array.length_toList]; omega)
    refine ⟨xs, hs, ?_⟩
    · subst hxl
      have h1 := Bulk.sum_le (fun (d : ByteArray × ByteArray) => d.1.size + d.2.size + 2) D xs (fun i hi => hR i hi)
      have hxx := congrArg Prod.fst hx
      simp only at hxx
      rw [hxx] at hb
      exact Nat.le_trans h1 (Nat.le_trans (Bulk.slice_le _ _) hb)
/-- A slice of structs of the make 'sbs'. -/
theorem open_sbss {r : Reach} {b0 : Nat} {t e : TypeId} {f0 f1 f2 : Field} {v : Value} {d : DataW H} {p : List MemPlace} (ht : P.underlying t = some (.slice e)) (he : P.underlying e = some (.struct #[f0, f1, f2])) (hone : oneCellFields P #[f0, f1, f2] = true) (hC : P.cellsOf e = 3)
    (h0 : P.underlying f0.type = some .string) (h1 : P.underlying f1.type = some .bool) (h2 : P.underlying f2.type = some .string) (hv : Value.okWide P w r b0 t v) (h : DataW.Trod enc P w base spare held t v d p) (hb : Rows.uptoBulk d ≤ 1048576) : ∃ xs : List (ByteArray × Bool × ByteArray), SlR w e_sbs v xs ∧ (xs.map (fun d => d.1.size + d.2.2.size + 3)).sum ≤ 1048576 := by
  obtain ⟨A, len, cap, rfl⟩ := okWide_slice ht hv
  obtain ⟨fuel, hf⟩ := h
  rcases open_slice_fields ht he hone hC hf with ⟨hcs, _⟩ | ⟨a, len', cap', m, D, Pl, hcs, _, hl, hm, hmm, hx, hi⟩
  · simp [Value.cells] at hcs
    obtain ⟨rfl, rfl, rfl⟩ := hcs
    exact ⟨[], SlR.nil _ _, by simp⟩
  · simp [Value.cells] at hcs
    obtain ⟨rfl, rfl, rfl⟩ := hcs
    have hlm : len ≤ m := by rw [hmm]; split <;> omega
    obtain ⟨xs, hxl, hs, hR⟩ := slr_of (w := w) (en := e_sbs) (size := 3) (a := a) (len := len) (cap := cap) (fun i d => d.1.size + d.2.2.size + 3 ≤ Rows.uptoBulk (D i)) (fun _ => rfl) hl (by omega) (fun i hi' => by
      obtain ⟨ys, n', hD, _, hyl, hfl⟩ := hi i (by omega)
      obtain ⟨v0, y0, c0, g0, t0⟩ := hfl 0 f0 rfl
      obtain ⟨v1, y1, c1, g1, t1⟩ := hfl 1 f1 rfl
      obtain ⟨v2, y2, c2, g2, t2⟩ := hfl 2 f2 rfl
      obtain ⟨x0, e0, z0, _⟩ := DataW.trod_string h0 t0
      obtain ⟨x1, e1, z1⟩ := DataW.trod_bool h1 t1
      obtain ⟨x2, e2, z2, _⟩ := DataW.trod_string h2 t2
      simp only [List.cons.injEq, and_true] at e0 e1 e2
      subst e0 e1 e2 z0 z1 z2
      have hys : ys = [_, _, _] := List.ext_getElem? (l₂ := [(DataW.lit (.string x0.data.toList), []), (DataW.lit (.bool x1), []), (DataW.lit (.string x2.data.toList), [])]) (fun j => by
        match j with
        | 0 => exact g0
        | 1 => exact g1
        | 2 => exact g2
        | j + 3 => rw [List.getElem?_eq_none (by rw [hyl]; simp), List.getElem?_eq_none (by simp)])
      refine ⟨(x0, x1, x2), fun j u hu => ?_, ?_⟩
      · match j, hu with
        | 0, hu => simp only [e_sbs, List.getElem?_cons_zero, List.getElem?_cons_succ, Option.some.injEq] at hu; subst hu; exact c0
        | 1, hu => simp only [e_sbs, List.getElem?_cons_zero, List.getElem?_cons_succ, Option.some.injEq] at hu; subst hu; exact c1
        | 2, hu => simp only [e_sbs, List.getElem?_cons_zero, List.getElem?_cons_succ, Option.some.injEq] at hu; subst hu; exact c2
        | j + 3, hu => simp [e_sbs] at hu
      · rw [hD, hys]; simp only [List.map_cons, List.map_nil, Rows.uptoBulk, Rows.uptoBulkAll, ByteArray.size, Array.length_toList]; omega)
    refine ⟨xs, hs, ?_⟩
    · subst hxl
      have h1 := Bulk.sum_le (fun (d : ByteArray × Bool × ByteArray) => d.1.size + d.2.2.size + 3) D xs (fun i hi => hR i hi)
      have hxx := congrArg Prod.fst hx
      simp only at hxx
      rw [hxx] at hb
      exact Nat.le_trans h1 (Nat.le_trans (Bulk.slice_le _ _) hb)
/-- A slice of structs of the make 'bs'. -/
theorem open_bss {r : Reach} {b0 : Nat} {t e : TypeId} {f0 f1 : Field} {v : Value} {d : DataW H} {p : List MemPlace} (ht : P.underlying t = some (.slice e)) (he : P.underlying e = some (.struct #[f0, f1])) (hone : oneCellFields P #[f0, f1] = true) (hC : P.cellsOf e = 2)
    (h0 : P.underlying f0.type = some .bool) (h1 : P.underlying f1.type = some .string) (hv : Value.okWide P w r b0 t v) (h : DataW.Trod enc P w base spare held t v d p) (hb : Rows.uptoBulk d ≤ 1048576) : ∃ xs : List (Bool × ByteArray), SlR w e_bs v xs ∧ (xs.map (fun d => d.2.size + 2)).sum ≤ 1048576 := by
  obtain ⟨A, len, cap, rfl⟩ := okWide_slice ht hv
  obtain ⟨fuel, hf⟩ := h
  rcases open_slice_fields ht he hone hC hf with ⟨hcs, _⟩ | ⟨a, len', cap', m, D, Pl, hcs, _, hl, hm, hmm, hx, hi⟩
  · simp [Value.cells] at hcs
    obtain ⟨rfl, rfl, rfl⟩ := hcs
    exact ⟨[], SlR.nil _ _, by simp⟩
  · simp [Value.cells] at hcs
    obtain ⟨rfl, rfl, rfl⟩ := hcs
    have hlm : len ≤ m := by rw [hmm]; split <;> omega
    obtain ⟨xs, hxl, hs, hR⟩ := slr_of (w := w) (en := e_bs) (size := 2) (a := a) (len := len) (cap := cap) (fun i d => d.2.size + 2 ≤ Rows.uptoBulk (D i)) (fun _ => rfl) hl (by omega) (fun i hi' => by
      obtain ⟨ys, n', hD, _, hyl, hfl⟩ := hi i (by omega)
      obtain ⟨v0, y0, c0, g0, t0⟩ := hfl 0 f0 rfl
      obtain ⟨v1, y1, c1, g1, t1⟩ := hfl 1 f1 rfl
      obtain ⟨x0, e0, z0⟩ := DataW.trod_bool h0 t0
      obtain ⟨x1, e1, z1, _⟩ := DataW.trod_string h1 t1
      simp only [List.cons.injEq, and_true] at e0 e1
      subst e0 e1 z0 z1
      have hys : ys = [_, _] := List.ext_getElem? (l₂ := [(DataW.lit (.bool x0), []), (DataW.lit (.string x1.data.toList), [])]) (fun j => by
        match j with
        | 0 => exact g0
        | 1 => exact g1
        | j + 2 => rw [List.getElem?_eq_none (by rw [hyl]; simp), List.getElem?_eq_none (by simp)])
      refine ⟨(x0, x1), fun j u hu => ?_, ?_⟩
      · match j, hu with
        | 0, hu => simp only [e_bs, List.getElem?_cons_zero, List.getElem?_cons_succ, Option.some.injEq] at hu; subst hu; exact c0
        | 1, hu => simp only [e_bs, List.getElem?_cons_zero, List.getElem?_cons_succ, Option.some.injEq] at hu; subst hu; exact c1
        | j + 2, hu => simp [e_bs] at hu
      · rw [hD, hys]; simp only [List.map_cons, List.map_nil, Rows.uptoBulk, Rows.uptoBulkAll, ByteArray.size, Array.length_toList]; omega)
    refine ⟨xs, hs, ?_⟩
    · subst hxl
      have h1 := Bulk.sum_le (fun (d : Bool × ByteArray) => d.2.size + 2) D xs (fun i hi => hR i hi)
      have hxx := congrArg Prod.fst hx
      simp only at hxx
      rw [hxx] at hb
      exact Nat.le_trans h1 (Nat.le_trans (Bulk.slice_le _ _) hb)
/-- A slice of structs of the make 'ii'. -/
theorem open_iis {r : Reach} {b0 : Nat} {t e : TypeId} {f0 f1 : Field} {v : Value} {d : DataW H} {p : List MemPlace} (ht : P.underlying t = some (.slice e)) (he : P.underlying e = some (.struct #[f0, f1])) (hone : oneCellFields P #[f0, f1] = true) (hC : P.cellsOf e = 2)
    (h0 : P.underlying f0.type = some (.int .i64)) (h1 : P.underlying f1.type = some (.int .i64)) (hv : Value.okWide P w r b0 t v) (h : DataW.Trod enc P w base spare held t v d p) (hb : Rows.uptoBulk d ≤ 1048576) : ∃ xs : List (Int × Int), SlR w e_ii v xs ∧ (xs.map (fun d => 2)).sum ≤ 1048576 ∧ ∀ d ∈ xs, (Lit.int .i64 d.1).wf = true ∧ (Lit.int .i64 d.2).wf = true := by
  obtain ⟨A, len, cap, rfl⟩ := okWide_slice ht hv
  obtain ⟨fuel, hf⟩ := h
  rcases open_slice_fields ht he hone hC hf with ⟨hcs, _⟩ | ⟨a, len', cap', m, D, Pl, hcs, _, hl, hm, hmm, hx, hi⟩
  · simp [Value.cells] at hcs
    obtain ⟨rfl, rfl, rfl⟩ := hcs
    exact ⟨[], SlR.nil _ _, by simp, by simp⟩
  · simp [Value.cells] at hcs
    obtain ⟨rfl, rfl, rfl⟩ := hcs
    have hlm : len ≤ m := by rw [hmm]; split <;> omega
    obtain ⟨xs, hxl, hs, hR⟩ := slr_of (w := w) (en := e_ii) (size := 2) (a := a) (len := len) (cap := cap) (fun i d => 2 ≤ Rows.uptoBulk (D i) ∧ (Lit.int .i64 d.1).wf = true ∧ (Lit.int .i64 d.2).wf = true) (fun _ => rfl) hl (by omega) (fun i hi' => by
      obtain ⟨ys, n', hD, _, hyl, hfl⟩ := hi i (by omega)
      obtain ⟨v0, y0, c0, g0, t0⟩ := hfl 0 f0 rfl
      obtain ⟨v1, y1, c1, g1, t1⟩ := hfl 1 f1 rfl
      obtain ⟨x0, e0, z0, w0⟩ := DataW.trod_int h0 t0
      obtain ⟨x1, e1, z1, w1⟩ := DataW.trod_int h1 t1
      simp only [List.cons.injEq, and_true] at e0 e1
      subst e0 e1 z0 z1
      have hys : ys = [_, _] := List.ext_getElem? (l₂ := [(DataW.lit (.int .i64 x0), []), (DataW.lit (.int .i64 x1), [])]) (fun j => by
        match j with
        | 0 => exact g0
        | 1 => exact g1
        | j + 2 => rw [List.getElem?_eq_none (by rw [hyl]; simp), List.getElem?_eq_none (by simp)])
      refine ⟨(x0, x1), fun j u hu => ?_, ?_⟩
      · match j, hu with
        | 0, hu => simp only [e_ii, List.getElem?_cons_zero, List.getElem?_cons_succ, Option.some.injEq] at hu; subst hu; exact c0
        | 1, hu => simp only [e_ii, List.getElem?_cons_zero, List.getElem?_cons_succ, Option.some.injEq] at hu; subst hu; exact c1
        | j + 2, hu => simp [e_ii] at hu
      · rw [hD, hys]; simp only [List.map_cons, List.map_nil, Rows.uptoBulk, Rows.uptoBulkAll, ByteArray.size, Array.length_toList]; exact ⟨by omega, w0, w1⟩)
    refine ⟨xs, hs, ?_, fun d hd => ?_⟩
    · subst hxl
      have h1 := Bulk.sum_le (fun (d : Int × Int) => 2) D xs (fun i hi => (hR i hi).1)
      have hxx := congrArg Prod.fst hx
      simp only at hxx
      rw [hxx] at hb
      exact Nat.le_trans h1 (Nat.le_trans (Bulk.slice_le _ _) hb)
    · obtain ⟨i, hi, rfl⟩ := List.getElem_of_mem hd
      exact (hR i hi).2
end
end Go.Proofs.Ythhhlaoiampinaa
