/- What is held, opened, where what comes in is of bulk at most 1048576. -/
import Derived.Test.YtiijgbgknolmcaaDoorFrs
import Derived.Test.YtiijgbgknolmcaaDoorBulk
namespace Go.Proofs.YtiijgbgknolmcaaDoor
set_option maxRecDepth 20000
open Go.ChangeShapes Go.WideShapes Go.Deep Go.RowKit Go.Joins
section
variable {H : Type} {enc : TypeId × Value → H} {w : World} {base : Nat} {spare : Nat → Bool} {held : Bool}
theorem open_flds_cell {n : Nat} {c : Value} {y : DataW H × List MemPlace} (h : DataW.trod enc Tryd.prog w base spare held n 22 [c] = some y) (hb : Rows.uptoBulk y.1 ≤ 1048576) :
    ∃ xs : List (ByteArray × ByteArray), SlR w e_ss c xs ∧ (xs.map (fun d => d.1.size + d.2.size + 2)).sum ≤ 1048576 := by
  have ht : Tryd.prog.underlying 22 = some (.slice 25) := Tryd.underlying22
  have he := Tryd.underlying25
  have h0 := Tryd.underlying9
  rcases open_slice_fields ht he (by kernel_rfl) (by kernel_rfl) h with ⟨hcs, _⟩ | ⟨a, len, cap, m, D, Pl, hcs, _, hl, hm, hmm, hx, hi⟩
  · simp only [List.cons.injEq, and_true] at hcs
    subst hcs
    exact ⟨[], SlR.nil _ _, by simp⟩
  · simp only [List.cons.injEq, and_true] at hcs
    subst hcs
    have hlm : len ≤ m := by rw [hmm]; split <;> omega
    obtain ⟨xs, hxl, hs, hR⟩ := slr_of (w := w) (en := e_ss) (size := 2) (a := a) (len := len) (cap := cap) (fun i d => d.1.size + d.2.size + 2 ≤ Rows.uptoBulk (D i)) (fun _ => rfl) hl (by omega) (fun i hi' => by
      obtain ⟨ys, n', hD, _, hyl, hfl⟩ := hi i (by omega)
      obtain ⟨v0, y0, c0, g0, t0⟩ := hfl 0 _ rfl
      obtain ⟨v1, y1, c1, g1, t1⟩ := hfl 1 _ rfl
      obtain ⟨x0, e0, z0, _⟩ := DataW.trod_string h0 t0
      obtain ⟨x1, e1, z1, _⟩ := DataW.trod_string h0 t1
      simp only [List.cons.injEq, and_true] at e0 e1
      subst e0 e1 z0 z1
      have hys : ys = [_, _] := List.ext_getElem? (l₂ := [(DataW.lit (.string x0.data.toList), []), (DataW.lit (.string x1.data.toList), [])]) (fun j => by
        match j with
        | 0 => exact g0
        | 1 => exact g1
        | j + 2 => rw [List.getElem?_eq_none (by rw [hyl]; simp), List.getElem?_eq_none (by simp)])
      refine ⟨(x0, x1), fun j u hu => ?_, ?_⟩
      · match j, hu with
        | 0, hu => simp only [e_ss, List.getElem?_cons_zero, List.getElem?_cons_succ, Option.some.injEq] at hu; subst hu; exact c0
        | 1, hu => simp only [e_ss, List.getElem?_cons_zero, List.getElem?_cons_succ, Option.some.injEq] at hu; subst hu; exact c1
        | j + 2, hu => simp [e_ss] at hu
      · rw [hD, hys]; simp only [List.map_cons, List.map_nil, Rows.uptoBulk, Rows.uptoBulkAll, ByteArray.size, Array.length_toList]; omega)
    refine ⟨xs, hs, ?_⟩
    subst hxl
    have h1 := Bulk.sum_le (fun (d : ByteArray × ByteArray) => d.1.size + d.2.size + 2) D xs (fun i hi => hR i hi)
    have hxx := congrArg Prod.fst hx
    simp only at hxx
    rw [hxx] at hb
    exact Nat.le_trans h1 (Nat.le_trans (Bulk.slice_le _ _) hb)
theorem array11 {α : Type} {cs : Array α} (h : cs.size = 11) : ∃ c0 c1 c2 c3 c4 c5 c6 c7 c8 c9 c10, cs = #[c0, c1, c2, c3, c4, c5, c6, c7, c8, c9, c10] := by
  obtain ⟨l⟩ := cs
  match l, h with
  | [c0, c1, c2, c3, c4, c5, c6, c7, c8, c9, c10], _ => exact ⟨c0, c1, c2, c3, c4, c5, c6, c7, c8, c9, c10, rfl⟩
theorem open_held {r : Reach} {b0 : Nat} {v : Value} {d : DataW H} {p : List MemPlace} (hv : Value.okWide Tryd.prog w r b0 44 v) (h : DataW.Trod enc Tryd.prog w base spare held 44 v d p) (hb : Rows.uptoBulk d ≤ 1048576) :
    ∃ (x : Fr.Hd) (u : Value) (l : List (ByteArray × ByteArray)), v = Fr.hv x u ∧ SlR w e_ss u l ∧ (l.map (fun d => d.1.size + d.2.size + 2)).sum ≤ 1048576 ∧ (Lit.int .i64 x.code).wf = true ∧ (Lit.int .i64 x.asked).wf = true ∧ (Lit.int .i64 x.came).wf = true := by
  have hs := Tryd.underlying44
  have hq := Tryd.underlying40
  have hr := Tryd.underlying42
  have hus := Tryd.underlying9
  have hui := Tryd.underlying3
  have k1 : Tryd.prog.cellsOf 40 = 4 := by kernel_rfl
  have k2 : Tryd.prog.cellsOf 42 = 4 := by kernel_rfl
  have k3 : Tryd.prog.cellsOf 3 = 1 := by kernel_rfl
  have k4 : Tryd.prog.cellsOf 9 = 1 := by kernel_rfl
  have k5 : Tryd.prog.cellsOf 22 = 1 := by kernel_rfl
  obtain ⟨cs, rfl, hsz⟩ := okWide_struct hs hv
  obtain ⟨c0, c1, c2, c3, c4, c5, c6, c7, c8, c9, c10, rfl⟩ := array11 (hsz.trans (by kernel_rfl))
  obtain ⟨fuel, hf⟩ := h
  obtain ⟨xs, n, _, hx, -, hlen, hfl⟩ := DataW.trod_struct hs hf
  have hl5 : xs.length = 5 := hlen
  obtain ⟨y0, y1, y2, y3, y4, rfl⟩ : ∃ y0 y1 y2 y3 y4, xs = [y0, y1, y2, y3, y4] := by
    match xs, hl5 with
    | [y0, y1, y2, y3, y4], _ => exact ⟨y0, y1, y2, y3, y4, rfl⟩
  have g0 := hfl 0 _ rfl
  have g1 := hfl 1 _ rfl
  have g2 := hfl 2 _ rfl
  have g3 := hfl 3 _ rfl
  have g4 := hfl 4 _ rfl
  simp only [k1, k2, k3, k4, k5, Value.cells] at g0 g1 g2 g3 g4
  obtain ⟨zs, n', _, hz, -, hlen2, hfl2⟩ := DataW.trod_struct hq g0
  obtain ⟨ts, n'', _, ht, -, hlen3, hfl3⟩ := DataW.trod_struct hr g1
  have hz4 : zs.length = 4 := hlen2
  have ht4 : ts.length = 4 := hlen3
  obtain ⟨z0, z1, z2, z3, rfl⟩ : ∃ y0 y1 y2 y3, zs = [y0, y1, y2, y3] := by
    match zs, hz4 with
    | [y0, y1, y2, y3], _ => exact ⟨y0, y1, y2, y3, rfl⟩
  obtain ⟨t0, t1, t2, t3, rfl⟩ : ∃ y0 y1 y2 y3, ts = [y0, y1, y2, y3] := by
    match ts, ht4 with
    | [y0, y1, y2, y3], _ => exact ⟨y0, y1, y2, y3, rfl⟩
  have a0 := hfl2 0 _ rfl
  have a1 := hfl2 1 _ rfl
  have a3 := hfl2 3 _ rfl
  have r0 := hfl3 0 _ rfl
  have r1 := hfl3 1 _ rfl
  have r2 := hfl3 2 _ rfl
  have r3 := hfl3 3 _ rfl
  try simp only [k1, k2, k3, k4, k5] at a0
  try simp only [k1, k2, k3, k4, k5] at a1
  try simp only [k1, k2, k3, k4, k5] at a3
  try simp only [k1, k2, k3, k4, k5] at r0
  try simp only [k1, k2, k3, k4, k5] at r1
  try simp only [k1, k2, k3, k4, k5] at r2
  try simp only [k1, k2, k3, k4, k5] at r3
  obtain ⟨x0, e0, -, -⟩ := DataW.trod_string hus a0
  obtain ⟨x1, e1, -, -⟩ := DataW.trod_string hus a1
  obtain ⟨x3, e3, -, -⟩ := DataW.trod_string hus a3
  obtain ⟨x4, e4, -, w4⟩ := DataW.trod_int hui r0
  obtain ⟨x5, e5, -, -⟩ := DataW.trod_string hus r1
  obtain ⟨x7, e7, -, -⟩ := DataW.trod_string hus r3
  obtain ⟨x8, e8, -, w8⟩ := DataW.trod_int hui g2
  obtain ⟨x9, e9, -, w9⟩ := DataW.trod_int hui g3
  obtain ⟨x10, e10, -, w10⟩ := DataW.trod_int hui g4
  have hxb : Rows.uptoBulk t2.1 ≤ 1048576 := by
    have h1 := congrArg Prod.fst hx
    have h2 := congrArg Prod.fst ht
    simp only [List.map_cons, List.map_nil] at h1 h2
    rw [h1] at hb
    have h3 : Rows.uptoBulk y1.1 ≤ Rows.uptoBulk (DataW.agg [y0.1, y1.1, y2.1, y3.1, y4.1]) := by
      rw [Bulk.agg_eq]; exact Nat.le_succ_of_le (Bulk.mem_le (by simp))
    have h4 : Rows.uptoBulk t2.1 ≤ Rows.uptoBulk y1.1 := by
      rw [h2, Bulk.agg_eq]; exact Nat.le_succ_of_le (Bulk.mem_le (by simp))
    omega
  have r2' : DataW.trod enc Tryd.prog w base spare held n'' 22 [c6] = some t2 := r2
  obtain ⟨l, hl, hsum⟩ := open_flds_cell r2' hxb
  have f0 : [c0] = [Value.string x0] := e0
  have f1 : [c1] = [Value.string x1] := e1
  have f3 : [c3] = [Value.string x3] := e3
  have f4 : [c4] = [Value.int .i64 x4] := e4
  have f5 : [c5] = [Value.string x5] := e5
  have f7 : [c7] = [Value.string x7] := e7
  have f8 : [c8] = [Value.int .i64 x8] := e8
  have f9 : [c9] = [Value.int .i64 x9] := e9
  have f10 : [c10] = [Value.int .i64 x10] := e10
  simp only [List.cons.injEq, and_true] at f0 f1 f3 f4 f5 f7 f8 f9 f10
  subst f0 f1 f3 f4 f5 f7 f8 f9 f10
  exact ⟨⟨x0, x1, c2, x3, x4, x5, x7, x8, x9, x10⟩, c6, l, rfl, hl, hsum, w4, w8, w9⟩
end
end Go.Proofs.YtiijgbgknolmcaaDoor
