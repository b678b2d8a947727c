/- A slice of requests, opened, where what comes in is of bulk at most 1048576. -/
import Derived.Test.YtoalfjkbgeiggaaGreatDoorZOpenM
import Derived.Test.YtoalfjkbgeiggaaGreatDoorZMsgU
namespace Go.Proofs.YtoalfjkbgeiggaaGreatDoor
set_option maxRecDepth 20000
open Go.ChangeShapes Go.WideShapes Go.Deep Go.RowKit Go.Joins
/-- A request by its cells: method, target, text, the fields' slice, the fields. -/
structure Rq where
  m : ByteArray
  t : ByteArray
  b : ByteArray
  v : Value
  l : List Fp
def e_rq (q : Rq) : List Value := [.string q.m, .string q.t, q.v, .string q.b]
def Rq.wt (q : Rq) : Nat := q.m.size + q.t.size + q.b.size + (q.l.map (fun d => d.1.size + d.2.size + 2)).sum + 4
section
variable {H : Type} {enc : TypeId × Value → H} {w : World} {base : Nat} {spare : Nat → Bool} {held : Bool}
theorem open_flds_le {n : Nat} {c : Value} {y : DataW H × List MemPlace} (h : DataW.trod enc Tryz.prog w base spare held n 22 [c] = some y) :
    ∃ xs : List (ByteArray × ByteArray), SlR w e_ss c xs ∧ (xs.map (fun d => d.1.size + d.2.size + 2)).sum ≤ Rows.uptoBulk y.1 := by
  have ht : Tryz.prog.underlying 22 = some (.slice 57) := Tryz.underlying22
  have he := Tryz.underlying57
  have h0 := Tryz.underlying9
  rcases open_slice_fields ht he (by kernel_rfl) (by kernel_rfl) h with ⟨hcs, _⟩ | ⟨a, len, cap, m, D, Pl, hcs, _, hl, hm, hmm, hx, hi⟩
  · simp only [List.cons.injEq, and_true] at hcs
    subst hcs
    exact ⟨[], SlR.nil _ _, by simp⟩
  · simp only [List.cons.injEq, and_true] at hcs
    subst hcs
    have hlm : len ≤ m := by rw [hmm]; split <;> omega
    obtain ⟨xs, hxl, hs, hR⟩ := slr_of (w := w) (en := e_ss) (size := 2) (a := a) (len := len) (cap := cap) (fun i d => d.1.size + d.2.size + 2 ≤ Rows.uptoBulk (D i)) (fun _ => rfl) hl (by omega) (fun i hi' => by
      obtain ⟨ys, n', hD, _, hyl, hfl⟩ := hi i (by omega)
      obtain ⟨v0, y0, c0, g0, t0⟩ := hfl 0 _ rfl
      obtain ⟨v1, y1, c1, g1, t1⟩ := hfl 1 _ rfl
      obtain ⟨x0, e0, z0, _⟩ := DataW.trod_string h0 t0
      obtain ⟨x1, e1, z1, _⟩ := DataW.trod_string h0 t1
      simp only [List.cons.injEq, and_true] at e0 e1
      subst e0 e1 z0 z1
      have hys : ys = [_, _] := List.ext_getElem? (l₂ := [(DataW.lit (.string x0.data.toList), []), (DataW.lit (.string x1.data.toList), [])]) (fun j => by
        match j with
        | 0 => exact g0
        | 1 => exact g1
        | j + 2 => rw [List.getElem?_eq_none (by rw [hyl]; simp), List.getElem?_eq_none (by simp)])
      refine ⟨(x0, x1), fun j u hu => ?_, ?_⟩
      · match j, hu with
        | 0, hu => simp only [e_ss, List.getElem?_cons_zero, List.getElem?_cons_succ, Option.some.injEq] at hu; subst hu; exact c0
        | 1, hu => simp only [e_ss, List.getElem?_cons_zero, List.getElem?_cons_succ, Option.some.injEq] at hu; subst hu; exact c1
        | j + 2, hu => simp [e_ss] at hu
      · rw [hD, hys]; simp only [List.map_cons, List.map_nil, Rows.uptoBulk, Rows.uptoBulkAll, ByteArray.size, Array.length_toList]; omega)
    refine ⟨xs, hs, ?_⟩
    subst hxl
    have h1 := Bulk.sum_le (fun (d : ByteArray × ByteArray) => d.1.size + d.2.size + 2) D xs (fun i hi => hR i hi)
    have hxx := congrArg Prod.fst hx
    simp only at hxx
    rw [hxx]
    exact Nat.le_trans h1 (Bulk.slice_le _ _)
theorem open_rqs {r : Reach} {b0 : Nat} {v : Value} {d : DataW H} {p : List MemPlace} (hv : Value.okWide Tryz.prog w r b0 32 v) (h : DataW.Trod enc Tryz.prog w base spare held 32 v d p) (hb : Rows.uptoBulk d ≤ 1048576) :
    ∃ xs : List Rq, SlR w e_rq v xs ∧ (xs.map Rq.wt).sum ≤ 1048576 ∧ ∀ q ∈ xs, SlR w e_ss q.v q.l := by
  have ht : Tryz.prog.underlying 32 = some (.slice 24) := Tryz.underlying32
  have hs := Tryz.underlying24
  have hus := Tryz.underlying9
  have hui := Tryz.underlying3
  have k3 : Tryz.prog.cellsOf 3 = 1 := by kernel_rfl
  have k4 : Tryz.prog.cellsOf 9 = 1 := by kernel_rfl
  have k5 : Tryz.prog.cellsOf 22 = 1 := by kernel_rfl
  have k6 : Tryz.prog.cellsOf 24 = 4 := by kernel_rfl
  obtain ⟨A, len, cap, rfl⟩ := okWide_slice ht hv
  obtain ⟨fuel, hf⟩ := h
  rcases open_slice ht hf with ⟨hcs, _⟩ | ⟨a, len', cap', mm, nn, D, Pl, hcs, _, hl, hm, hmm, hx0, hi⟩
  · simp [Value.cells] at hcs
    obtain ⟨rfl, rfl, rfl⟩ := hcs
    exact ⟨[], SlR.nil _ _, by simp, by simp⟩
  · simp [Value.cells] at hcs
    obtain ⟨rfl, rfl, rfl⟩ := hcs
    have hlm : len ≤ mm := by rw [hmm]; split <;> omega
    have hxx := congrArg Prod.fst hx0
    simp only at hxx
    have hbD : ∀ i, i < len → Rows.uptoBulk (D i) ≤ 1048576 := by
      intro i hi'
      rw [hxx] at hb
      refine Nat.le_trans (Bulk.mem_le (l := (List.range len).map D) (List.mem_map.2 ⟨i, List.mem_range.2 hi', rfl⟩)) (Nat.le_trans (Bulk.slice_le _ _) hb)
    obtain ⟨xs, hxl, hsl, hR⟩ := slr_of (w := w) (en := e_rq) (size := 4) (a := a) (len := len) (cap := cap) (fun i q => SlR w e_ss q.v q.l ∧ Rq.wt q ≤ Rows.uptoBulk (D i)) (fun _ => rfl) hl (by omega) (fun i hi' => by
      obtain ⟨cs, hc, ht'⟩ := hi i (by omega)
      have hb := hbD i hi'
      rw [k6] at hc
      obtain ⟨_, hcl, hat⟩ := World.cells?_some hc
      obtain ⟨c0, c1, c2, c3, rfl⟩ : ∃ c0 c1 c2 c3, cs = [c0, c1, c2, c3] := by
        match cs, hcl with
        | [c0, c1, c2, c3], _ => exact ⟨c0, c1, c2, c3, rfl⟩
      obtain ⟨xs, n, _, hx, -, hlen, hfl⟩ := DataW.trod_struct hs ht'
      have hl4 : xs.length = 4 := hlen
      obtain ⟨y0, y1, y2, y3, rfl⟩ : ∃ y0 y1 y2 y3, xs = [y0, y1, y2, y3] := by
        match xs, hl4 with
        | [y0, y1, y2, y3], _ => exact ⟨y0, y1, y2, y3, rfl⟩
      have g0 := hfl 0 _ rfl
      have g1 := hfl 1 _ rfl
      have g2 := hfl 2 _ rfl
      have g3 := hfl 3 _ rfl
      try simp only [k3, k4, k5, Value.cells] at g0
      try simp only [k3, k4, k5, Value.cells] at g1
      try simp only [k3, k4, k5, Value.cells] at g2
      try simp only [k3, k4, k5, Value.cells] at g3
      obtain ⟨x0, e0, u0, -⟩ := DataW.trod_string hus g0
      obtain ⟨x1, e1, u1, -⟩ := DataW.trod_string hus g1
      obtain ⟨x3, e3, u3, -⟩ := DataW.trod_string hus g3
      have hall : ∀ y ∈ [y0.1, y1.1, y2.1, y3.1], Rows.uptoBulk y ≤ 1048576 := by
        intro y hy
        have h1 := congrArg Prod.fst hx
        simp only [List.map_cons, List.map_nil] at h1
        rw [h1] at hb
        have h3 : Rows.uptoBulk y ≤ Rows.uptoBulk (DataW.agg [y0.1, y1.1, y2.1, y3.1]) := by
          rw [Bulk.agg_eq]; exact Nat.le_succ_of_le (Bulk.mem_le hy)
        omega
      have hxb : Rows.uptoBulk y2.1 ≤ 1048576 := hall _ (by simp)
      have q0 := hall y0.1 (by simp)
      have q1 := hall y1.1 (by simp)
      have q3 := hall y3.1 (by simp)
      rw [congrArg Prod.fst u0, Bulk.str, Array.length_toList] at q0
      rw [congrArg Prod.fst u1, Bulk.str, Array.length_toList] at q1
      rw [congrArg Prod.fst u3, Bulk.str, Array.length_toList] at q3
      have r2' : DataW.trod enc Tryz.prog w base spare held n 22 [c2] = some y2 := g2
      obtain ⟨l, hl, hsum⟩ := open_flds_le r2'
      have f0 : [c0] = [Value.string x0] := e0
      have f1 : [c1] = [Value.string x1] := e1
      have f3 : [c3] = [Value.string x3] := e3
      simp only [List.cons.injEq, and_true] at f0 f1 f3
      subst f0 f1 f3
      have hbulk : Rows.uptoBulk (D i) = Rows.uptoBulk y0.1 + Rows.uptoBulk y1.1 + Rows.uptoBulk y2.1 + Rows.uptoBulk y3.1 + 1 := by
        have h1 := congrArg Prod.fst hx
        simp only [List.map_cons, List.map_nil] at h1
        rw [h1, Bulk.agg_eq]
        simp [Rows.uptoBulkAll]
        omega
      refine ⟨⟨x0, x1, x3, c2, l⟩, fun j u hu => ?_, hl, ?_⟩
      · match j, hu with
        | 0, hu => simp only [e_rq, List.getElem?_cons_zero, Option.some.injEq] at hu; subst hu; have := hat 0 (by omega); exact this
        | 1, hu => simp only [e_rq, List.getElem?_cons_succ, List.getElem?_cons_zero, Option.some.injEq] at hu; subst hu; have := hat 1 (by omega); rw [← Go.Deep.add_add]; exact this
        | 2, hu => simp only [e_rq, List.getElem?_cons_succ, List.getElem?_cons_zero, Option.some.injEq] at hu; subst hu; have := hat 2 (by omega); rw [← Go.Deep.add_add]; exact this
        | 3, hu => simp only [e_rq, List.getElem?_cons_succ, List.getElem?_cons_zero, Option.some.injEq] at hu; subst hu; have := hat 3 (by omega); rw [← Go.Deep.add_add]; exact this
        | j + 4, hu => simp [e_rq] at hu
      · have e0' : Rows.uptoBulk y0.1 = x0.size + 1 := by rw [congrArg Prod.fst u0, Bulk.str, Array.length_toList]; rfl
        have e1' : Rows.uptoBulk y1.1 = x1.size + 1 := by rw [congrArg Prod.fst u1, Bulk.str, Array.length_toList]; rfl
        have e3' : Rows.uptoBulk y3.1 = x3.size + 1 := by rw [congrArg Prod.fst u3, Bulk.str, Array.length_toList]; rfl
        have hs2 : (List.map (fun d => d.1.size + d.2.size + 2) (l : List Fp)).sum ≤ Rows.uptoBulk y2.1 := hsum
        unfold Rq.wt
        rw [hbulk, e0', e1', e3']
        dsimp only
        refine Nat.le_trans (Nat.add_le_add_right (Nat.add_le_add_left hs2 _) 4) ?_
        omega)
    subst hxl
    refine ⟨xs, hsl, ?_, fun q hq => ?_⟩
    · have h1 := Bulk.sum_le Rq.wt D xs (fun i hi => (hR i hi).2)
      rw [hxx] at hb
      exact Nat.le_trans h1 (Nat.le_trans (Bulk.slice_le _ _) hb)
    · obtain ⟨i, hi', rfl⟩ := List.mem_iff_getElem.1 hq
      exact (hR i hi').1
end
end Go.Proofs.YtoalfjkbgeiggaaGreatDoor
