import Derived.Test.YtgnblkmpoigejaaGreatDoorV10
import Derived.Test.YtgnblkmpoigejaaGreatDoorV25
import Derived.Test.YtgnblkmpoigejaaGreatDoorV20
set_option linter.unusedVariables false
set_option linter.unusedSimpArgs false
namespace Go.Proofs.YtgnblkmpoigejaaGreatDoor
set_option maxRecDepth 20000
open Go.ChangeShapes Go.WideShapes Go.Deep Go.RowKit Go.Joins
section
variable {H : Type} {enc : TypeId × Value → H} {w : World} {base : Nat} {spare : Nat → Bool} {held : Bool}
theorem open_flds_cell {n : Nat} {c : Value} {y : DataW H × List MemPlace} (h : DataW.trod enc Tryz.prog w base spare held n 23 [c] = some y) (hb : Rows.uptoBulk y.1 ≤ 1048576) :
    ∃ xs : List (ByteArray × ByteArray), SlR w e_ss c xs ∧ (xs.map (fun d => d.1.size + d.2.size + 2)).sum ≤ 1048576 := by
  have ht : Tryz.prog.underlying 23 = some (.slice 57) := Tryz.underlying23
  have he := Tryz.underlying57
  have h0 := Tryz.underlying9
  rcases open_slice_fields ht he (by kernel_rfl) (by kernel_rfl) h with ⟨hcs, _⟩ | ⟨a, len, cap, m, D, Pl, hcs, _, hl, hm, hmm, hx, hi⟩
  · simp only [List.cons.injEq, and_true] at hcs
    subst hcs
    exact ⟨[], SlR.nil _ _, by simp⟩
  · simp only [List.cons.injEq, and_true] at hcs
    subst hcs
    have hlm : len ≤ m := by rw [hmm]; split <;> omega
    obtain ⟨xs, hxl, hs, hR⟩ := slr_of (w := w) (en := e_ss) (size := 2) (a := a) (len := len) (cap := cap) (fun i d => d.1.size + d.2.size + 2 ≤ Rows.uptoBulk (D i)) (fun _ => rfl) hl (by omega) (fun i hi' => by
      obtain ⟨ys, n', hD, _, hyl, hfl⟩ := hi i (by omega)
      obtain ⟨v0, y0, c0, g0, t0⟩ := hfl 0 _ rfl
      obtain ⟨v1, y1, c1, g1, t1⟩ := hfl 1 _ rfl
      obtain ⟨x0, e0, z0, _⟩ := DataW.trod_string h0 t0
      obtain ⟨x1, e1, z1, _⟩ := DataW.trod_string h0 t1
      simp only [List.cons.injEq, and_true] at e0 e1
      subst e0 e1 z0 z1
      have hys : ys = [_, _] := List.ext_getElem? (l₂ := [(DataW.lit (.string x0.data.toList), []), (DataW.lit (.string x1.data.toList), [])]) (fun j => by
        match j with
        | 0 => exact g0
        | 1 => exact g1
        | j + 2 => rw [List.getElem?_eq_none (by rw [hyl]; simp), List.getElem?_eq_none (by simp)])
      refine ⟨(x0, x1), fun j u hu => ?_, ?_⟩
      · match j, hu with
        | 0, hu => simp only [e_ss, List.getElem?_cons_zero, List.getElem?_cons_succ, Option.some.injEq] at hu; subst hu; exact c0
        | 1, hu => simp only [e_ss, List.getElem?_cons_zero, List.getElem?_cons_succ, Option.some.injEq] at hu; subst hu; exact c1
        | j + 2, hu => simp [e_ss] at hu
      · rw [hD, hys]; simp only [List.map_cons, List.map_nil, Rows.uptoBulk, Rows.uptoBulkAll, ByteArray.size, Array.length_toList]; omega)
    refine ⟨xs, hs, ?_⟩
    subst hxl
    have h1 := Bulk.sum_le (fun (d : ByteArray × ByteArray) => d.1.size + d.2.size + 2) D xs (fun i hi => hR i hi)
    have hxx := congrArg Prod.fst hx
    simp only at hxx
    rw [hxx] at hb
    exact Nat.le_trans h1 (Nat.le_trans (Bulk.slice_le _ _) hb)
theorem array4 {α : Type} {cs : Array α} (h : cs.size = 4) : ∃ c0 c1 c2 c3, cs = #[c0, c1, c2, c3] := by
  obtain ⟨l⟩ := cs
  match l, h with
  | [c0, c1, c2, c3], _ => exact ⟨c0, c1, c2, c3, rfl⟩
theorem open_rqm {r : Reach} {b0 : Nat} {v : Value} {d : DataW H} {p : List MemPlace} (hv : Value.okWide Tryz.prog w r b0 25 v) (h : DataW.Trod enc Tryz.prog w base spare held 25 v d p) (hb : Rows.uptoBulk d ≤ 1048576) :
    ∃ (m t : ByteArray) (rf : Value) (rb : ByteArray) (l : List (ByteArray × ByteArray)), v = .agg #[.string m, .string t, rf, .string rb] ∧ SlR w e_ss rf l ∧ (l.map (fun d => d.1.size + d.2.size + 2)).sum ≤ 1048576 ∧ m.size ≤ 1048576 ∧ t.size ≤ 1048576 ∧ rb.size ≤ 1048576 := by
  have hs := Tryz.underlying25
  have hus := Tryz.underlying9
  have hui := Tryz.underlying3
  have k3 : Tryz.prog.cellsOf 3 = 1 := by kernel_rfl
  have k4 : Tryz.prog.cellsOf 9 = 1 := by kernel_rfl
  have k5 : Tryz.prog.cellsOf 23 = 1 := by kernel_rfl
  obtain ⟨cs, rfl, hsz⟩ := okWide_struct hs hv
  obtain ⟨c0, c1, c2, c3, rfl⟩ := array4 (hsz.trans (by kernel_rfl))
  obtain ⟨fuel, hf⟩ := h
  obtain ⟨xs, n, _, hx, -, hlen, hfl⟩ := DataW.trod_struct hs hf
  have hl4 : xs.length = 4 := hlen
  obtain ⟨y0, y1, y2, y3, rfl⟩ : ∃ y0 y1 y2 y3, xs = [y0, y1, y2, y3] := by
    match xs, hl4 with
    | [y0, y1, y2, y3], _ => exact ⟨y0, y1, y2, y3, rfl⟩
  have g0 := hfl 0 _ rfl
  have g1 := hfl 1 _ rfl
  have g2 := hfl 2 _ rfl
  have g3 := hfl 3 _ rfl
  try simp only [k3, k4, k5, Value.cells] at g0
  try simp only [k3, k4, k5, Value.cells] at g1
  try simp only [k3, k4, k5, Value.cells] at g2
  try simp only [k3, k4, k5, Value.cells] at g3
  obtain ⟨x0, e0, u0, -⟩ := DataW.trod_string hus g0
  obtain ⟨x1, e1, u1, -⟩ := DataW.trod_string hus g1
  obtain ⟨x3, e3, u3, -⟩ := DataW.trod_string hus g3
  have hall : ∀ y ∈ [y0.1, y1.1, y2.1, y3.1], Rows.uptoBulk y ≤ 1048576 := by
    intro y hy
    have h1 := congrArg Prod.fst hx
    simp only [List.map_cons, List.map_nil] at h1
    rw [h1] at hb
    have h3 : Rows.uptoBulk y ≤ Rows.uptoBulk (DataW.agg [y0.1, y1.1, y2.1, y3.1]) := by
      rw [Bulk.agg_eq]; exact Nat.le_succ_of_le (Bulk.mem_le hy)
    omega
  have hxb : Rows.uptoBulk y2.1 ≤ 1048576 := hall _ (by simp)
  have q0 := hall y0.1 (by simp)
  have q1 := hall y1.1 (by simp)
  have q3 := hall y3.1 (by simp)
  rw [congrArg Prod.fst u0, Bulk.str, Array.length_toList] at q0
  rw [congrArg Prod.fst u1, Bulk.str, Array.length_toList] at q1
  rw [congrArg Prod.fst u3, Bulk.str, Array.length_toList] at q3
  have r2' : DataW.trod enc Tryz.prog w base spare held n 23 [c2] = some y2 := g2
  obtain ⟨l, hl, hsum⟩ := open_flds_cell r2' hxb
  have f0 : [c0] = [Value.string x0] := e0
  have f1 : [c1] = [Value.string x1] := e1
  have f3 : [c3] = [Value.string x3] := e3
  simp only [List.cons.injEq, and_true] at f0 f1 f3
  subst f0 f1 f3
  exact ⟨x0, x1, c2, x3, l, rfl, hl, hsum, by simp only [ByteArray.size]; omega, by simp only [ByteArray.size]; omega, by simp only [ByteArray.size]; omega⟩
end
set_option maxRecDepth 20000
section
variable {H : Type} {enc : TypeId × Value → H} {w : World} {base : Nat} {spare : Nat → Bool} {held : Bool}
theorem arr11 {α : Type} {cs : Array α} (h : cs.size = 11) : ∃ c0 c1 c2 c3 c4 c5 c6 c7 c8 c9 c10, cs = #[c0, c1, c2, c3, c4, c5, c6, c7, c8, c9, c10] := by
  obtain ⟨l⟩ := cs
  match l, h with
  | [c0, c1, c2, c3, c4, c5, c6, c7, c8, c9, c10], _ => exact ⟨c0, c1, c2, c3, c4, c5, c6, c7, c8, c9, c10, rfl⟩
theorem open_heldc {r : Reach} {b0 : Nat} {v : Value} {d : DataW H} {p : List MemPlace} (hv : Value.okWide Tryz.prog w r b0 29 v) (h : DataW.Trod enc Tryz.prog w base spare held 29 v d p) (hb : Rows.uptoBulk d ≤ 1048576) :
    ∃ (X : Fr.Hd) (u : Value) (l k : List Fld), v = Fr.hv X u ∧ SlR w e_ss X.rf l ∧ SlR w e_ss u k ∧ fwt l + fwt k ≤ 1048576 ∧ X.rt.size ≤ 1048576 ∧ X.bd.size ≤ 1048576 := by
  obtain ⟨cs, rfl, hsz⟩ := okWide_struct Tryz.underlying29 hv
  obtain ⟨c0, c1, c2, c3, c4, c5, c6, c7, c8, c9, c10, rfl⟩ := arr11 (hsz.trans (by kernel_rfl))
  obtain ⟨fuel, hf⟩ := h
  have hf' : DataW.trod enc Tryz.prog w base spare held fuel 29 [c0, c1, c2, c3, c4, c5, c6, c7, c8, c9, c10] = some (d, p) := hf
  obtain ⟨s0, s1, g, s3, l, i4, s5, g', s7, k, i8, i9, i10, rfl, rfl, rfl, rfl, rfl, rfl, rfl, rfl, rfl, rfl, rfl, hl, hk, hz⟩ := held_le hf'
  dsimp only at hz
  exact ⟨⟨s0, s1, sv g, s3, i4, s5, s7, i8, i9, i10⟩, sv g', l, k, rfl, hl, hk, by omega, by show s1.size ≤ _; omega, by show s7.size ≤ _; omega⟩
end
end Go.Proofs.YtgnblkmpoigejaaGreatDoor
namespace Go.Proofs.YtgnblkmpoigejaaGreatDoor
set_option maxRecDepth 20000
open Go.RowKit Go.Shelf
namespace Ca
open Bk
theorem ho_at {w W : World} {n : Nat} {vv : Value} {ys : List Ho} (h : Owns w n 29 11 e_ho vv ys) (hn : 0 < ys.length) :
    ∃ b off c, vv = .slice (some ⟨b, off, none⟩) ys.length c ∧ b < w.heap.size ∧ ∀ k (hk : k < ys.length) W, Below w.heap.size w W → W.rangeAt b (off + k * 11) (e_ho ys[k]) := by
  obtain ⟨b, off, c, hv, -, hb, hc⟩ := SlR.rowN (size := 11) (fun _ => rfl) (SlR.of_owns h) hn
  exact ⟨b, off, c, hv, hb, fun k hk W hW j u hu => (hW.cell (p := ⟨b, off + k * 11 + j, none⟩) hb).trans (by rw [Nat.add_assoc]; exact hc k hk j u hu)⟩
theorem ho_store (w : World) (x : Ce) (A1 A2 : Option Addr) (n1 c1 n2 c2 : Nat) : (storeCells ⟨w.heap.size, 0, none⟩ (hdC x (.slice A1 n1 c1) (.slice A2 n2 c2)).toList).run Tryz.prog (w.alloc (.cells hZ 29)) = .ok () (w.alloc (.cells (hdC x (.slice A1 n1 c1) (.slice A2 n2 c2)) 29)) :=
  run_storeCells_new (P := Tryz.prog) w 29 hZ _ (by kernel_rfl) (by simp [hZ, hdC]) (by simp [hdC, Value.oneCell'])
theorem usedE_snoc (a : List En) (x : En) : usedE (a ++ [x]) = usedE a + sizeE x := by simp [usedE]
theorem usedE_le {xs : List En} (h : ∀ e ∈ xs, e.x.bd.size ≤ 5000) : usedE xs ≤ 5100 * xs.length := by
  induction xs with
  | nil => simp [usedE]
  | cons e l ih =>
    have h1 := ih (fun y hy => h y (List.mem_cons_of_mem _ hy))
    have h2 := h e (by simp)
    rw [usedE_cons, List.length_cons]
    unfold sizeE
    omega
end Ca
end Go.Proofs.YtgnblkmpoigejaaGreatDoor
