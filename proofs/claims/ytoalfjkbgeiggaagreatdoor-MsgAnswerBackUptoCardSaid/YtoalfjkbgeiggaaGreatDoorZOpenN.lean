/- A response, opened with its texts' sizes, where what comes in is of bulk at most 1048576. -/
import Derived.Test.YtoalfjkbgeiggaaGreatDoorZOpenM
namespace Go.Proofs.YtoalfjkbgeiggaaGreatDoor
set_option maxRecDepth 20000
open Go.ChangeShapes Go.WideShapes Go.Deep Go.RowKit Go.Joins
section
variable {H : Type} {enc : TypeId × Value → H} {w : World} {base : Nat} {spare : Nat → Bool} {held : Bool}
theorem open_rsm {r : Reach} {b0 : Nat} {v : Value} {d : DataW H} {p : List MemPlace} (hv : Value.okWide Tryz.prog w r b0 39 v) (h : DataW.Trod enc Tryz.prog w base spare held 39 v d p) (hb : Rows.uptoBulk d ≤ 1048576) :
    ∃ (code : Int) (rs : ByteArray) (u : Value) (bd : ByteArray) (l : List (ByteArray × ByteArray)), v = .agg #[.int .i64 code, .string rs, u, .string bd] ∧ SlR w e_ss u l ∧ (l.map (fun d => d.1.size + d.2.size + 2)).sum ≤ 1048576 ∧ (Lit.int .i64 code).wf = true ∧ rs.size ≤ 1048576 ∧ bd.size ≤ 1048576 := by
  have hs := Tryz.underlying39
  have hus := Tryz.underlying9
  have hui := Tryz.underlying3
  have k3 : Tryz.prog.cellsOf 3 = 1 := by kernel_rfl
  have k4 : Tryz.prog.cellsOf 9 = 1 := by kernel_rfl
  have k5 : Tryz.prog.cellsOf 22 = 1 := by kernel_rfl
  obtain ⟨cs, rfl, hsz⟩ := okWide_struct hs hv
  obtain ⟨c0, c1, c2, c3, rfl⟩ := array4 (hsz.trans (by kernel_rfl))
  obtain ⟨fuel, hf⟩ := h
  obtain ⟨xs, n, _, hx, -, hlen, hfl⟩ := DataW.trod_struct hs hf
  have hl4 : xs.length = 4 := hlen
  obtain ⟨y0, y1, y2, y3, rfl⟩ : ∃ y0 y1 y2 y3, xs = [y0, y1, y2, y3] := by
    match xs, hl4 with
    | [y0, y1, y2, y3], _ => exact ⟨y0, y1, y2, y3, rfl⟩
  have g0 := hfl 0 _ rfl
  have g1 := hfl 1 _ rfl
  have g2 := hfl 2 _ rfl
  have g3 := hfl 3 _ rfl
  try simp only [k3, k4, k5, Value.cells] at g0
  try simp only [k3, k4, k5, Value.cells] at g1
  try simp only [k3, k4, k5, Value.cells] at g2
  try simp only [k3, k4, k5, Value.cells] at g3
  obtain ⟨x0, e0, -, w0⟩ := DataW.trod_int hui g0
  obtain ⟨x1, e1, u1, -⟩ := DataW.trod_string hus g1
  obtain ⟨x3, e3, u3, -⟩ := DataW.trod_string hus g3
  have hall : ∀ y ∈ [y0.1, y1.1, y2.1, y3.1], Rows.uptoBulk y ≤ 1048576 := by
    intro y hy
    have h1 := congrArg Prod.fst hx
    simp only [List.map_cons, List.map_nil] at h1
    rw [h1] at hb
    have h3 : Rows.uptoBulk y ≤ Rows.uptoBulk (DataW.agg [y0.1, y1.1, y2.1, y3.1]) := by
      rw [Bulk.agg_eq]; exact Nat.le_succ_of_le (Bulk.mem_le hy)
    omega
  have hxb : Rows.uptoBulk y2.1 ≤ 1048576 := hall _ (by simp)
  have q1 := hall y1.1 (by simp)
  have q3 := hall y3.1 (by simp)
  rw [congrArg Prod.fst u1, Bulk.str, Array.length_toList] at q1
  rw [congrArg Prod.fst u3, Bulk.str, Array.length_toList] at q3
  have r2' : DataW.trod enc Tryz.prog w base spare held n 22 [c2] = some y2 := g2
  obtain ⟨l, hl, hsum⟩ := open_flds_cell r2' hxb
  have f0 : [c0] = [Value.int .i64 x0] := e0
  have f1 : [c1] = [Value.string x1] := e1
  have f3 : [c3] = [Value.string x3] := e3
  simp only [List.cons.injEq, and_true] at f0 f1 f3
  subst f0 f1 f3
  exact ⟨x0, x1, c2, x3, l, rfl, hl, hsum, w0, by simp only [ByteArray.size]; omega, by simp only [ByteArray.size]; omega⟩
end
end Go.Proofs.YtoalfjkbgeiggaaGreatDoor
