import Derived.Test.YtgnblkmpoigejaaGreatDoorRows
import Derived.Test.YtgnblkmpoigejaaGreatDoorU10
import Derived.Deep.CondSized
import Derived.Test.YtgnblkmpoigejaaGreatDoorU13
import Derived.Test.YtgnblkmpoigejaaGreatDoorU24
set_option linter.unusedVariables false
set_option linter.unusedSimpArgs false
namespace Go.Proofs.YtgnblkmpoigejaaGreatDoor
open Go.ChangeShapes Go.WideShapes Go.Deep Go.RowKit Go.Joins
namespace Bulk
variable {H : Type}
theorem mem_le {d : DataW H} : ∀ {l : List (DataW H)}, d ∈ l → Rows.uptoBulk d ≤ Rows.uptoBulkAll l
 | x :: r, h => by
  simp only [Rows.uptoBulkAll]
  rcases List.mem_cons.1 h with rfl | h
  ·omega
  ·have := mem_le h; omega
theorem small {l : List (DataW H)} (h : Rows.uptoSmall H l = true) : Rows.uptoBulkAll l ≤ 1048576 := of_decide_eq_true h
theorem of_mem {d : DataW H} {l : List (DataW H)} (h : Rows.uptoSmall H l = true) (hm : d ∈ l) : Rows.uptoBulk d ≤ 1048576 := Nat.le_trans (mem_le hm) (small h)
theorem str (l : List UInt8) : Rows.uptoBulk (DataW.lit (H := H) (.string l)) = l.length + 1 := by simp [Rows.uptoBulk]
theorem slice_le (a b : List (DataW H)) : Rows.uptoBulkAll a ≤ Rows.uptoBulk (.slice a b) := by simp only [Rows.uptoBulk]; omega
theorem agg_eq (a : List (DataW H)) : Rows.uptoBulk (.agg a) = Rows.uptoBulkAll a + 1 := by simp only [Rows.uptoBulk]
theorem all_append (a b : List (DataW H)) : Rows.uptoBulkAll (a ++ b) = Rows.uptoBulkAll a + Rows.uptoBulkAll b := by
 induction a with
 | nil => simp [Rows.uptoBulkAll]
 | cons x a ih => simp only [List.cons_append, Rows.uptoBulkAll, ih]; omega
theorem sum_le {α : Type} (wt : α → Nat) (D : Nat → DataW H) (xs : List α) (h : ∀ i (hi : i < xs.length), wt xs[i] ≤ Rows.uptoBulk (D i)) : (xs.map wt).sum ≤ Rows.uptoBulkAll ((List.range xs.length).map D) := by
 have : ∀ n, n ≤ xs.length → ((xs.take n).map wt).sum ≤ Rows.uptoBulkAll ((List.range n).map D) := by
  intro n
  induction n with
  | zero => intro _; simp
  | succ n ih =>
   intro hn
   have i := ih (by omega)
   have e : xs.take (n + 1) = xs.take n ++ [xs[n]] := by rw [List.take_add_one, List.getElem?_eq_getElem (by omega)]; rfl
   rw [e, List.range_succ, List.map_append, List.map_append, List.sum_append, all_append]
   have := h n (by omega)
   simp only [List.map_cons, List.map_nil, List.sum_cons, List.sum_nil, Rows.uptoBulkAll]
   omega
 have := this xs.length (Nat.le_refl _)
 rwa [List.take_of_length_le (Nat.le_refl _)] at this
end Bulk
section
variable {H : Type} {enc : TypeId × Value → H} {P : Program} {w : World} {base : Nat} {spare : Nat → Bool} {held : Bool}
end
set_option maxRecDepth 20000
section
variable {H : Type} {enc : TypeId × Value → H} {w : World} {base : Nat} {spare : Nat → Bool} {held : Bool}
theorem open_flds_le {n : Nat} {c : Value} {y : DataW H × List MemPlace} (h : DataW.trod enc Tryz.prog w base spare held n 23 [c] = some y) :
  ∃ xs : List (ByteArray × ByteArray), SlR w e_ss c xs ∧ (xs.map (fun d => d.1.size + d.2.size + 2)).sum ≤ Rows.uptoBulk y.1 := by
 have ht : Tryz.prog.underlying 23 = some (.slice 57) := Tryz.underlying23
 have he := Tryz.underlying57
 have h0 := Tryz.underlying9
 rcases open_slice_fields ht he (by kernel_rfl) (by kernel_rfl) h with ⟨hcs, _⟩ | ⟨a, len, cap, m, D, Pl, hcs, _, hl, hm, hmm, hx, hi⟩
 ·simp only [List.cons.injEq, and_true] at hcs
  subst hcs
  exact ⟨[], SlR.nil _ _, by simp⟩
 ·simp only [List.cons.injEq, and_true] at hcs
  subst hcs
  have hlm : len ≤ m := by rw [hmm]; split <;> omega
  obtain ⟨xs, hxl, hs, hR⟩ := slr_of (w := w) (en := e_ss) (size := 2) (a := a) (len := len) (cap := cap) (fun i d => d.1.size + d.2.size + 2 ≤ Rows.uptoBulk (D i)) (fun _ => rfl) hl (by omega) (fun i hi' => by
   obtain ⟨ys, n', hD, _, hyl, hfl⟩ := hi i (by omega)
   obtain ⟨v0, y0, c0, g0, t0⟩ := hfl 0 _ rfl
   obtain ⟨v1, y1, c1, g1, t1⟩ := hfl 1 _ rfl
   obtain ⟨x0, e0, z0, _⟩ := DataW.trod_string h0 t0
   obtain ⟨x1, e1, z1, _⟩ := DataW.trod_string h0 t1
   simp only [List.cons.injEq, and_true] at e0 e1
   subst e0 e1 z0 z1
   have hys : ys = [_, _] := List.ext_getElem? (l₂ := [(DataW.lit (.string x0.data.toList), []), (DataW.lit (.string x1.data.toList), [])]) (fun j => by
    match j with
    | 0 => exact g0
    | 1 => exact g1
    | j + 2 => rw [List.getElem?_eq_none (by rw [hyl]; simp), List.getElem?_eq_none (by simp)])
   refine ⟨(x0, x1), fun j u hu => ?_, ?_⟩
   ·match j, hu with
    | 0, hu => simp only [e_ss, List.getElem?_cons_zero, List.getElem?_cons_succ, Option.some.injEq] at hu; subst hu; exact c0
    | 1, hu => simp only [e_ss, List.getElem?_cons_zero, List.getElem?_cons_succ, Option.some.injEq] at hu; subst hu; exact c1
    | j + 2, hu => simp [e_ss] at hu
   ·rw [hD, hys]; simp only [List.map_cons, List.map_nil, Rows.uptoBulk, Rows.uptoBulkAll, ByteArray.size, Array.length_toList]; omega)
  refine ⟨xs, hs, ?_⟩
  subst hxl
  have h1 := Bulk.sum_le (fun (d : ByteArray × ByteArray) => d.1.size + d.2.size + 2) D xs (fun i hi => hR i hi)
  have hxx := congrArg Prod.fst hx
  simp only at hxx
  rw [hxx]
  exact Nat.le_trans h1 (Bulk.slice_le _ _)
end
set_option maxRecDepth 20000
def sv (g : Option Addr × Nat × Nat) : Value := .slice g.1 g.2.1 g.2.2
def fwt (l : List Fld) : Nat := (l.map (fun d => d.1.size + d.2.size + 2)).sum
structure Stq where
 st : Stp
 fq : List Fld
 fh : List Fld
 fk : List Fld
 ff : List Fld
def e_sq (y : Stq) : List Value := e_st y.st
def Stq.wt (y : Stq) : Nat := (y.st.u 0).size + (y.st.u 1).size + (y.st.u 2).size + (y.st.u 3).size + (y.st.u 4).size + (y.st.u 5).size + (y.st.u 6).size + (y.st.u 7).size + fwt y.fq + fwt y.fh + fwt y.fk + fwt y.ff + 1
structure Stq.Ok (w : World) (y : Stq) : Prop where
 q : SlR w e_ss (sv (y.st.g 1)) y.fq
 h : SlR w e_ss (sv (y.st.g 2)) y.fh
 k : SlR w e_ss (sv (y.st.g 3)) y.fk
 f : SlR w e_ss (sv (y.st.g 4)) y.ff
 wk : Wide y.st.k
 wa : Wide y.st.a
 wb : Wide y.st.b
theorem Stq.Ok.below {w w' : World} {y : Stq} (h : y.Ok w) (hb : Below w.heap.size w w') : y.Ok w' := ⟨h.q.below hb, h.h.below hb, h.k.below hb, h.f.below hb, h.wk, h.wa, h.wb⟩
theorem sv_of {w : World} {α : Type} {en : α → List Value} {v : Value} {l : List α} (h : SlR w en v l) : ∃ g, v = sv g := by
 obtain ⟨A, c, rfl, _⟩ := h
 exact ⟨(A, _, _), rfl⟩
section
variable {H : Type} {enc : TypeId × Value → H} {w : World} {base : Nat} {spare : Nat → Bool} {held : Bool}
theorem req_le {n : Nat} {c0 c1 c2 c3 : Value} {x : DataW H × List MemPlace} (h : DataW.trod enc Tryz.prog w base spare held n 25 [c0, c1, c2, c3] = some x) :
  ∃ s0 s1 g s3 l, c0 = .string s0 ∧ c1 = .string s1 ∧ c2 = sv g ∧ c3 = .string s3 ∧ SlR w e_ss (sv g) l ∧ s0.size + s1.size + s3.size + fwt l + 1 ≤ Rows.uptoBulk x.1 := by
 have hus := Tryz.underlying9
 obtain ⟨xs, n, _, hx, -, hlen, hfl⟩ := DataW.trod_struct Tryz.underlying25 h
 have hl4 : xs.length = 4 := hlen
 obtain ⟨y0, y1, y2, y3, rfl⟩ : ∃ y0 y1 y2 y3, xs = [y0, y1, y2, y3] := by
  match xs, hl4 with
  | [y0, y1, y2, y3], _ => exact ⟨y0, y1, y2, y3, rfl⟩
 have k4 : Tryz.prog.cellsOf 9 = 1 := by kernel_rfl
 have k5 : Tryz.prog.cellsOf 23 = 1 := by kernel_rfl
 have g0 := hfl 0 _ rfl
 have g1 := hfl 1 _ rfl
 have g2 := hfl 2 _ rfl
 have g3 := hfl 3 _ rfl
 try simp only [k4, k5, Value.cells] at g0
 try simp only [k4, k5, Value.cells] at g1
 try simp only [k4, k5, Value.cells] at g2
 try simp only [k4, k5, Value.cells] at g3
 obtain ⟨x0, e0, u0, -⟩ := DataW.trod_string hus g0
 obtain ⟨x1, e1, u1, -⟩ := DataW.trod_string hus g1
 obtain ⟨x3, e3, u3, -⟩ := DataW.trod_string hus g3
 have r2' : DataW.trod enc Tryz.prog w base spare held n 23 [c2] = some y2 := g2
 obtain ⟨l, hl, hsum⟩ := open_flds_le r2'
 have f0 : [c0] = [Value.string x0] := e0
 have f1 : [c1] = [Value.string x1] := e1
 have f3 : [c3] = [Value.string x3] := e3
 simp only [List.cons.injEq, and_true] at f0 f1 f3
 subst f0 f1 f3
 obtain ⟨g, rfl⟩ := sv_of hl
 refine ⟨x0, x1, g, x3, l, rfl, rfl, rfl, rfl, hl, ?_⟩
 have hbulk : Rows.uptoBulk x.1 = Rows.uptoBulk y0.1 + Rows.uptoBulk y1.1 + Rows.uptoBulk y2.1 + Rows.uptoBulk y3.1 + 1 := by
  have h1 := congrArg Prod.fst hx
  simp only [List.map_cons, List.map_nil] at h1
  rw [h1, Bulk.agg_eq]
  simp [Rows.uptoBulkAll] <;> omega
 have e0' : Rows.uptoBulk y0.1 = x0.size + 1 := by rw [congrArg Prod.fst u0, Bulk.str, Array.length_toList]; rfl
 have e1' : Rows.uptoBulk y1.1 = x1.size + 1 := by rw [congrArg Prod.fst u1, Bulk.str, Array.length_toList]; rfl
 have e3' : Rows.uptoBulk y3.1 = x3.size + 1 := by rw [congrArg Prod.fst u3, Bulk.str, Array.length_toList]; rfl
 have hs2 : fwt l ≤ Rows.uptoBulk y2.1 := hsum
 rw [hbulk, e0', e1', e3']
 omega
theorem resp_le {n : Nat} {c0 c1 c2 c3 : Value} {x : DataW H × List MemPlace} (h : DataW.trod enc Tryz.prog w base spare held n 27 [c0, c1, c2, c3] = some x) :
  ∃ s0 s1 g s3 l, c0 = .int .i64 s0 ∧ c1 = .string s1 ∧ c2 = sv g ∧ c3 = .string s3 ∧ SlR w e_ss (sv g) l ∧ s1.size + s3.size + fwt l + 1 ≤ Rows.uptoBulk x.1 := by
 have hus := Tryz.underlying9
 have hui := Tryz.underlying3
 obtain ⟨xs, n, _, hx, -, hlen, hfl⟩ := DataW.trod_struct Tryz.underlying27 h
 have hl4 : xs.length = 4 := hlen
 obtain ⟨y0, y1, y2, y3, rfl⟩ : ∃ y0 y1 y2 y3, xs = [y0, y1, y2, y3] := by
  match xs, hl4 with
  | [y0, y1, y2, y3], _ => exact ⟨y0, y1, y2, y3, rfl⟩
 have k3 : Tryz.prog.cellsOf 3 = 1 := by kernel_rfl
 have k4 : Tryz.prog.cellsOf 9 = 1 := by kernel_rfl
 have k5 : Tryz.prog.cellsOf 23 = 1 := by kernel_rfl
 have g0 := hfl 0 _ rfl
 have g1 := hfl 1 _ rfl
 have g2 := hfl 2 _ rfl
 have g3 := hfl 3 _ rfl
 try simp only [k3, k4, k5, Value.cells] at g0
 try simp only [k3, k4, k5, Value.cells] at g1
 try simp only [k3, k4, k5, Value.cells] at g2
 try simp only [k3, k4, k5, Value.cells] at g3
 obtain ⟨x0, e0, u0, -⟩ := DataW.trod_int hui g0
 obtain ⟨x1, e1, u1, -⟩ := DataW.trod_string hus g1
 obtain ⟨x3, e3, u3, -⟩ := DataW.trod_string hus g3
 have r2' : DataW.trod enc Tryz.prog w base spare held n 23 [c2] = some y2 := g2
 obtain ⟨l, hl, hsum⟩ := open_flds_le r2'
 have f0 : [c0] = [Value.int .i64 x0] := e0
 have f1 : [c1] = [Value.string x1] := e1
 have f3 : [c3] = [Value.string x3] := e3
 simp only [List.cons.injEq, and_true] at f0 f1 f3
 subst f0 f1 f3
 obtain ⟨g, rfl⟩ := sv_of hl
 refine ⟨x0, x1, g, x3, l, rfl, rfl, rfl, rfl, hl, ?_⟩
 have hbulk : Rows.uptoBulk y1.1 + Rows.uptoBulk y2.1 + Rows.uptoBulk y3.1 + 1 ≤ Rows.uptoBulk x.1 := by
  have h1 := congrArg Prod.fst hx
  simp only [List.map_cons, List.map_nil] at h1
  rw [h1, Bulk.agg_eq]
  simp [Rows.uptoBulkAll] <;> omega
 have e1' : Rows.uptoBulk y1.1 = x1.size + 1 := by rw [congrArg Prod.fst u1, Bulk.str, Array.length_toList]; rfl
 have e3' : Rows.uptoBulk y3.1 = x3.size + 1 := by rw [congrArg Prod.fst u3, Bulk.str, Array.length_toList]; rfl
 have hs2 : fwt l ≤ Rows.uptoBulk y2.1 := hsum
 omega
theorem held_le {n : Nat} {c0 c1 c2 c3 c4 c5 c6 c7 c8 c9 c10 : Value} {x : DataW H × List MemPlace} (h : DataW.trod enc Tryz.prog w base spare held n 29 [c0, c1, c2, c3, c4, c5, c6, c7, c8, c9, c10] = some x) :
  ∃ s0 s1 g s3 l i4 s5 g' s7 k i8 i9 i10, c0 = .string s0 ∧ c1 = .string s1 ∧ c2 = sv g ∧ c3 = .string s3 ∧ c4 = .int .i64 i4 ∧ c5 = .string s5 ∧ c6 = sv g' ∧ c7 = .string s7 ∧ c8 = .int .i64 i8 ∧ c9 = .int .i64 i9 ∧ c10 = .int .i64 i10 ∧
   SlR w e_ss (sv g) l ∧ SlR w e_ss (sv g') k ∧ s0.size + s1.size + s3.size + s5.size + s7.size + fwt l + fwt k + 1 ≤ Rows.uptoBulk x.1 := by
 obtain ⟨xs, n, _, hx, -, hlen, hfl⟩ := DataW.trod_struct Tryz.underlying29 h
 have hl5 : xs.length = 5 := hlen
 obtain ⟨y0, y1, y2, y3, y4, rfl⟩ : ∃ y0 y1 y2 y3 y4, xs = [y0, y1, y2, y3, y4] := by
  match xs, hl5 with
  | [y0, y1, y2, y3, y4], _ => exact ⟨y0, y1, y2, y3, y4, rfl⟩
 have k3 : Tryz.prog.cellsOf 3 = 1 := by kernel_rfl
 have k6 : Tryz.prog.cellsOf 25 = 4 := by kernel_rfl
 have k7 : Tryz.prog.cellsOf 27 = 4 := by kernel_rfl
 have g0 := hfl 0 _ rfl
 have g1 := hfl 1 _ rfl
 have g2 := hfl 2 _ rfl
 have g3 := hfl 3 _ rfl
 have g4 := hfl 4 _ rfl
 try simp only [k3, k6, k7, Value.cells] at g0
 try simp only [k3, k6, k7, Value.cells] at g1
 try simp only [k3, k6, k7, Value.cells] at g2
 try simp only [k3, k6, k7, Value.cells] at g3
 try simp only [k3, k6, k7, Value.cells] at g4
 obtain ⟨s0, s1, g, s3, l, rfl, rfl, rfl, rfl, hl, hz0⟩ := req_le (c0 := c0) (c1 := c1) (c2 := c2) (c3 := c3) g0
 obtain ⟨i4, s5, g', s7, k, rfl, rfl, rfl, rfl, hk, hz1⟩ := resp_le (c0 := c4) (c1 := c5) (c2 := c6) (c3 := c7) g1
 obtain ⟨i8, rfl⟩ := one_int Tryz.underlying3 g2 c8 (List.mem_singleton.2 rfl)
 obtain ⟨i9, rfl⟩ := one_int Tryz.underlying3 g3 c9 (List.mem_singleton.2 rfl)
 obtain ⟨i10, rfl⟩ := one_int Tryz.underlying3 g4 c10 (List.mem_singleton.2 rfl)
 refine ⟨s0, s1, g, s3, l, i4, s5, g', s7, k, i8, i9, i10, rfl, rfl, rfl, rfl, rfl, rfl, rfl, rfl, rfl, rfl, rfl, hl, hk, ?_⟩
 have hbulk : Rows.uptoBulk y0.1 + Rows.uptoBulk y1.1 + 1 ≤ Rows.uptoBulk x.1 := by
  have h1 := congrArg Prod.fst hx
  simp only [List.map_cons, List.map_nil] at h1
  rw [h1, Bulk.agg_eq]
  simp [Rows.uptoBulkAll] <;> omega
 omega
theorem open_stq {r : Reach} {b0 : Nat} {v : Value} {d : DataW H} {p : List MemPlace} (hv : Value.okWide Tryz.prog w r b0 22 v) (h : DataW.Trod enc Tryz.prog w base spare held 22 v d p) (hb : Rows.uptoBulk d ≤ 1048576) :
  ∃ ys : List Stq, SlR w e_sq v ys ∧ (ys.map Stq.wt).sum ≤ 1048576 ∧ ∀ y ∈ ys, y.Ok w := by
 have ht : Tryz.prog.underlying 22 = some (.slice 61) := Tryz.underlying22
 have hs := Tryz.underlying61
 have hus := Tryz.underlying9
 have hui := Tryz.underlying3
 have k3 : Tryz.prog.cellsOf 3 = 1 := by kernel_rfl
 have k4 : Tryz.prog.cellsOf 9 = 1 := by kernel_rfl
 have k6 : Tryz.prog.cellsOf 61 = 22 := by kernel_rfl
 obtain ⟨A, len, cap, rfl⟩ := okWide_slice ht hv
 obtain ⟨fuel, hf⟩ := h
 rcases open_slice ht hf with ⟨hcs, _⟩ | ⟨a, len', cap', mm, nn, D, Pl, hcs, _, hl, hm, hmm, hx0, hi⟩
 ·simp [Value.cells] at hcs
  obtain ⟨rfl, rfl, rfl⟩ := hcs
  exact ⟨[], SlR.nil _ _, by simp, by simp⟩
 ·simp [Value.cells] at hcs
  obtain ⟨rfl, rfl, rfl⟩ := hcs
  have hlm : len ≤ mm := by rw [hmm]; split <;> omega
  have hxx := congrArg Prod.fst hx0
  simp only at hxx
  obtain ⟨ys, hxl, hsl, hR⟩ := slr_of (w := w) (en := e_sq) (size := 22) (a := a) (len := len) (cap := cap) (fun i y => y.Ok w ∧ Stq.wt y ≤ Rows.uptoBulk (D i)) (fun _ => rfl) hl (by omega) (fun i hi' => by
   obtain ⟨cs, hc, ht'⟩ := hi i (by omega)
   rw [k6] at hc
   obtain ⟨_, hcl, hat⟩ := World.cells?_some hc
   obtain ⟨c0, c1, c2, c3, c4, o, hcs⟩ := list22 hcl
   obtain ⟨xs, n, _, hx, -, hlen, hfl⟩ := DataW.trod_struct hs ht'
   have hl9 : xs.length = 9 := hlen
   obtain ⟨y0, y1, y2, y3, y4, y5, y6, y7, y8, rfl⟩ : ∃ y0 y1 y2 y3 y4 y5 y6 y7 y8, xs = [y0, y1, y2, y3, y4, y5, y6, y7, y8] := by
    match xs, hl9 with
    | [y0, y1, y2, y3, y4, y5, y6, y7, y8], _ => exact ⟨y0, y1, y2, y3, y4, y5, y6, y7, y8, rfl⟩
   have g0 := hfl 0 _ rfl
   have g1 := hfl 1 _ rfl
   have g2 := hfl 2 _ rfl
   have g3 := hfl 3 _ rfl
   have g4 := hfl 4 _ rfl
   have g5 := hfl 5 _ rfl
   have g6 := hfl 6 _ rfl
   have g7 := hfl 7 _ rfl
   have g8 := hfl 8 _ rfl
   subst hcs
   try simp only [k3, k4, Value.cells] at g0
   try simp only [k3, k4, Value.cells] at g1
   try simp only [k3, k4, Value.cells] at g2
   try simp only [k3, k4, Value.cells] at g3
   try simp only [k3, k4, Value.cells] at g4
   have k5 : Tryz.prog.cellsOf 59 = 1 := by kernel_rfl
   have k7 : Tryz.prog.cellsOf 25 = 4 := by kernel_rfl
   have k8 : Tryz.prog.cellsOf 29 = 11 := by kernel_rfl
   have k9 : Tryz.prog.cellsOf 23 = 1 := by kernel_rfl
   try simp only [k5, k7, k8, k9, Value.cells] at g5
   try simp only [k5, k7, k8, k9, Value.cells] at g6
   try simp only [k5, k7, k8, k9, Value.cells] at g7
   try simp only [k5, k7, k8, k9, Value.cells] at g8
   obtain ⟨o0, p0⟩ := one_slice Tryz.underlying59 g5 (o 0) (List.mem_singleton.2 rfl)
   obtain ⟨o1, o2, o3, o4, fq, p1, p2, p3, p4, hq, hzq⟩ := req_le (c0 := o 1) (c1 := o 2) (c2 := o 3) (c3 := o 4) g6
   obtain ⟨o5, o6, o7, o8, fh, o9, o10, o11, o12, fk, o13, o14, o15, p5, p6, p7, p8, p9, p10, p11, p12, p13, p14, p15, hh, hk, hzh⟩ := held_le (c0 := o 5) (c1 := o 6) (c2 := o 7) (c3 := o 8) (c4 := o 9) (c5 := o 10) (c6 := o 11) (c7 := o 12) (c8 := o 13) (c9 := o 14) (c10 := o 15) g7
   have g8' : DataW.trod enc Tryz.prog w base spare held n 23 [o 16] = some y8 := g8
   obtain ⟨ff, hff, hzf⟩ := open_flds_le g8'
   obtain ⟨o16, p16⟩ := sv_of hff
   rw [p16] at hff
   obtain ⟨x0, e0, u0, z0⟩ := DataW.trod_int hui g0
   obtain ⟨x1, e1, u1, z1⟩ := DataW.trod_int hui g1
   obtain ⟨x2, e2, u2, z2⟩ := DataW.trod_int hui g2
   obtain ⟨x3, e3, u3, z3⟩ := DataW.trod_string hus g3
   obtain ⟨x4, e4, u4, z4⟩ := DataW.trod_string hus g4
   have f0 : [c0] = [Value.int .i64 x0] := e0
   have f1 : [c1] = [Value.int .i64 x1] := e1
   have f2 : [c2] = [Value.int .i64 x2] := e2
   have f3 : [c3] = [Value.string x3] := e3
   have f4 : [c4] = [Value.string x4] := e4
   simp only [List.cons.injEq, and_true] at f0 f1 f2 f3 f4
   subst f0 f1 f2 f3 f4
   rw [p0, p1, p2, p3, p4, p5, p6, p7, p8, p9, p10, p11, p12, p13, p14, p15, p16] at hat
   have hbulk : Rows.uptoBulk y6.1 + Rows.uptoBulk y7.1 + Rows.uptoBulk y8.1 + 1 ≤ Rows.uptoBulk (D i) := by
    have h1 := congrArg Prod.fst hx
    simp only [List.map_cons, List.map_nil] at h1
    rw [h1, Bulk.agg_eq]
    simp [Rows.uptoBulkAll] <;> omega
   refine ⟨⟨⟨x0, x1, x2, x3, x4, (fun j => if j = 0 then o0 else if j = 1 then o3 else if j = 2 then o7 else if j = 3 then o11 else o16), (fun j => if j = 0 then o1 else if j = 1 then o2 else if j = 2 then o4 else if j = 3 then o5 else if j = 4 then o6 else if j = 5 then o8 else if j = 6 then o10 else o12), (fun j => if j = 0 then o9 else if j = 1 then o13 else if j = 2 then o14 else o15)⟩, fq, fh, fk, ff⟩, fun j u hu => ?_, ⟨hq, hh, hk, hff, wide_of z0, wide_of z1, wide_of z2⟩, ?_⟩
   ·obtain ⟨hj, rfl⟩ := List.getElem?_eq_some_iff.1 hu
    rw [← Go.Deep.add_add]
    rw [← List.getElem?_eq_getElem hj]
    exact hat j (show j < 22 from hj)
   ·have hzf' : fwt ff ≤ Rows.uptoBulk y8.1 := hzf
    unfold Stq.wt
    simp only [if_true, if_false, Nat.reduceEqDiff, reduceIte]
    omega)
  subst hxl
  refine ⟨ys, hsl, ?_, fun q hq => ?_⟩
  ·have h1 := Bulk.sum_le Stq.wt D ys (fun i hi => (hR i hi).2)
   rw [hxx] at hb
   exact Nat.le_trans h1 (Nat.le_trans (Bulk.slice_le _ _) hb)
  ·obtain ⟨i, hi', rfl⟩ := List.mem_iff_getElem.1 hq
   exact (hR i hi').1
end
end Go.Proofs.YtgnblkmpoigejaaGreatDoor
namespace Go.Proofs.YtgnblkmpoigejaaGreatDoor
set_option maxRecDepth 20000
open Go.RowKit Go.Shelf
namespace Ca
open Bk
def hpOf (y : Stq) : Hp := ⟨y.st.u 3, y.st.u 4, y.st.u 5, y.fh, y.st.i 0, y.st.u 6, y.fk, y.st.u 7, y.st.i 1, y.st.i 2, y.st.i 3⟩
noncomputable def stepM (room : Int) (s : List En × Nat) (y : Stq) : List En × Nat :=
 if y.st.k % 5 = 3 then (findX s.1 (y.st.u 0) (y.st.u 1) y.fq, s.2)
 else if y.st.k % 5 = 4 then (renewX s.1 (y.st.u 0) (y.st.u 1) y.fq y.ff y.st.a y.st.b, s.2)
 else ((keepM room s.1 s.2 (hpOf y)).xs, (keepM room s.1 s.2 (hpOf y)).made)
noncomputable def runM (room : Int) (ys : List Stq) : List En × Nat := ys.foldl (stepM room) ([], 0)
theorem runM_snoc (room : Int) (ys : List Stq) (y : Stq) : runM room (ys ++ [y]) = stepM room (runM room ys) y := by
 unfold runM
 rw [List.foldl_append]
 rfl
theorem keepM_made (room : Int) (xs : List En) (made : Nat) (h : Hp) : (keepM room xs made h).made ≤ made + 1 := by
 unfold keepM
 repeat' split
 all_goals first | exact Nat.le_succ _ | exact Nat.le_refl _
theorem runM_inv {room : Int} (hr : 0 ≤ room) (ys : List Stq) : InvE room (runM room ys).1 (runM room ys).2 ∧ (runM room ys).2 ≤ ys.length := by
 refine snocRec (P := fun ys => InvE room (runM room ys).1 (runM room ys).2 ∧ (runM room ys).2 ≤ ys.length) ⟨InvE.nil hr, Nat.le_refl _⟩ (fun ys y ih => ?_) ys
 rw [runM_snoc]
 unfold stepM
 rw [List.length_append, List.length_singleton]
 split
 ·exact ⟨ih.1.find _ _ _, Nat.le_succ_of_le ih.2⟩
 ·split
  ·exact ⟨ih.1.renew _ _ _ _ _ _, Nat.le_succ_of_le ih.2⟩
  ·exact ⟨ih.1.keep _, Nat.le_trans (keepM_made _ _ _ _) (Nat.succ_le_succ ih.2)⟩
def fsum (ys : List Stq) : Nat := (ys.map fun y => fwt y.ff).sum
theorem fsum_snoc (ys : List Stq) (y : Stq) : fsum (ys ++ [y]) = fsum ys + fwt y.ff := by simp [fsum]
theorem fsum_le (ys : List Stq) : fsum ys ≤ (ys.map Stq.wt).sum := by
 induction ys with
 | nil => simp [fsum]
 | cons y l ih =>
  have e1 : fsum (y :: l) = fwt y.ff + fsum l := rfl
  have e2 : fwt y.ff ≤ y.wt := by unfold Stq.wt; omega
  rw [e1, List.map_cons, List.sum_cons]
  omega
theorem wt_mem {ys : List Stq} {y : Stq} (h : y ∈ ys) (hs : (ys.map Stq.wt).sum ≤ 1048576) : y.wt ≤ 1048576 := Nat.le_trans (sum_mem Stq.wt h) hs
theorem len_wt (ys : List Stq) : ys.length ≤ (ys.map Stq.wt).sum := sum_len Stq.wt (fun _ => by unfold Stq.wt; omega) ys
theorem norm_empty : normE ⟨#[]⟩ = 3 := by kernel_rfl
theorem keepM_zero (room : Int) (h : Hp) (ht : h.rt = ⟨#[]⟩) : keepM room [] 0 h = ⟨false, 3, [], 0⟩ := by
 unfold keepM
 rw [ht, norm_empty]
 rw [if_pos (by decide)]
set_option maxHeartbeats 8000000 in
theorem cached_any (room : Int) (v : Value) (ys : List Stq) (w : World) (h : SlR w e_sq v ys) (hok : ∀ y ∈ ys, y.Ok w) (hs : (ys.map Stq.wt).sum ≤ 1048576) (h1 : 1 ≤ room) (h2 : room ≤ 1000000) (he : EnvK w.heap.size w) :
  Calls Tryz.prog 10 #[.int .i64 room, v] w fun e w' => ∃ A M xs, e = .returned (ptr A.c) ∧ A.ex = [] ∧ CaS w' w.heap.size A room M xs (runM room ys).2 ∧ xs.map Ce.pl = (runM room ys).1 ∧ M ≤ 2097152 ∧ Below w.heap.size w w' := by
 obtain ⟨D, hD⟩ := Fr.isDate_ex
 have HD := Lib.hid hD
 have HOK := Lib.hid hok
 have HRow := Lib.hid (fun hn => SlR.rowN (size := 22) (fun _ => rfl) h hn)
 obtain ⟨Av, cv, rfl, hcv⟩ := h.form
 have hlen := len_wt ys
 have HSUM := Lib.hid hs
 have hyl : ys.length ≤ 1048576 := Nat.le_trans hlen hs
 have HENV := Lib.hid he
 clear h hok hs hlen he hD
 go_enter Tryz.func10, Tryz.ntmps10
 go_wp2_with fail
 refine (newC_any room w h1 h2).mono ?_
 rintro e w1 ⟨⟨A, rfl, hex, hS1⟩, b1⟩
 have HS1 := Lib.hid hS1
 have HB1 := Lib.hid b1
 have HKe := Lib.hid (keep_any w.heap.size 0 0 A room [] ⟨⟨#[]⟩, ⟨#[]⟩, .slice none 0 0, ⟨#[]⟩, 0, ⟨#[]⟩, ⟨#[]⟩, 0, 0, 0⟩ (.slice none 0 0) [] [] w1 hS1 hex (by decide) (by decide) (fun W _ => SlR.nil W e_ss) (fun W _ => SlR.nil W e_ss) (Nat.le_refl _) (Nat.le_refl _) (by decide) (by decide) (HENV.out.below b1))
 have hkz := keepM_zero room (plH ⟨⟨#[]⟩, ⟨#[]⟩, .slice none 0 0, ⟨#[]⟩, 0, ⟨#[]⟩, ⟨#[]⟩, 0, 0, 0⟩ [] []) rfl
 rw [show ([] : List Ce).map Ce.pl = [] from rfl, hkz] at HKe
 unfold KeepAns Fr.hv at HKe
 clear hS1 b1 hkz
 go_wp2_with fail
 refine HKe.out.mono ?_
 rintro e w2 ⟨rfl, ⟨xs0, hx0, hS2⟩, hr2⟩
 have hx0' : xs0 = [] := by simpa using hx0
 subst hx0'
 have HS2 := Lib.hid hS2
 have HB2 : Hid (Below w.heap.size w w2) := HB1.out.trans hr2.bel.to
 clear hS2 hr2 HKe hx0
 go_wp2_with fail
 go_loopw [32] (fun i wr => ∃ (k : Nat) (xs : List Ce), k ≤ ys.length ∧ i = .int .i64 k ∧ CaS wr w.heap.size A room (1048576 + fsum (ys.take k)) xs (runM room (ys.take k)).2 ∧ xs.map Ce.pl = (runM room (ys.take k)).1 ∧ Below w.heap.size w wr) (fun i _ => ys.length - (intOf i).toNat)
 case atStart => exact ⟨0, [], by omega, rfl, HS2.out.mono (Nat.zero_le _), rfl, HB2.out⟩
 case round =>
  obtain ⟨k, xs, hk, rfl, hS, hpl, hbel⟩ := hrel
  have HSr := Lib.hid hS
  have HPL := Lib.hid hpl
  have HBr := Lib.hid hbel
  by_cases hlt : k < ys.length
  ·obtain ⟨bb, off, c', he, hcc, hbb, hcell⟩ := HRow.out (by omega)
   injection he with g1 g2 g3
   subst g1 g3
   have hC : wr.rangeAt bb (off + k * 22) (e_st ys[k].st) := fun j v hv => (hbel.cell (p := ⟨bb, off + (k * 22) + j, none⟩) hbb).trans (by rw [Nat.add_assoc]; exact hcell k hlt j v hv)
   have hyk := HOK.out ys[k] (List.getElem_mem hlt)
   have hwy := wt_mem (List.getElem_mem hlt) HSUM.out
   have htk : ys.take (k + 1) = ys.take k ++ [ys[k]] := by rw [List.take_add_one, List.getElem?_eq_getElem hlt]; rfl
   have HRN : Hid (runM room (ys.take (k + 1)) = stepM room (runM room (ys.take k)) ys[k]) := by show _ = _; rw [htk]; exact runM_snoc _ _ _
   have HFN : Hid (fsum (ys.take (k + 1)) = fsum (ys.take k) + fwt ys[k].ff) := by show _ = _; rw [htk]; exact fsum_snoc _ _
   have hfs : fsum (ys.take (k + 1)) ≤ 1048576 := Nat.le_trans (fsum_le _) (Nat.le_trans (by
    conv => rhs; rw [← List.take_append_drop (k + 1) ys, List.map_append, List.sum_append]
    exact Nat.le_add_right _ _) HSUM.out)
   have hmd := (runM_inv (room := room) (by omega) (ys.take k)).2
   rw [List.length_take] at hmd
   have hmd' : (runM room (ys.take k)).2 ≤ 1048576 := by omega
   clear hcell g2 hcc hS hpl htk hmd
   rw [HFN.out] at hfs
   generalize runM room (ys.take k) = st at *
   generalize fsum (ys.take k) = fs at *
   generalize ys[k] = y at *
   have hO := Lib.hid (fun (W : World) => of_any y.st 5 W hyk.wk (by decide))
   have hst : (storeCells ⟨wr.heap.size, 0, none⟩ (e_st y.st)).run Tryz.prog (wr.alloc (.cells stZ 61)) = .ok () (wr.alloc (.cells (e_st y.st).toArray 61)) :=
    run_storeCells_new (P := Tryz.prog) wr 61 stZ (e_st y.st).toArray (by kernel_rfl) (by simp [stZ, e_st]) (by simp [e_st, Value.oneCell'])
   unfold stZ at hst
   have hB := Blk.new wr 61 (e_st y.st).toArray
   have hA := (Below.refl wr.heap.size wr).alloc (Nat.le_refl _) (.cells (e_st y.st).toArray 61)
   have HS5 := Lib.hid (HSr.out.below hA)
   have HB5 := Lib.hid (hbel.trans (hA.mono hbel.size))
   have hzr := hbel.size
   clear hbel
   go_wp2_with (first
    | refine wpList_load_mid rfl 61 (.tmp 34) rfl bb (off + k * 22) rfl (e_st y.st) _ hC Tryz.underlying61 rfl (by kernel_rfl) ?_
    | refine wpList_load_row rfl 61 (.tmp 10) rfl wr.heap.size rfl 61 (e_st y.st).toArray (0, 0) _ (heap_alloc_last wr _) Tryz.underlying61 rfl (by kernel_rfl) ?_)
   clear hst hC hA
   generalize wr.alloc _ = w5 at *
   refine (hO.out _).mono ?_
   rintro e w6 ⟨rfl, b6⟩
   have hB6 := hB.below b6 hB.lt
   have HS6 := Lib.hid (HS5.out.below b6)
   have HB6 := Lib.hid (HB5.out.trans (b6.mono HB5.out.size))
   have hq0 : 0 ≤ y.st.k % 5 := Int.emod_nonneg _ (by decide)
   have hq5 : y.st.k % 5 < 5 := Int.emod_lt_of_pos _ (by decide)
   have HSM : Hid (stepM room st y = if y.st.k % 5 = 3 then (findX st.1 (y.st.u 0) (y.st.u 1) y.fq, st.2)
    else if y.st.k % 5 = 4 then (renewX st.1 (y.st.u 0) (y.st.u 1) y.fq y.ff y.st.a y.st.b, st.2)
    else ((keepM room st.1 st.2 (hpOf y)).xs, (keepM room st.1 st.2 (hpOf y)).made)) := rfl
   generalize hq : y.st.k % 5 = q at *
   have hcase : q = 0 ∨ q = 1 ∨ q = 2 ∨ q = 3 ∨ q = 4 := by omega
   clear hq hq0 hq5 hB b6 hO
   have HST := Lib.hid (fun (l : List Fld) (g : Option Addr × Nat × Nat) (hsl : SlR w e_ss (sv g) l) (W : World) (hW : RM CT A.ms w.heap.size w6 W) => hsl.below (HB6.out.trans hW.bel.to))
   have hw1 : fwt y.fh ≤ 1048576 ∧ fwt y.fk ≤ 1048576 ∧ fwt y.fq ≤ 1048576 ∧ fwt y.ff ≤ 1048576 ∧ (y.st.u 4).size ≤ 1048576 ∧ (y.st.u 7).size ≤ 1048576 ∧ (y.st.u 1).size ≤ 1048576 := by unfold Stq.wt at hwy; omega
   have e1 : ∀ l, Fr.wt l = fwt l := fun _ => rfl
   have e2 : ∀ l, Vy.wt l = fwt l := fun _ => rfl
   have HE6 := Lib.hid (HENV.out.below HB6.out)
   have HKp := Lib.hid (keep_any w.heap.size (1048576 + fs) st.2 A room xs ⟨y.st.u 3, y.st.u 4, sv (y.st.g 2), y.st.u 5, y.st.i 0, y.st.u 6, y.st.u 7, y.st.i 1, y.st.i 2, y.st.i 3⟩ (sv (y.st.g 3)) y.fh y.fk w6 HS6.out hex (by omega) (by omega) (HST.out _ _ hyk.h) (HST.out _ _ hyk.k) (by rw [e1]; omega) (by rw [e1]; omega) (by show (y.st.u 4).size ≤ _; omega) (by show (y.st.u 7).size ≤ _; omega) HE6.out)
   have HFi := Lib.hid (find_any D HD.out w.heap.size (1048576 + fs) st.2 A room xs (y.st.u 0) (y.st.u 1) (sv (y.st.g 1)) (y.st.u 2) y.fq y.st.a w6 HS6.out (by omega) (by omega) (HST.out _ _ hyk.q) (by rw [e2]; omega) (by omega) HE6.out)
   have HRe := Lib.hid (renew_any w.heap.size (1048576 + fs) st.2 A room xs (y.st.u 0) (y.st.u 1) (sv (y.st.g 1)) (y.st.u 2) y.fq (sv (y.st.g 4)) y.ff y.st.a y.st.b w6 HS6.out (by omega) (by omega) (HST.out _ _ hyk.q) (by rw [e2]; omega) (by omega) (HST.out _ _ hyk.f) (by rw [e1]; omega) HE6.out)
   have HTP := Lib.hid (touchC_pl xs (y.st.u 0) (y.st.u 1) y.fq)
   rw [show plH ⟨y.st.u 3, y.st.u 4, sv (y.st.g 2), y.st.u 5, y.st.i 0, y.st.u 6, y.st.u 7, y.st.i 1, y.st.i 2, y.st.i 3⟩ y.fh y.fk = hpOf y from rfl, HPL.out] at HKp
   rw [HPL.out] at HRe HTP
   unfold KeepAns Fr.hv sv at HKp
   unfold rqV sv at HFi HRe
   have a1 : w6.cell? ⟨wr.heap.size, 1, none⟩ = some (.int .i64 y.st.a) := hB6.cell 1
   have a2 : w6.cell? ⟨wr.heap.size, 2, none⟩ = some (.int .i64 y.st.b) := hB6.cell 2
   have a21 : w6.cell? ⟨wr.heap.size, 21, none⟩ = some (.slice (y.st.g 4).1 (y.st.g 4).2.1 (y.st.g 4).2.2) := hB6.cell 21
   have hLq : w6.rangeAt wr.heap.size 6 [.string (y.st.u 0), .string (y.st.u 1), .slice (y.st.g 1).1 (y.st.g 1).2.1 (y.st.g 1).2.2, .string (y.st.u 2)] := World.rangeAt_of_block hB6 6 4
   clear e1 e2 hw1 hwy hyk
   rcases hcase with rfl | rfl | rfl | rfl | rfl
   ·have hL : w6.rangeAt wr.heap.size 10 [.string (y.st.u 3), .string (y.st.u 4), .slice (y.st.g 2).1 (y.st.g 2).2.1 (y.st.g 2).2.2, .string (y.st.u 5), .int .i64 (y.st.i 0), .string (y.st.u 6), .slice (y.st.g 3).1 (y.st.g 3).2.1 (y.st.g 3).2.2, .string (y.st.u 7), .int .i64 (y.st.i 1), .int .i64 (y.st.i 2), .int .i64 (y.st.i 3)] := World.rangeAt_of_block hB6 10 11
    have HSK : Hid (stepM room st y = ((keepM room st.1 st.2 (hpOf y)).xs, (keepM room st.1 st.2 (hpOf y)).made)) := by show _ = _; rw [HSM.out]; rw [if_neg (by decide), if_neg (by decide)]
    clear HSM
    go_wp2_with (first
     | refine wpList_load_mid rfl 29 (.tmp 43) rfl wr.heap.size 10 rfl _ _ hL Tryz.underlying29 rfl (by kernel_rfl) ?_)
    refine HKp.out.mono ?_
    rintro e w7 ⟨rfl, ⟨xs7, hx7, hS7⟩, hr7⟩
    have HS7 := Lib.hid hS7
    have HX7 := Lib.hid hx7
    have HB7 := Lib.hid (HB6.out.trans hr7.bel.to)
    clear hS7 hx7 hr7 hL
    go_wp2_with fail
    go_roundw
    case rel =>
     refine ⟨k + 1, xs7, by omega, by go_num, ?_, ?_, HB7.out⟩
     ·rw [HRN.out, HSK.out, HFN.out]
      exact HS7.out.mono (by omega)
     ·rw [HRN.out, HSK.out]
      exact HX7.out
    case measure => simp [intOf]; omega
   ·have hL : w6.rangeAt wr.heap.size 10 [.string (y.st.u 3), .string (y.st.u 4), .slice (y.st.g 2).1 (y.st.g 2).2.1 (y.st.g 2).2.2, .string (y.st.u 5), .int .i64 (y.st.i 0), .string (y.st.u 6), .slice (y.st.g 3).1 (y.st.g 3).2.1 (y.st.g 3).2.2, .string (y.st.u 7), .int .i64 (y.st.i 1), .int .i64 (y.st.i 2), .int .i64 (y.st.i 3)] := World.rangeAt_of_block hB6 10 11
    have HSK : Hid (stepM room st y = ((keepM room st.1 st.2 (hpOf y)).xs, (keepM room st.1 st.2 (hpOf y)).made)) := by show _ = _; rw [HSM.out]; rw [if_neg (by decide), if_neg (by decide)]
    clear HSM
    go_wp2_with (first
     | refine wpList_load_mid rfl 29 (.tmp 43) rfl wr.heap.size 10 rfl _ _ hL Tryz.underlying29 rfl (by kernel_rfl) ?_)
    refine HKp.out.mono ?_
    rintro e w7 ⟨rfl, ⟨xs7, hx7, hS7⟩, hr7⟩
    have HS7 := Lib.hid hS7
    have HX7 := Lib.hid hx7
    have HB7 := Lib.hid (HB6.out.trans hr7.bel.to)
    clear hS7 hx7 hr7 hL
    go_wp2_with fail
    go_roundw
    case rel =>
     refine ⟨k + 1, xs7, by omega, by go_num, ?_, ?_, HB7.out⟩
     ·rw [HRN.out, HSK.out, HFN.out]
      exact HS7.out.mono (by omega)
     ·rw [HRN.out, HSK.out]
      exact HX7.out
    case measure => simp [intOf]; omega
   ·have hL : w6.rangeAt wr.heap.size 10 [.string (y.st.u 3), .string (y.st.u 4), .slice (y.st.g 2).1 (y.st.g 2).2.1 (y.st.g 2).2.2, .string (y.st.u 5), .int .i64 (y.st.i 0), .string (y.st.u 6), .slice (y.st.g 3).1 (y.st.g 3).2.1 (y.st.g 3).2.2, .string (y.st.u 7), .int .i64 (y.st.i 1), .int .i64 (y.st.i 2), .int .i64 (y.st.i 3)] := World.rangeAt_of_block hB6 10 11
    have HSK : Hid (stepM room st y = ((keepM room st.1 st.2 (hpOf y)).xs, (keepM room st.1 st.2 (hpOf y)).made)) := by show _ = _; rw [HSM.out]; rw [if_neg (by decide), if_neg (by decide)]
    clear HSM
    go_wp2_with (first
     | refine wpList_load_mid rfl 29 (.tmp 43) rfl wr.heap.size 10 rfl _ _ hL Tryz.underlying29 rfl (by kernel_rfl) ?_)
    refine HKp.out.mono ?_
    rintro e w7 ⟨rfl, ⟨xs7, hx7, hS7⟩, hr7⟩
    have HS7 := Lib.hid hS7
    have HX7 := Lib.hid hx7
    have HB7 := Lib.hid (HB6.out.trans hr7.bel.to)
    clear hS7 hx7 hr7 hL
    go_wp2_with fail
    go_roundw
    case rel =>
     refine ⟨k + 1, xs7, by omega, by go_num, ?_, ?_, HB7.out⟩
     ·rw [HRN.out, HSK.out, HFN.out]
      exact HS7.out.mono (by omega)
     ·rw [HRN.out, HSK.out]
      exact HX7.out
    case measure => simp [intOf]; omega
   ·have HSK : Hid (stepM room st y = (findX st.1 (y.st.u 0) (y.st.u 1) y.fq, st.2)) := by show _ = _; rw [HSM.out]; rw [if_pos rfl]
    clear HSM
    go_wp2_with (first
     | refine wpList_load_mid rfl 25 (.tmp 49) rfl wr.heap.size 6 rfl _ _ hLq Tryz.underlying25 rfl (by kernel_rfl) ?_)
    refine HFi.out.mono ?_
    rintro e w7 ⟨hans, hS7, hr7⟩
    have HS7 := Lib.hid hS7
    have HB7 := Lib.hid (HB6.out.trans hr7.bel.to)
    have hre : ∃ z, e = .returned z := by
     unfold FindA at hans
     split at hans
     ·exact ⟨_, hans⟩
     ·obtain ⟨u, v, he, -⟩ := hans
      exact ⟨_, he⟩
    obtain ⟨z, rfl⟩ := hre
    clear hS7 hr7 hans hLq
    go_wp2_with fail
    go_roundw
    case rel =>
     refine ⟨k + 1, touchC xs (bestC xs (y.st.u 0) (y.st.u 1) y.fq), by omega, by go_num, ?_, ?_, HB7.out⟩
     ·rw [HRN.out, HSK.out, HFN.out]
      exact HS7.out.mono (by omega)
     ·rw [HRN.out, HSK.out]
      exact HTP.out
    case measure => simp [intOf]; omega
   ·have HSK : Hid (stepM room st y = (renewX st.1 (y.st.u 0) (y.st.u 1) y.fq y.ff y.st.a y.st.b, st.2)) := by show _ = _; rw [HSM.out]; rw [if_neg (by decide), if_pos rfl]
    clear HSM
    go_wp2_with (first
     | refine wpList_load_mid rfl 25 (.tmp 57) rfl wr.heap.size 6 rfl _ _ hLq Tryz.underlying25 rfl (by kernel_rfl) ?_)
    refine HRe.out.mono ?_
    rintro e w7 ⟨rfl, ⟨xs7, hx7, hS7⟩, hr7⟩
    have HS7 := Lib.hid hS7
    have HX7 := Lib.hid hx7
    have HB7 := Lib.hid (HB6.out.trans hr7.bel.to)
    clear hS7 hx7 hr7 hLq
    go_wp2_with fail
    go_roundw
    case rel =>
     refine ⟨k + 1, xs7, by omega, by go_num, ?_, ?_, HB7.out⟩
     ·rw [HRN.out, HSK.out, HFN.out, ← Nat.add_assoc]
      exact HS7.out
     ·rw [HRN.out, HSK.out]
      exact HX7.out
    case measure => simp [intOf]; omega
  ·obtain rfl : k = ys.length := by omega
   have hT : ys.take ys.length = ys := List.take_of_length_le (Nat.le_refl _)
   rw [hT] at HSr HPL
   have hfl := Nat.le_trans (fsum_le ys) HSUM.out
   go_wp2_with fail
   go_ret
   exact ⟨A, _, xs, rfl, hex, HSr.out, HPL.out, by omega, HBr.out⟩
end Ca
set_option maxRecDepth 20000
namespace Ca
open Bk
structure Mv (n m : Lim) (w w' : World) : Prop where
 kp : ∀ k, k < w.heap.size → n.ok k → w'.heap[k]? = w.heap[k]? ∧ m.ok k
 sz : w.heap.size ≤ w'.heap.size
 hz : m.lo ≤ w'.heap.size
section
variable {n m : Lim} {w w' : World}
theorem Blk.mv {g : Nat} {t : TypeId} {cs : Array Value} (hb : Blk w g t cs) (h : Mv n m w w') (hg : n.ok g) : Blk w' g t cs := (h.kp g hb.lt hg).1.trans hb
theorem MapS.mv {P : Program} {kt : TypeId} {b c : Nat} {f : ByteArray → Option Value} (hm : MapS P w kt b f c) (h : Mv n m w w') (hb : n.ok b) : MapS P w' kt b f c := by
 have hl := hm.lt
 obtain ⟨D, ⟨es, clock, hh, F, hs, hD⟩, r⟩ := hm
 exact ⟨D, ⟨es, clock, (h.kp b hl hb).1.trans hh, F, hs, hD⟩, r⟩
theorem Owns.mv {α : Type} {base : Nat} {e : TypeId} {size : Nat} {enc : α → List Value} {v : Value} {xs : List α} (ho : Owns w base e size enc v xs) (h : Mv n m w w') (hb : ∀ b, v.ownBlock = some b → n.ok b) : Owns w' base e size enc v xs := by
 refine ⟨ho.1, ho.2.imp id ?_⟩
 rintro ⟨g, cap, cur, h1, h2, h3, h4⟩
 exact ⟨g, cap, cur, h1, h2, (h.kp g (heap_lt' h3) (hb g (by rw [h1]; rfl))).1.trans h3, h4⟩
theorem Chn.mv {c mb : Nat} {ns : List Nd} (hc : Chn w n c mb ns) (h : Mv n m w w') : Chn w' m c mb ns := by
 have hmb := hc.mp.lt
 have hcl : c < w.heap.size := by obtain ⟨_, _, hb⟩ := hc.root; exact hb.lt
 have hroot : RootB w' c mb := by
  obtain ⟨pv, nx, hb⟩ := hc.root
  exact ⟨pv, nx, Blk.mv hb h hc.b0.1⟩
 have hnode : ∀ x ∈ ns, NodeB w' x := fun x hx => by
  obtain ⟨pv, nx, hb⟩ := hc.node x hx
  exact ⟨pv, nx, Blk.mv hb h (hc.b0.2.2 x hx)⟩
 have hcell : ∀ (i : Nat) (a : Nat), (a = c ∨ ∃ x ∈ ns, x.1 = a) → w'.cell? ⟨a, i, none⟩ = w.cell? ⟨a, i, none⟩ := by
  intro i a ha
  rcases ha with rfl | ⟨x, hx, rfl⟩
  ·obtain ⟨pv, nx, hb⟩ := hc.root
   rw [hb.cell i, (Blk.mv hb h hc.b0.1).cell i]
  ·obtain ⟨pv, nx, hb⟩ := hc.node x hx
   rw [hb.cell i, (Blk.mv hb h (hc.b0.2.2 x hx)).cell i]
 refine ⟨hroot, hnode, ?_, hc.nd, hc.kd, MapS.mv hc.mp h hc.b0.2.1, ⟨(h.kp _ hcl hc.b0.1).2, (h.kp _ hmb hc.b0.2.1).2, fun x hx => (h.kp _ (hc.node x hx).lt (hc.b0.2.2 x hx)).2⟩, h.hz⟩
 refine hc.ring.keep (fun a ha => ?_) (fun a ha => ?_)
 ·refine hcell 3 a ?_
  have := List.dropLast_subset _ ha
  simp only [List.mem_cons, List.mem_append, List.mem_map, List.not_mem_nil, or_false] at this
  rcases this with h | ⟨x, hx, h⟩ | h
  ·exact .inl h
  ·exact .inr ⟨x, hx, h⟩
  ·exact .inl h
 ·refine hcell 2 a ?_
  simp only [List.tail_cons, List.mem_append, List.mem_map, List.mem_cons, List.not_mem_nil, or_false] at ha
  rcases ha with ⟨x, hx, h⟩ | h
  ·exact .inr ⟨x, hx, h⟩
  ·exact .inl h
theorem RowS.mv {p c mb : Nat} {room : Int} {ns : List Nd} (hr : RowS w n p room c mb ns) (h : Mv n m w w') : RowS w' m p room c mb ns :=
 ⟨Blk.mv hr.blk h hr.p0, (h.kp _ hr.blk.lt hr.p0).2, Chn.mv hr.ch h, hr.rm, hr.sz, hr.us, hr.ks⟩
theorem PileS.mv {p mb : Nat} {room : Int} {es : List Pe} (hp : PileS w n p room mb es) (h : Mv n m w w') : PileS w' m p room mb es :=
 ⟨Blk.mv hp.blk h hp.b0.1, fun x hx => Blk.mv (hp.node x hx) h (hp.b0.2.2 x hx), MapS.mv hp.mp h hp.b0.2.1, hp.nd, hp.kd, ⟨(h.kp _ hp.blk.lt hp.b0.1).2, (h.kp _ hp.mp.lt hp.b0.2.1).2, fun x hx => (h.kp _ (hp.node x hx).lt (hp.b0.2.2 x hx)).2⟩, h.hz, hp.rm, hp.sz, hp.us⟩
theorem EntB.mv {M : Nat} {x : Ce} (he : EntB w n M x) (h : Mv n m w w') (hx : n.ok x.b) : EntB w' m M x :=
 ⟨Blk.mv he.blk h hx, Owns.mv he.rf h (fun b e => he.ow b (.inl e)), Owns.mv he.u h (fun b e => he.ow b (.inr (.inl e))), Owns.mv he.pv h (fun b e => he.ow b (.inr (.inr e))), he.bd, he.wl, he.wk, fun b e => (h.kp b (by
  rcases e with e | e | e
  ·exact (he.rf.lt b e).2
  ·exact (he.u.lt b e).2
  ·exact (he.pv.lt b e).2) (he.ow b e)).2⟩
theorem CaS.mv {M made : Nat} {A : Ad} {room : Int} {xs : List Ce} (hc : CaS w n A room M xs made) (h : Mv n m w w') : CaS w' m A room M xs made := by
 obtain ⟨ns, hr, hk⟩ := hc.row
 obtain ⟨es, cs, hp, hcs⟩ := hc.t.pile
 exact ⟨⟨Blk.mv hc.t.blk h hc.t.b0.1, ⟨es, cs, ⟨PileS.mv hp.st h, hp.rep⟩, hcs⟩, MapS.mv hc.t.mp h hc.t.b0.2.1, fun x hx => EntB.mv (hc.t.ent x hx) h (hc.t.b0.2.2 x hx), hc.t.nd, hc.t.kd, hc.t.nm,
  ⟨(h.kp _ hc.t.blk.lt hc.t.b0.1).2, (h.kp _ hc.t.mp.lt hc.t.b0.2.1).2, fun x hx => (h.kp _ (hc.t.ent x hx).blk.lt (hc.t.b0.2.2 x hx)).2⟩, hc.t.ne, hc.t.len, hc.t.exl⟩, ns, RowS.mv hr h, hk⟩
end
theorem Blk.ty {w : World} {g : Nat} {t t' : TypeId} {cs cs' : Array Value} (h : Blk w g t cs) (h' : Blk w g t' cs') : t = t' := by
 unfold Blk at h h'
 rw [h] at h'
 injection h' with h'
 injection h' with _ h'
theorem CaS.relim {w : World} {n m : Lim} {M made : Nat} {A : Ad} {room : Int} {xs : List Ce} (hc : CaS w n A room M xs made) (h1 : ∀ k t cs, Blk w k t cs → t ≠ 57 → n.ok k → m.ok k) (h2 : ∀ k es ck, w.heap[k]? = some (.map es ck) → n.ok k → m.ok k)
  (h3 : ∀ x ∈ xs, ∀ g, x.h.rf.ownBlock = some g ∨ x.u.ownBlock = some g → n.ok g → m.ok g) (hz : m.lo ≤ w.heap.size) : CaS w m A room M xs made := by
 obtain ⟨ns, hr, hk⟩ := hc.row
 obtain ⟨es, ct, hp, hcs⟩ := hc.t.pile
 have hm : ∀ {b : Nat} {f c}, MapS Tryz.prog w 9 b f c → n.ok b → m.ok b := fun hm hn => by
  obtain ⟨_, _, h⟩ := hm.isMapObj
  exact h2 _ _ _ h hn
 refine ⟨⟨hc.t.blk, ⟨es, ct, ⟨⟨hp.st.blk, hp.st.node, hp.st.mp, hp.st.nd, hp.st.kd, ⟨h1 _ _ _ hp.st.blk (by decide) hp.st.b0.1, hm hp.st.mp hp.st.b0.2.1, fun x hx => h1 _ _ _ (hp.st.node x hx) (by decide) (hp.st.b0.2.2 x hx)⟩, hz, hp.st.rm, hp.st.sz, hp.st.us⟩, hp.rep⟩, hcs⟩, hc.t.mp, fun x hx => ?_, hc.t.nd, hc.t.kd, hc.t.nm,
  ⟨h1 _ _ _ hc.t.blk (by decide) hc.t.b0.1, hm hc.t.mp hc.t.b0.2.1, fun x hx => h1 _ _ _ (hc.t.ent x hx).blk (by decide) (hc.t.b0.2.2 x hx)⟩, hc.t.ne, hc.t.len, hc.t.exl⟩, ns, ?_, hk⟩
 ·have he := hc.t.ent x hx
  refine ⟨he.blk, he.rf, he.u, he.pv, he.bd, he.wl, he.wk, fun b e => ?_⟩
  have hn := he.ow b e
  rcases e with e | e | e
  ·exact h3 x hx b (.inl e) hn
  ·exact h3 x hx b (.inr e) hn
  ·have hpv := he.pv
   rcases hpv.2 with ⟨h, _⟩ | ⟨g', cap, cur, q1, q2, q3, q4⟩
   ·rw [h] at e
    cases e
   ·rw [q1] at e
    injection e with e
    subst e
    exact h1 _ _ cur q3 (by decide) hn
 ·refine ⟨hr.blk, h1 _ _ _ hr.blk (by decide) hr.p0, ⟨hr.ch.root, hr.ch.node, hr.ch.ring, hr.ch.nd, hr.ch.kd, hr.ch.mp, ⟨?_, hm hr.ch.mp hr.ch.b0.2.1, fun x hx => ?_⟩, hz⟩, hr.rm, hr.sz, hr.us, hr.ks⟩
  ·obtain ⟨_, _, hb⟩ := hr.ch.root
   exact h1 _ _ _ hb (by decide) hr.ch.b0.1
  ·obtain ⟨_, _, hb⟩ := hr.ch.node x hx
   exact h1 _ _ _ hb (by decide) (hr.ch.b0.2.2 x hx)
theorem CaS.avoid {w : World} {n : Lim} {M made : Nat} {A : Ad} {room : Int} {xs : List Ce} (P : Nat → Prop) (hc : CaS w n A room M xs made) (hF : ∀ g, P g → ∃ cs, Blk w g 57 cs) (he : ∀ x ∈ xs, ∀ g, P g → x.h.rf.ownBlock ≠ some g ∧ x.u.ownBlock ≠ some g) : CaS w ⟨w.heap.size, fun k => n.ok k ∧ ¬ P k⟩ A room M xs made :=
 hc.relim (fun k t cs hb ht hn => .inr ⟨hn, fun hp => by obtain ⟨_, h⟩ := hF k hp; exact ht (Blk.ty hb h)⟩)
  (fun k es ck hm hn => .inr ⟨hn, fun hp => by obtain ⟨_, h⟩ := hF k hp; unfold Blk at h; rw [hm] at h; cases h⟩)
  (fun x hx g e hn => .inr ⟨hn, fun hp => by
   have := he x hx g hp
   rcases e with e | e
   ·exact this.1 e
   ·exact this.2 e⟩) (Nat.le_refl _)
end Ca
set_option maxRecDepth 20000
namespace Ca
open Bk
def Spl (u v : Value) (w w' : World) : Prop := w'.os = w.os ∧ w'.tape = w.tape ∧ w'.output = w.output ∧ w.heap.size ≤ w'.heap.size ∧ ∀ j, j < w.heap.size → u.ownBlock ≠ some j → v.ownBlock ≠ some j → w'.heap[j]? = w.heap[j]?
theorem Spl.grown {u v : Value} {w w1 w2 : World} {g : Nat} (h : Spl u v w w1) (hg : w1.grownBy w2 (some g)) (ho : u.ownBlock = some g ∨ v.ownBlock = some g) : Spl u v w w2 := by
 obtain ⟨h1, h2, h3, h4, h5⟩ := h
 refine ⟨hg.os.trans h1, hg.tape.trans h2, hg.output.trans h3, Nat.le_trans h4 hg.size, fun j hj hu hv => ?_⟩
 refine (hg.block j (Nat.lt_of_lt_of_le hj h4) ?_).trans (h5 j hj hu hv)
 intro e
 injection e with e
 subst e
 rcases ho with ho | ho
 ·exact hu ho
 ·exact hv ho
theorem Spl.of_below {u v : Value} {w w' : World} (h : Below w.heap.size w w') : Spl u v w w' := ⟨h.os, h.tape, h.output, h.size, fun j hj _ _ => h.block j hj⟩
def FB (w : World) (u : Value) (n : Nat) : Prop :=
 (u = .slice none 0 0 ∧ n = 0) ∨ ∃ g cap cs, u = .slice (some ⟨g, 0, none⟩) n cap ∧ n ≤ cap ∧ cap ≤ maxLen ∧ Blk w g 57 cs ∧ cs.size = cap * 2
theorem FB.of {w : World} {base : Nat} {u : Value} {l : List Fld} (h : Owns w base 57 2 e_ss u l) : FB w u l.length := by
 rcases h.form with ⟨h1, h2⟩ | ⟨g, cap, hv⟩
 ·exact .inl ⟨h1, by rw [h2]; rfl⟩
 ·subst hv
  obtain ⟨_, _, h1, h2, cur, h3, h4, _⟩ := h.row
  exact .inr ⟨g, cap, cur, rfl, h1, h2, h3, h4⟩
theorem FB.form {w : World} {u : Value} {n : Nat} (h : FB w u n) : ∃ A c, u = .slice A n c := by
 rcases h with ⟨rfl, rfl⟩ | ⟨g, cap, cs, rfl, _⟩
 ·exact ⟨_, _, rfl⟩
 ·exact ⟨_, _, rfl⟩
theorem FB.set_ {w : World} {u : Value} {n : Nat} (h : FB w u n) (g i : Nat) (x : Value) : FB (w.setCell ⟨g, i, none⟩ x) u n := by
 rcases h with h | ⟨g', cap, cs, h1, h2, h3, h4, h5⟩
 ·exact .inl h
 ·by_cases e : g' = g
  ·subst e
   exact .inr ⟨g', cap, _, h1, h2, h3, h4.set_ i x, by simpa using h5⟩
  ·exact .inr ⟨g', cap, cs, h1, h2, h3, h4.far e x, h5⟩
theorem FB.below {w w' : World} {u : Value} {n : Nat} (h : FB w u n) (hb : Below w.heap.size w w') : FB w' u n := by
 rcases h with h | ⟨g', cap, cs, h1, h2, h3, h4, h5⟩
 ·exact .inl h
 ·exact .inr ⟨g', cap, cs, h1, h2, h3, h4.below hb h4.lt, h5⟩
def KF (w w' : World) : Prop := ∀ u n, FB w u n → FB w' u n
theorem FB.own {w : World} {u : Value} {n g : Nat} (h : FB w u n) (hg : u.ownBlock = some g) : ∃ cs, Blk w g 57 cs := by
 rcases h with ⟨rfl, _⟩ | ⟨g', cap, cs, rfl, _, _, h4, _⟩
 ·cases hg
 ·cases hg
  exact ⟨cs, h4⟩
set_option maxHeartbeats 4000000 in
theorem spoil_any (rm rt rb rs bd : ByteArray) (code asked came mark : Int) (u v : Value) (n k : Nat) (w : World) (hu : FB w u n) (hv : FB w v k) :
  Calls Tryz.prog 25 #[.agg #[.string rm, .string rt, u, .string rb, .int .i64 code, .string rs, v, .string bd, .int .i64 asked, .int .i64 came, .int .i64 mark]] w fun e w' => e = .returned (.tuple #[]) ∧ Spl u v w w' ∧ KF w w' := by
 have hA := (Below.refl w.heap.size w).alloc (Nat.le_refl _) (.cells #[.string rm, .string rt, u, .string rb, .int .i64 code, .string rs, v, .string bd, .int .i64 asked, .int .i64 came, .int .i64 mark] 29)
 have hB := Blk.new w 29 #[.string rm, .string rt, u, .string rb, .int .i64 code, .string rs, v, .string bd, .int .i64 asked, .int .i64 came, .int .i64 mark]
 have hlu : ∀ g, u.ownBlock = some g → g < w.heap.size := fun g hg => by obtain ⟨_, h⟩ := hu.own hg; exact h.lt
 have hlv : ∀ g, v.ownBlock = some g → g < w.heap.size := fun g hg => by obtain ⟨_, h⟩ := hv.own hg; exact h.lt
 have hS1 : Spl u v w _ := Spl.of_below hA
 have hK1 : KF w _ := fun x m h => h.below hA
 have HFU := Lib.hid (fun (W : World) (hW : KF w W) => hW _ _ hu)
 have HFV := Lib.hid (fun (W : World) (hW : KF w W) => hW _ _ hv)
 obtain ⟨Au, cu, rfl⟩ := hu.form
 obtain ⟨Av, cv, rfl⟩ := hv.form
 clear hA hu hv
 go_enter Tryz.func25, Tryz.ntmps25
 go_wp2_with fail
 generalize w.alloc _ = w1 at *
 have HLU := Lib.hid hlu
 have HLV := Lib.hid hlv
 clear hlu hlv
 go_loopw [8] (fun i wr => ∃ j : Nat, j ≤ n ∧ i = .int .i64 j ∧ Blk wr w.heap.size 29 #[.string rm, .string rt, .slice Au n cu, .string rb, .int .i64 code, .string rs, .slice Av k cv, .string bd, .int .i64 asked, .int .i64 came, .int .i64 mark] ∧ Spl (.slice Au n cu) (.slice Av k cv) w wr ∧ KF w wr) (fun i _ => n - (intOf i).toNat)
 case atStart => exact ⟨0, by omega, rfl, hB, hS1, hK1⟩
 case round =>
  obtain ⟨j, hj, rfl, hbr, hsr, hkr⟩ := hrel
  clear hB hS1 hK1
  by_cases hjl : j < n
  ·obtain ⟨gb, cb, cs, hv, hn1, hn2, hbk, hsz⟩ : ∃ gb cb cs, Value.slice Au n cu = .slice (some ⟨gb, 0, none⟩) n cb ∧ n ≤ cb ∧ cb ≤ maxLen ∧ Blk wr gb 57 cs ∧ cs.size = cb * 2 := by
    rcases HFU.out wr hkr with ⟨_, h0⟩ | h
    ·omega
    ·exact h
   injection hv with hv1 hv2 hv3
   subst hv1 hv3
   simp only [maxLen] at hn2
   have c0 : wr.cell? ⟨gb, j * 2, none⟩ = some (cs[j * 2]'(by omega)) := by rw [hbk.cell (j * 2)]; exact Array.getElem?_eq_getElem _
   have c1 : wr.cell? ⟨gb, j * 2 + 1, none⟩ = some (cs[j * 2 + 1]'(by omega)) := by rw [hbk.cell (j * 2 + 1)]; exact Array.getElem?_eq_getElem _
   have f0 := hbk.frozen (j * 2)
   have f1 := hbk.frozen (j * 2 + 1)
   have hji : (j : Int) < (n : Int) := by omega
   have hgr2 : wr.grownBy ((wr.setCell ⟨gb, j * 2, none⟩ (.string ⟨#[115, 112, 111, 105, 108, 116]⟩)).setCell ⟨gb, j * 2 + 1, none⟩ (.string ⟨#[]⟩)) (some gb) := gr_set (gr_set (World.grownBy.refl _ _) _ _) _ _
   have hgw : gb ≠ w.heap.size := fun e => by
    have := HLU.out gb rfl
    omega
   have HBr := Lib.hid (Blk.keptR hbr hgr2 (by intro e; injection e with e; exact hgw e.symm))
   have HSr := Lib.hid (hsr.grown hgr2 (.inl rfl))
   have HKr : Hid (KF w _) := fun x m h => ((hkr x m h).set_ gb (j * 2) (.string ⟨#[115, 112, 111, 105, 108, 116]⟩)).set_ gb (j * 2 + 1) (.string ⟨#[]⟩)
   have k2 := hbr.cell 2
   have z2 := hbr.frozen 2
   clear hgr2 hsr hbr hkr hbk
   generalize cs[j * 2]'_ = u0 at *
   generalize cs[j * 2 + 1]'_ = u1 at *
   go_wp2_with fail
   go_roundw
   case rel => exact ⟨j + 1, by omega, by go_num, HBr.out, HSr.out, HKr.out⟩
   case measure => simp [intOf]; omega
  ·obtain rfl : n = j := by omega
   have k6 := hbr.cell 6
   have HBr := Lib.hid hbr
   have HSr := Lib.hid hsr
   have HKr := Lib.hid hkr
   clear hbr hsr hkr
   go_wp2_with fail
   go_loopw [22] (fun i wq => ∃ j : Nat, j ≤ k ∧ i = .int .i64 j ∧ Blk wq w.heap.size 29 #[.string rm, .string rt, .slice Au n cu, .string rb, .int .i64 code, .string rs, .slice Av k cv, .string bd, .int .i64 asked, .int .i64 came, .int .i64 mark] ∧ Spl (.slice Au n cu) (.slice Av k cv) w wq ∧ KF w wq) (fun i _ => k - (intOf i).toNat)
   case atStart => exact ⟨0, by omega, rfl, HBr.out, HSr.out, HKr.out⟩
   case round =>
    clear k6
    obtain ⟨j, hj, rfl, hbr, hsr, hkr⟩ := hrel
    by_cases hjl : j < k
    ·obtain ⟨gb, cb, cs, hv, hn1, hn2, hbk, hsz⟩ : ∃ gb cb cs, Value.slice Av k cv = .slice (some ⟨gb, 0, none⟩) k cb ∧ k ≤ cb ∧ cb ≤ maxLen ∧ Blk wr gb 57 cs ∧ cs.size = cb * 2 := by
      rcases HFV.out wr hkr with ⟨_, h0⟩ | h
      ·omega
      ·exact h
     injection hv with hv1 hv2 hv3
     subst hv1 hv3
     simp only [maxLen] at hn2
     have c0 : wr.cell? ⟨gb, j * 2, none⟩ = some (cs[j * 2]'(by omega)) := by rw [hbk.cell (j * 2)]; exact Array.getElem?_eq_getElem _
     have c1 : wr.cell? ⟨gb, j * 2 + 1, none⟩ = some (cs[j * 2 + 1]'(by omega)) := by rw [hbk.cell (j * 2 + 1)]; exact Array.getElem?_eq_getElem _
     have f0 := hbk.frozen (j * 2)
     have f1 := hbk.frozen (j * 2 + 1)
     have hji : (j : Int) < (k : Int) := by omega
     have hgr2 : wr.grownBy ((wr.setCell ⟨gb, j * 2, none⟩ (.string ⟨#[115, 112, 111, 105, 108, 116]⟩)).setCell ⟨gb, j * 2 + 1, none⟩ (.string ⟨#[]⟩)) (some gb) := gr_set (gr_set (World.grownBy.refl _ _) _ _) _ _
     have hgw : gb ≠ w.heap.size := fun e => by
      have := HLV.out gb rfl
      omega
     have HB2 := Lib.hid (Blk.keptR hbr hgr2 (by intro e; injection e with e; exact hgw e.symm))
     have HS2 := Lib.hid (hsr.grown hgr2 (.inr rfl))
     have HK2 : Hid (KF w _) := fun x m h => ((hkr x m h).set_ gb (j * 2) (.string ⟨#[115, 112, 111, 105, 108, 116]⟩)).set_ gb (j * 2 + 1) (.string ⟨#[]⟩)
     have k6 := hbr.cell 6
     have z6 := hbr.frozen 6
     clear hgr2 hsr hbr hkr HBr HSr HKr hbk
     generalize cs[j * 2]'_ = u0 at *
     generalize cs[j * 2 + 1]'_ = u1 at *
     go_wp2_with fail
     go_roundw
     case rel => exact ⟨j + 1, by omega, by go_num, HB2.out, HS2.out, HK2.out⟩
     case measure => simp [intOf]; omega
    ·obtain rfl : k = j := by omega
     have HZ := Lib.hid (And.intro hsr hkr)
     clear hsr hkr hbr
     go_wp2_with fail
     exact Great.bodyPost_end0 rfl rfl ⟨rfl, HZ.out⟩
end Ca
end Go.Proofs.YtgnblkmpoigejaaGreatDoor
namespace Go.Proofs.YtgnblkmpoigejaaGreatDoor
set_option maxRecDepth 20000
open Go.RowKit
def vRq (m t : ByteArray) (v : Value) (b : ByteArray) : Value := .agg #[.string m, .string t, v, .string b]
theorem sameReq_true (m t b : ByteArray) (u1 u2 : Value) (l : List Fld) (w : World) (h1 : SlR w e_ss u1 l) (h2 : SlR w e_ss u2 l) (hl : l.length ≤ 140737488351232) :
  Calls Tryz.prog 47 #[vRq m t u1 b, vRq m t u2 b] w fun e w' => e = .returned (.bool true) ∧ Below w.heap.size w w' := by
 have H1 := Lib.hid (fun (w' : World) (hb : Below w.heap.size w w') => h1.below hb)
 have H2 := Lib.hid (fun (w' : World) (hb : Below w.heap.size w w') => h2.below hb)
 unfold vRq
 go_enter Tryz.func47, Tryz.ntmps47
 go_wp2_with fail
 have bb : Below w.heap.size w ((w.alloc (.cells #[.string m, .string t, u1, .string b] 25)).alloc (.cells #[.string m, .string t, u2, .string b] 25)) := ((Below.refl _ w).alloc (Nat.le_refl _) _).alloc (by simp) _
 have q0 : ((w.alloc (.cells #[.string m, .string t, u1, .string b] 25)).alloc (.cells #[.string m, .string t, u2, .string b] 25)).cell? ⟨w.heap.size, 3, none⟩ = some (.string b) := by go_simp
 have q1 : ((w.alloc (.cells #[.string m, .string t, u1, .string b] 25)).alloc (.cells #[.string m, .string t, u2, .string b] 25)).cell? ⟨w.heap.size + 1, 3, none⟩ = some (.string b) := by go_simp
 have hz : w.heap.size + 1 + 1 = ((w.alloc (.cells #[.string m, .string t, u1, .string b] 25)).alloc (.cells #[.string m, .string t, u2, .string b] 25)).heap.size := by simp
 generalize (w.alloc (.cells #[.string m, .string t, u1, .string b] 25)).alloc (.cells #[.string m, .string t, u2, .string b] 25) = w2 at *
 refine (eqFld_any u1 u2 l l w2 (H1.out _ bb) (H2.out _ bb) hl hl).mono ?_
 rintro e w3 ⟨rfl, b3⟩
 have r0 := (b3.cell (p := ⟨w.heap.size, 3, none⟩) (by show w.heap.size < _; omega)).trans q0
 have r1 := (b3.cell (p := ⟨w.heap.size + 1, 3, none⟩) (by show w.heap.size + 1 < _; omega)).trans q1
 have hd : decide (l = l) = true := decide_eq_true rfl
 rw [hd]
 go_wp2_with fail
 go_ret
 exact ⟨by simp, bb.trans (b3.mono bb.size)⟩
def vRs (c : Int) (r : ByteArray) (v : Value) (b : ByteArray) : Value := .agg #[.int .i64 c, .string r, v, .string b]
theorem sameResp_true (c : Int) (r b : ByteArray) (u1 u2 : Value) (l : List Fld) (w : World) (h1 : SlR w e_ss u1 l) (h2 : SlR w e_ss u2 l) (hl : l.length ≤ 140737488351232) :
  Calls Tryz.prog 48 #[vRs c r u1 b, vRs c r u2 b] w fun e w' => e = .returned (.bool true) ∧ Below w.heap.size w w' := by
 have H1 := Lib.hid (fun (w' : World) (hb : Below w.heap.size w w') => h1.below hb)
 have H2 := Lib.hid (fun (w' : World) (hb : Below w.heap.size w w') => h2.below hb)
 unfold vRs
 go_enter Tryz.func48, Tryz.ntmps48
 go_wp2_with fail
 have bb : Below w.heap.size w ((w.alloc (.cells #[.int .i64 c, .string r, u1, .string b] 27)).alloc (.cells #[.int .i64 c, .string r, u2, .string b] 27)) := ((Below.refl _ w).alloc (Nat.le_refl _) _).alloc (by simp) _
 have q0 : ((w.alloc (.cells #[.int .i64 c, .string r, u1, .string b] 27)).alloc (.cells #[.int .i64 c, .string r, u2, .string b] 27)).cell? ⟨w.heap.size, 3, none⟩ = some (.string b) := by go_simp
 have q1 : ((w.alloc (.cells #[.int .i64 c, .string r, u1, .string b] 27)).alloc (.cells #[.int .i64 c, .string r, u2, .string b] 27)).cell? ⟨w.heap.size + 1, 3, none⟩ = some (.string b) := by go_simp
 have hz : w.heap.size + 1 + 1 = ((w.alloc (.cells #[.int .i64 c, .string r, u1, .string b] 27)).alloc (.cells #[.int .i64 c, .string r, u2, .string b] 27)).heap.size := by simp
 generalize (w.alloc (.cells #[.int .i64 c, .string r, u1, .string b] 27)).alloc (.cells #[.int .i64 c, .string r, u2, .string b] 27) = w2 at *
 refine (eqFld_any u1 u2 l l w2 (H1.out _ bb) (H2.out _ bb) hl hl).mono ?_
 rintro e w3 ⟨rfl, b3⟩
 have r0 := (b3.cell (p := ⟨w.heap.size, 3, none⟩) (by show w.heap.size < _; omega)).trans q0
 have r1 := (b3.cell (p := ⟨w.heap.size + 1, 3, none⟩) (by show w.heap.size + 1 < _; omega)).trans q1
 have hd : decide (l = l) = true := decide_eq_true rfl
 rw [hd]
 go_wp2_with fail
 go_ret
 exact ⟨by simp, bb.trans (b3.mono bb.size)⟩
end Go.Proofs.YtgnblkmpoigejaaGreatDoor
