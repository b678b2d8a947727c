/- A slice of steps, opened: the numbers and the two texts; the other cells as they stand. -/
import Derived.Test.YtnobcehiahcfkaaOpen
import Derived.Test.YtnobcehiahcfkaaRest
namespace Go.Proofs.Ytnobcehiahcfkaa
set_option maxRecDepth 20000
open Go.ChangeShapes Go.WideShapes Go.Deep Go.RowKit Go.Joins
/-- A step by its cells: Kind, A, B, S, T; the 17 others. -/
structure Stp where
  k : Int
  a : Int
  b : Int
  s : ByteArray
  t : ByteArray
  g : Nat → Option Addr × Nat × Nat
  u : Nat → ByteArray
  i : Nat → Int
def e_st (x : Stp) : List Value := [.int .i64 x.k, .int .i64 x.a, .int .i64 x.b, .string x.s, .string x.t, .slice (x.g 0).1 (x.g 0).2.1 (x.g 0).2.2, .string (x.u 0), .string (x.u 1), .slice (x.g 1).1 (x.g 1).2.1 (x.g 1).2.2, .string (x.u 2), .string (x.u 3), .string (x.u 4), .slice (x.g 2).1 (x.g 2).2.1 (x.g 2).2.2, .string (x.u 5), .int .i64 (x.i 0), .string (x.u 6), .slice (x.g 3).1 (x.g 3).2.1 (x.g 3).2.2, .string (x.u 7), .int .i64 (x.i 1), .int .i64 (x.i 2), .int .i64 (x.i 3), .slice (x.g 4).1 (x.g 4).2.1 (x.g 4).2.2]
theorem list22 {α : Type} {cs : List α} (h : cs.length = 22) : ∃ c0 c1 c2 c3 c4 : α, ∃ o : Nat → α, cs = [c0, c1, c2, c3, c4, o 0, o 1, o 2, o 3, o 4, o 5, o 6, o 7, o 8, o 9, o 10, o 11, o 12, o 13, o 14, o 15, o 16] := by
  refine ⟨cs[0], cs[1], cs[2], cs[3], cs[4], fun j => (cs[j + 5]?).getD cs[0], ?_⟩
  refine List.ext_getElem (h.trans rfl) fun j hj hj' => ?_
  rw [h] at hj
  have hx : ∀ i, i < 22 → cs[i]? = cs[i]? := fun _ _ => rfl
  match j, hj with
  | 0, _ => rfl
  | 1, _ => rfl
  | 2, _ => rfl
  | 3, _ => rfl
  | 4, _ => rfl
  | 5, _ => simp [h]
  | 6, _ => simp [h]
  | 7, _ => simp [h]
  | 8, _ => simp [h]
  | 9, _ => simp [h]
  | 10, _ => simp [h]
  | 11, _ => simp [h]
  | 12, _ => simp [h]
  | 13, _ => simp [h]
  | 14, _ => simp [h]
  | 15, _ => simp [h]
  | 16, _ => simp [h]
  | 17, _ => simp [h]
  | 18, _ => simp [h]
  | 19, _ => simp [h]
  | 20, _ => simp [h]
  | 21, _ => simp [h]
  | j + 22, hj => omega
section
variable {H : Type} {P : Program} {enc : TypeId × Value → H} {w : World} {base : Nat} {spare : Nat → Bool} {held : Bool}
theorem one_slice {t e : TypeId} {n : Nat} {cs : List Value} {x : DataW H × List MemPlace} (ht : P.underlying t = some (.slice e)) (h : DataW.trod enc P w base spare held n t cs = some x) : ∀ c ∈ cs, ∃ y : Option Addr × Nat × Nat, c = .slice y.1 y.2.1 y.2.2 := by
  cases n with
  | zero => simp [DataW.trod] at h
  | succ n =>
    unfold DataW.trod at h
    rw [ht] at h
    split at h
    all_goals first
      | (intro c hc; rw [List.mem_singleton.1 hc]; exact ⟨(_, _, _), rfl⟩)
      | simp_all
theorem one_string {t : TypeId} {n : Nat} {cs : List Value} {x : DataW H × List MemPlace} (ht : P.underlying t = some .string) (h : DataW.trod enc P w base spare held n t cs = some x) : ∀ c ∈ cs, ∃ s, c = .string s := by
  obtain ⟨s, rfl, _⟩ := DataW.trod_string ht h
  exact fun c hc => ⟨s, List.mem_singleton.1 hc⟩
theorem one_int {t : TypeId} {k : IntKind} {n : Nat} {cs : List Value} {x : DataW H × List MemPlace} (ht : P.underlying t = some (.int k)) (h : DataW.trod enc P w base spare held n t cs = some x) : ∀ c ∈ cs, ∃ s, c = .int k s := by
  obtain ⟨s, rfl, _⟩ := DataW.trod_int ht h
  exact fun c hc => ⟨s, List.mem_singleton.1 hc⟩
end
section
variable {H : Type} {enc : TypeId × Value → H} {w : World} {base : Nat} {spare : Nat → Bool} {held : Bool}
theorem one_req {n : Nat} {c0 c1 c2 c3 : Value} {x : DataW H × List MemPlace} (h : DataW.trod enc Try.prog w base spare held n 64 [c0, c1, c2, c3] = some x) : (∃ s, c0 = .string s) ∧ (∃ s, c1 = .string s) ∧ (∃ y : Option Addr × Nat × Nat, c2 = .slice y.1 y.2.1 y.2.2) ∧ (∃ s, c3 = .string s) := by
  obtain ⟨xs, n, _, hx, -, hlen, hfl⟩ := DataW.trod_struct Try.underlying64 h
  have hl4 : xs.length = 4 := hlen
  obtain ⟨y0, y1, y2, y3, rfl⟩ : ∃ y0 y1 y2 y3, xs = [y0, y1, y2, y3] := by
    match xs, hl4 with
    | [y0, y1, y2, y3], _ => exact ⟨y0, y1, y2, y3, rfl⟩
  have k4 : Try.prog.cellsOf 9 = 1 := by kernel_rfl
  have k5 : Try.prog.cellsOf 62 = 1 := by kernel_rfl
  have g0 := hfl 0 _ rfl
  have g1 := hfl 1 _ rfl
  have g2 := hfl 2 _ rfl
  have g3 := hfl 3 _ rfl
  try simp only [k4, k5, Value.cells] at g0
  try simp only [k4, k5, Value.cells] at g1
  try simp only [k4, k5, Value.cells] at g2
  try simp only [k4, k5, Value.cells] at g3
  exact ⟨one_string Try.underlying9 g0 c0 (List.mem_singleton.2 rfl), one_string Try.underlying9 g1 c1 (List.mem_singleton.2 rfl), one_slice Try.underlying62 g2 c2 (List.mem_singleton.2 rfl), one_string Try.underlying9 g3 c3 (List.mem_singleton.2 rfl)⟩
theorem one_resp {n : Nat} {c0 c1 c2 c3 : Value} {x : DataW H × List MemPlace} (h : DataW.trod enc Try.prog w base spare held n 66 [c0, c1, c2, c3] = some x) : (∃ s, c0 = .int .i64 s) ∧ (∃ s, c1 = .string s) ∧ (∃ y : Option Addr × Nat × Nat, c2 = .slice y.1 y.2.1 y.2.2) ∧ (∃ s, c3 = .string s) := by
  obtain ⟨xs, n, _, hx, -, hlen, hfl⟩ := DataW.trod_struct Try.underlying66 h
  have hl4 : xs.length = 4 := hlen
  obtain ⟨y0, y1, y2, y3, rfl⟩ : ∃ y0 y1 y2 y3, xs = [y0, y1, y2, y3] := by
    match xs, hl4 with
    | [y0, y1, y2, y3], _ => exact ⟨y0, y1, y2, y3, rfl⟩
  have k3 : Try.prog.cellsOf 3 = 1 := by kernel_rfl
  have k4 : Try.prog.cellsOf 9 = 1 := by kernel_rfl
  have k5 : Try.prog.cellsOf 62 = 1 := by kernel_rfl
  have g0 := hfl 0 _ rfl
  have g1 := hfl 1 _ rfl
  have g2 := hfl 2 _ rfl
  have g3 := hfl 3 _ rfl
  try simp only [k3, k4, k5, Value.cells] at g0
  try simp only [k3, k4, k5, Value.cells] at g1
  try simp only [k3, k4, k5, Value.cells] at g2
  try simp only [k3, k4, k5, Value.cells] at g3
  exact ⟨one_int Try.underlying3 g0 c0 (List.mem_singleton.2 rfl), one_string Try.underlying9 g1 c1 (List.mem_singleton.2 rfl), one_slice Try.underlying62 g2 c2 (List.mem_singleton.2 rfl), one_string Try.underlying9 g3 c3 (List.mem_singleton.2 rfl)⟩
theorem one_held {n : Nat} {c0 c1 c2 c3 c4 c5 c6 c7 c8 c9 c10 : Value} {x : DataW H × List MemPlace} (h : DataW.trod enc Try.prog w base spare held n 68 [c0, c1, c2, c3, c4, c5, c6, c7, c8, c9, c10] = some x) :
    (∃ s, c0 = .string s) ∧ (∃ s, c1 = .string s) ∧ (∃ y : Option Addr × Nat × Nat, c2 = .slice y.1 y.2.1 y.2.2) ∧ (∃ s, c3 = .string s) ∧ (∃ s, c4 = .int .i64 s) ∧ (∃ s, c5 = .string s) ∧ (∃ y : Option Addr × Nat × Nat, c6 = .slice y.1 y.2.1 y.2.2) ∧ (∃ s, c7 = .string s) ∧ (∃ s, c8 = .int .i64 s) ∧ (∃ s, c9 = .int .i64 s) ∧ (∃ s, c10 = .int .i64 s) := by
  obtain ⟨xs, n, _, hx, -, hlen, hfl⟩ := DataW.trod_struct Try.underlying68 h
  have hl5 : xs.length = 5 := hlen
  obtain ⟨y0, y1, y2, y3, y4, rfl⟩ : ∃ y0 y1 y2 y3 y4, xs = [y0, y1, y2, y3, y4] := by
    match xs, hl5 with
    | [y0, y1, y2, y3, y4], _ => exact ⟨y0, y1, y2, y3, y4, rfl⟩
  have k3 : Try.prog.cellsOf 3 = 1 := by kernel_rfl
  have k6 : Try.prog.cellsOf 64 = 4 := by kernel_rfl
  have k7 : Try.prog.cellsOf 66 = 4 := by kernel_rfl
  have g0 := hfl 0 _ rfl
  have g1 := hfl 1 _ rfl
  have g2 := hfl 2 _ rfl
  have g3 := hfl 3 _ rfl
  have g4 := hfl 4 _ rfl
  try simp only [k3, k6, k7, Value.cells] at g0
  try simp only [k3, k6, k7, Value.cells] at g1
  try simp only [k3, k6, k7, Value.cells] at g2
  try simp only [k3, k6, k7, Value.cells] at g3
  try simp only [k3, k6, k7, Value.cells] at g4
  obtain ⟨a0, a1, a2, a3⟩ := one_req (c0 := c0) (c1 := c1) (c2 := c2) (c3 := c3) g0
  obtain ⟨b0, b1, b2, b3⟩ := one_resp (c0 := c4) (c1 := c5) (c2 := c6) (c3 := c7) g1
  exact ⟨a0, a1, a2, a3, b0, b1, b2, b3, one_int Try.underlying3 g2 c8 (List.mem_singleton.2 rfl), one_int Try.underlying3 g3 c9 (List.mem_singleton.2 rfl), one_int Try.underlying3 g4 c10 (List.mem_singleton.2 rfl)⟩
/-- With what each of them weighs. -/
theorem open_steps {r : Reach} {b0 : Nat} {v : Value} {d : DataW H} {p : List MemPlace} (hv : Value.okWide Try.prog w r b0 36 v) (h : DataW.Trod enc Try.prog w base spare held 36 v d p) :
    ∃ xs : List Stp, SlR w e_st v xs ∧ xs.length ≤ maxLen ∧ (∀ x ∈ xs, Wide x.k ∧ Wide x.a ∧ Wide x.b ∧ x.s.size ≤ maxLen ∧ x.t.size ≤ maxLen) ∧
      ((xs = []) ∨ ∃ (D : Nat → DataW H) (sp : List (DataW H)), d = .slice ((List.range xs.length).map D) sp ∧ ∀ i (hi : i < xs.length), ∃ (ys : List (DataW H)), D i = .agg ys ∧ ys[3]? = some (.lit (.string xs[i].s.data.toList)) ∧ ys[4]? = some (.lit (.string xs[i].t.data.toList))) := by
  have ht : Try.prog.underlying 36 = some (.slice 70) := Try.underlying36
  have hs := Try.underlying70
  have hus := Try.underlying9
  have hui := Try.underlying3
  have k3 : Try.prog.cellsOf 3 = 1 := by kernel_rfl
  have k4 : Try.prog.cellsOf 9 = 1 := by kernel_rfl
  have k6 : Try.prog.cellsOf 70 = 22 := by kernel_rfl
  obtain ⟨A, len, cap, rfl⟩ := okWide_slice ht hv
  obtain ⟨fuel, hf⟩ := h
  rcases open_slice ht hf with ⟨hcs, _⟩ | ⟨a, len', cap', mm, nn, D, Pl, hcs, _, hl, hm, hmm, hx0, hi⟩
  · simp [Value.cells] at hcs
    obtain ⟨rfl, rfl, rfl⟩ := hcs
    exact ⟨[], SlR.nil _ _, by simp, by simp, .inl rfl⟩
  · simp [Value.cells] at hcs
    obtain ⟨rfl, rfl, rfl⟩ := hcs
    have hlm : len ≤ mm := by rw [hmm]; split <;> omega
    have hxx := congrArg Prod.fst hx0
    simp only at hxx
    obtain ⟨xs, hxl, hsl, hR⟩ := slr_of (w := w) (en := e_st) (size := 22) (a := a) (len := len) (cap := cap) (fun i x => (Wide x.k ∧ Wide x.a ∧ Wide x.b ∧ x.s.size ≤ maxLen ∧ x.t.size ≤ maxLen) ∧ ∃ (ys : List (DataW H)), D i = .agg ys ∧ ys[3]? = some (.lit (.string x.s.data.toList)) ∧ ys[4]? = some (.lit (.string x.t.data.toList))) (fun _ => rfl) hl (by omega) (fun i hi' => by
      obtain ⟨cs, hc, ht'⟩ := hi i (by omega)
      rw [k6] at hc
      obtain ⟨_, hcl, hat⟩ := World.cells?_some hc
      obtain ⟨c0, c1, c2, c3, c4, o, hcs⟩ := list22 hcl
      obtain ⟨xs, n, _, hx, -, hlen, hfl⟩ := DataW.trod_struct hs ht'
      have hl9 : xs.length = 9 := hlen
      obtain ⟨y0, y1, y2, y3, y4, y5, y6, y7, y8, rfl⟩ : ∃ y0 y1 y2 y3 y4 y5 y6 y7 y8, xs = [y0, y1, y2, y3, y4, y5, y6, y7, y8] := by
        match xs, hl9 with
        | [y0, y1, y2, y3, y4, y5, y6, y7, y8], _ => exact ⟨y0, y1, y2, y3, y4, y5, y6, y7, y8, rfl⟩
      have g0 := hfl 0 _ rfl
      have g1 := hfl 1 _ rfl
      have g2 := hfl 2 _ rfl
      have g3 := hfl 3 _ rfl
      have g4 := hfl 4 _ rfl
      have g5 := hfl 5 _ rfl
      have g6 := hfl 6 _ rfl
      have g7 := hfl 7 _ rfl
      have g8 := hfl 8 _ rfl
      subst hcs
      try simp only [k3, k4, Value.cells] at g0
      try simp only [k3, k4, Value.cells] at g1
      try simp only [k3, k4, Value.cells] at g2
      try simp only [k3, k4, Value.cells] at g3
      try simp only [k3, k4, Value.cells] at g4
      have k5 : Try.prog.cellsOf 24 = 1 := by kernel_rfl
      have k7 : Try.prog.cellsOf 64 = 4 := by kernel_rfl
      have k8 : Try.prog.cellsOf 68 = 11 := by kernel_rfl
      have k9 : Try.prog.cellsOf 62 = 1 := by kernel_rfl
      try simp only [k5, k7, k8, k9, Value.cells] at g5
      try simp only [k5, k7, k8, k9, Value.cells] at g6
      try simp only [k5, k7, k8, k9, Value.cells] at g7
      try simp only [k5, k7, k8, k9, Value.cells] at g8
      obtain ⟨o0, p0⟩ := one_slice Try.underlying24 g5 (o 0) (List.mem_singleton.2 rfl)
      obtain ⟨⟨o1, p1⟩, ⟨o2, p2⟩, ⟨o3, p3⟩, ⟨o4, p4⟩⟩ := one_req (c0 := o 1) (c1 := o 2) (c2 := o 3) (c3 := o 4) g6
      obtain ⟨⟨o5, p5⟩, ⟨o6, p6⟩, ⟨o7, p7⟩, ⟨o8, p8⟩, ⟨o9, p9⟩, ⟨o10, p10⟩, ⟨o11, p11⟩, ⟨o12, p12⟩, ⟨o13, p13⟩, ⟨o14, p14⟩, ⟨o15, p15⟩⟩ := one_held (c0 := o 5) (c1 := o 6) (c2 := o 7) (c3 := o 8) (c4 := o 9) (c5 := o 10) (c6 := o 11) (c7 := o 12) (c8 := o 13) (c9 := o 14) (c10 := o 15) g7
      obtain ⟨o16, p16⟩ := one_slice Try.underlying62 g8 (o 16) (List.mem_singleton.2 rfl)
      obtain ⟨x0, e0, u0, z0⟩ := DataW.trod_int hui g0
      obtain ⟨x1, e1, u1, z1⟩ := DataW.trod_int hui g1
      obtain ⟨x2, e2, u2, z2⟩ := DataW.trod_int hui g2
      obtain ⟨x3, e3, u3, z3⟩ := DataW.trod_string hus g3
      obtain ⟨x4, e4, u4, z4⟩ := DataW.trod_string hus g4
      have f0 : [c0] = [Value.int .i64 x0] := e0
      have f1 : [c1] = [Value.int .i64 x1] := e1
      have f2 : [c2] = [Value.int .i64 x2] := e2
      have f3 : [c3] = [Value.string x3] := e3
      have f4 : [c4] = [Value.string x4] := e4
      simp only [List.cons.injEq, and_true] at f0 f1 f2 f3 f4
      subst f0 f1 f2 f3 f4
      rw [p0, p1, p2, p3, p4, p5, p6, p7, p8, p9, p10, p11, p12, p13, p14, p15, p16] at hat
      refine ⟨⟨x0, x1, x2, x3, x4, (fun j => if j = 0 then o0 else if j = 1 then o3 else if j = 2 then o7 else if j = 3 then o11 else o16), (fun j => if j = 0 then o1 else if j = 1 then o2 else if j = 2 then o4 else if j = 3 then o5 else if j = 4 then o6 else if j = 5 then o8 else if j = 6 then o10 else o12), (fun j => if j = 0 then o9 else if j = 1 then o13 else if j = 2 then o14 else o15)⟩, fun j u hu => ?_, ⟨wide_of z0, wide_of z1, wide_of z2, z3, z4⟩, ?_⟩
      · obtain ⟨hj, rfl⟩ := List.getElem?_eq_some_iff.1 hu
        rw [← Go.Deep.add_add]
        rw [← List.getElem?_eq_getElem hj]
        exact hat j (show j < 22 from hj)
      · have h1 := congrArg Prod.fst hx
        simp only [List.map_cons, List.map_nil] at h1
        exact ⟨_, h1, by rw [congrArg Prod.fst u3]; rfl, by rw [congrArg Prod.fst u4]; rfl⟩)
    subst hxl
    refine ⟨xs, hsl, Nat.le_trans hl hm, fun x hx => ?_, .inr ⟨D, _, hxx, fun i hi => (hR i hi).2⟩⟩
    obtain ⟨i, hi', rfl⟩ := List.mem_iff_getElem.1 hx
    exact (hR i hi').1
end
end Go.Proofs.Ytnobcehiahcfkaa
