/- A slice of steps, opened: the numbers and the two texts; the other cells as they stand. -/
import Derived.Test.YthhhlaoiampinaaY11
import Derived.Test.YthhhlaoiampinaaY0
import Derived.Test.YthhhlaoiampinaaY3
import Derived.Deep.MidRow
import Derived.Deep.WholeRow
namespace Go.Proofs.Ythhhlaoiampinaa
set_option maxRecDepth 20000
open Go.ChangeShapes Go.WideShapes Go.Deep Go.RowKit Go.Joins
/-- A step by its cells: Kind, A, B, S, T; the 17 others. -/
structure Stp where
  k : Int
  a : Int
  b : Int
  s : ByteArray
  t : ByteArray
  g : Nat → Option Addr × Nat × Nat
  u : Nat → ByteArray
  i : Nat → Int
def e_st (x : Stp) : List Value := [.int .i64 x.k, .int .i64 x.a, .int .i64 x.b, .string x.s, .string x.t, .slice (x.g 0).1 (x.g 0).2.1 (x.g 0).2.2, .string (x.u 0), .string (x.u 1), .slice (x.g 1).1 (x.g 1).2.1 (x.g 1).2.2, .string (x.u 2), .string (x.u 3), .string (x.u 4), .slice (x.g 2).1 (x.g 2).2.1 (x.g 2).2.2, .string (x.u 5), .int .i64 (x.i 0), .string (x.u 6), .slice (x.g 3).1 (x.g 3).2.1 (x.g 3).2.2, .string (x.u 7), .int .i64 (x.i 1), .int .i64 (x.i 2), .int .i64 (x.i 3), .slice (x.g 4).1 (x.g 4).2.1 (x.g 4).2.2]
theorem list22 {α : Type} {cs : List α} (h : cs.length = 22) : ∃ c0 c1 c2 c3 c4 : α, ∃ o : Nat → α, cs = [c0, c1, c2, c3, c4, o 0, o 1, o 2, o 3, o 4, o 5, o 6, o 7, o 8, o 9, o 10, o 11, o 12, o 13, o 14, o 15, o 16] := by
  refine ⟨cs[0], cs[1], cs[2], cs[3], cs[4], fun j => (cs[j + 5]?).getD cs[0], ?_⟩
  refine List.ext_getElem (h.trans rfl) fun j hj hj' => ?_
  rw [h] at hj
  have hx : ∀ i, i < 22 → cs[i]? = cs[i]? := fun _ _ => rfl
  match j, hj with
  | 0, _ => rfl
  | 1, _ => rfl
  | 2, _ => rfl
  | 3, _ => rfl
  | 4, _ => rfl
  | 5, _ => simp [h]
  | 6, _ => simp [h]
  | 7, _ => simp [h]
  | 8, _ => simp [h]
  | 9, _ => simp [h]
  | 10, _ => simp [h]
  | 11, _ => simp [h]
  | 12, _ => simp [h]
  | 13, _ => simp [h]
  | 14, _ => simp [h]
  | 15, _ => simp [h]
  | 16, _ => simp [h]
  | 17, _ => simp [h]
  | 18, _ => simp [h]
  | 19, _ => simp [h]
  | 20, _ => simp [h]
  | 21, _ => simp [h]
  | j + 22, hj => omega
section
variable {H : Type} {P : Program} {enc : TypeId × Value → H} {w : World} {base : Nat} {spare : Nat → Bool} {held : Bool}
theorem one_slice {t e : TypeId} {n : Nat} {cs : List Value} {x : DataW H × List MemPlace} (ht : P.underlying t = some (.slice e)) (h : DataW.trod enc P w base spare held n t cs = some x) : ∀ c ∈ cs, ∃ y : Option Addr × Nat × Nat, c = .slice y.1 y.2.1 y.2.2 := by
  cases n with
  | zero => simp [DataW.trod] at h
  | succ n =>
    unfold DataW.trod at h
    rw [ht] at h
    split at h
    all_goals first
      | (intro c hc; rw [List.mem_singleton.1 hc]; exact ⟨(_, _, _), rfl⟩)
      | simp_all
theorem one_string {t : TypeId} {n : Nat} {cs : List Value} {x : DataW H × List MemPlace} (ht : P.underlying t = some .string) (h : DataW.trod enc P w base spare held n t cs = some x) : ∀ c ∈ cs, ∃ s, c = .string s := by
  obtain ⟨s, rfl, _⟩ := DataW.trod_string ht h
  exact fun c hc => ⟨s, List.mem_singleton.1 hc⟩
theorem one_int {t : TypeId} {k : IntKind} {n : Nat} {cs : List Value} {x : DataW H × List MemPlace} (ht : P.underlying t = some (.int k)) (h : DataW.trod enc P w base spare held n t cs = some x) : ∀ c ∈ cs, ∃ s, c = .int k s := by
  obtain ⟨s, rfl, _⟩ := DataW.trod_int ht h
  exact fun c hc => ⟨s, List.mem_singleton.1 hc⟩
end
section
variable {H : Type} {enc : TypeId × Value → H} {w : World} {base : Nat} {spare : Nat → Bool} {held : Bool}
theorem one_req {n : Nat} {c0 c1 c2 c3 : Value} {x : DataW H × List MemPlace} (h : DataW.trod enc Try.prog w base spare held n 57 [c0, c1, c2, c3] = some x) : (∃ s, c0 = .string s) ∧ (∃ s, c1 = .string s) ∧ (∃ y : Option Addr × Nat × Nat, c2 = .slice y.1 y.2.1 y.2.2) ∧ (∃ s, c3 = .string s) := by
  obtain ⟨xs, n, _, hx, -, hlen, hfl⟩ := DataW.trod_struct Try.underlying57 h
  have hl4 : xs.length = 4 := hlen
  obtain ⟨y0, y1, y2, y3, rfl⟩ : ∃ y0 y1 y2 y3, xs = [y0, y1, y2, y3] := by
    match xs, hl4 with
    | [y0, y1, y2, y3], _ => exact ⟨y0, y1, y2, y3, rfl⟩
  have k4 : Try.prog.cellsOf 9 = 1 := by kernel_rfl
  have k5 : Try.prog.cellsOf 29 = 1 := by kernel_rfl
  have g0 := hfl 0 _ rfl
  have g1 := hfl 1 _ rfl
  have g2 := hfl 2 _ rfl
  have g3 := hfl 3 _ rfl
  try simp only [k4, k5, Value.cells] at g0
  try simp only [k4, k5, Value.cells] at g1
  try simp only [k4, k5, Value.cells] at g2
  try simp only [k4, k5, Value.cells] at g3
  exact ⟨one_string Try.underlying9 g0 c0 (List.mem_singleton.2 rfl), one_string Try.underlying9 g1 c1 (List.mem_singleton.2 rfl), one_slice Try.underlying29 g2 c2 (List.mem_singleton.2 rfl), one_string Try.underlying9 g3 c3 (List.mem_singleton.2 rfl)⟩
theorem one_resp {n : Nat} {c0 c1 c2 c3 : Value} {x : DataW H × List MemPlace} (h : DataW.trod enc Try.prog w base spare held n 59 [c0, c1, c2, c3] = some x) : (∃ s, c0 = .int .i64 s) ∧ (∃ s, c1 = .string s) ∧ (∃ y : Option Addr × Nat × Nat, c2 = .slice y.1 y.2.1 y.2.2) ∧ (∃ s, c3 = .string s) := by
  obtain ⟨xs, n, _, hx, -, hlen, hfl⟩ := DataW.trod_struct Try.underlying59 h
  have hl4 : xs.length = 4 := hlen
  obtain ⟨y0, y1, y2, y3, rfl⟩ : ∃ y0 y1 y2 y3, xs = [y0, y1, y2, y3] := by
    match xs, hl4 with
    | [y0, y1, y2, y3], _ => exact ⟨y0, y1, y2, y3, rfl⟩
  have k3 : Try.prog.cellsOf 3 = 1 := by kernel_rfl
  have k4 : Try.prog.cellsOf 9 = 1 := by kernel_rfl
  have k5 : Try.prog.cellsOf 29 = 1 := by kernel_rfl
  have g0 := hfl 0 _ rfl
  have g1 := hfl 1 _ rfl
  have g2 := hfl 2 _ rfl
  have g3 := hfl 3 _ rfl
  try simp only [k3, k4, k5, Value.cells] at g0
  try simp only [k3, k4, k5, Value.cells] at g1
  try simp only [k3, k4, k5, Value.cells] at g2
  try simp only [k3, k4, k5, Value.cells] at g3
  exact ⟨one_int Try.underlying3 g0 c0 (List.mem_singleton.2 rfl), one_string Try.underlying9 g1 c1 (List.mem_singleton.2 rfl), one_slice Try.underlying29 g2 c2 (List.mem_singleton.2 rfl), one_string Try.underlying9 g3 c3 (List.mem_singleton.2 rfl)⟩
theorem one_held {n : Nat} {c0 c1 c2 c3 c4 c5 c6 c7 c8 c9 c10 : Value} {x : DataW H × List MemPlace} (h : DataW.trod enc Try.prog w base spare held n 61 [c0, c1, c2, c3, c4, c5, c6, c7, c8, c9, c10] = some x) :
    (∃ s, c0 = .string s) ∧ (∃ s, c1 = .string s) ∧ (∃ y : Option Addr × Nat × Nat, c2 = .slice y.1 y.2.1 y.2.2) ∧ (∃ s, c3 = .string s) ∧ (∃ s, c4 = .int .i64 s) ∧ (∃ s, c5 = .string s) ∧ (∃ y : Option Addr × Nat × Nat, c6 = .slice y.1 y.2.1 y.2.2) ∧ (∃ s, c7 = .string s) ∧ (∃ s, c8 = .int .i64 s) ∧ (∃ s, c9 = .int .i64 s) ∧ (∃ s, c10 = .int .i64 s) := by
  obtain ⟨xs, n, _, hx, -, hlen, hfl⟩ := DataW.trod_struct Try.underlying61 h
  have hl5 : xs.length = 5 := hlen
  obtain ⟨y0, y1, y2, y3, y4, rfl⟩ : ∃ y0 y1 y2 y3 y4, xs = [y0, y1, y2, y3, y4] := by
    match xs, hl5 with
    | [y0, y1, y2, y3, y4], _ => exact ⟨y0, y1, y2, y3, y4, rfl⟩
  have k3 : Try.prog.cellsOf 3 = 1 := by kernel_rfl
  have k6 : Try.prog.cellsOf 57 = 4 := by kernel_rfl
  have k7 : Try.prog.cellsOf 59 = 4 := by kernel_rfl
  have g0 := hfl 0 _ rfl
  have g1 := hfl 1 _ rfl
  have g2 := hfl 2 _ rfl
  have g3 := hfl 3 _ rfl
  have g4 := hfl 4 _ rfl
  try simp only [k3, k6, k7, Value.cells] at g0
  try simp only [k3, k6, k7, Value.cells] at g1
  try simp only [k3, k6, k7, Value.cells] at g2
  try simp only [k3, k6, k7, Value.cells] at g3
  try simp only [k3, k6, k7, Value.cells] at g4
  obtain ⟨a0, a1, a2, a3⟩ := one_req (c0 := c0) (c1 := c1) (c2 := c2) (c3 := c3) g0
  obtain ⟨b0, b1, b2, b3⟩ := one_resp (c0 := c4) (c1 := c5) (c2 := c6) (c3 := c7) g1
  exact ⟨a0, a1, a2, a3, b0, b1, b2, b3, one_int Try.underlying3 g2 c8 (List.mem_singleton.2 rfl), one_int Try.underlying3 g3 c9 (List.mem_singleton.2 rfl), one_int Try.underlying3 g4 c10 (List.mem_singleton.2 rfl)⟩
/-- With what each of them weighs. -/
theorem open_steps {r : Reach} {b0 : Nat} {v : Value} {d : DataW H} {p : List MemPlace} (hv : Value.okWide Try.prog w r b0 46 v) (h : DataW.Trod enc Try.prog w base spare held 46 v d p) :
    ∃ xs : List Stp, SlR w e_st v xs ∧ xs.length ≤ maxLen ∧ (∀ x ∈ xs, Wide x.k ∧ Wide x.a ∧ Wide x.b ∧ x.s.size ≤ maxLen ∧ x.t.size ≤ maxLen) ∧
      ((xs = []) ∨ ∃ (D : Nat → DataW H) (sp : List (DataW H)), d = .slice ((List.range xs.length).map D) sp ∧ ∀ i (hi : i < xs.length), ∃ (ys : List (DataW H)), D i = .agg ys ∧ ys[3]? = some (.lit (.string xs[i].s.data.toList)) ∧ ys[4]? = some (.lit (.string xs[i].t.data.toList))) := by
  have ht : Try.prog.underlying 46 = some (.slice 63) := Try.underlying46
  have hs := Try.underlying63
  have hus := Try.underlying9
  have hui := Try.underlying3
  have k3 : Try.prog.cellsOf 3 = 1 := by kernel_rfl
  have k4 : Try.prog.cellsOf 9 = 1 := by kernel_rfl
  have k6 : Try.prog.cellsOf 63 = 22 := by kernel_rfl
  obtain ⟨A, len, cap, rfl⟩ := okWide_slice ht hv
  obtain ⟨fuel, hf⟩ := h
  rcases open_slice ht hf with ⟨hcs, _⟩ | ⟨a, len', cap', mm, nn, D, Pl, hcs, _, hl, hm, hmm, hx0, hi⟩
  · simp [Value.cells] at hcs
    obtain ⟨rfl, rfl, rfl⟩ := hcs
    exact ⟨[], SlR.nil _ _, by simp, by simp, .inl rfl⟩
  · simp [Value.cells] at hcs
    obtain ⟨rfl, rfl, rfl⟩ := hcs
    have hlm : len ≤ mm := by rw [hmm]; split <;> omega
    have hxx := congrArg Prod.fst hx0
    simp only at hxx
    obtain ⟨xs, hxl, hsl, hR⟩ := slr_of (w := w) (en := e_st) (size := 22) (a := a) (len := len) (cap := cap) (fun i x => (Wide x.k ∧ Wide x.a ∧ Wide x.b ∧ x.s.size ≤ maxLen ∧ x.t.size ≤ maxLen) ∧ ∃ (ys : List (DataW H)), D i = .agg ys ∧ ys[3]? = some (.lit (.string x.s.data.toList)) ∧ ys[4]? = some (.lit (.string x.t.data.toList))) (fun _ => rfl) hl (by omega) (fun i hi' => by
      obtain ⟨cs, hc, ht'⟩ := hi i (by omega)
      rw [k6] at hc
      obtain ⟨_, hcl, hat⟩ := World.cells?_some hc
      obtain ⟨c0, c1, c2, c3, c4, o, hcs⟩ := list22 hcl
      obtain ⟨xs, n, _, hx, -, hlen, hfl⟩ := DataW.trod_struct hs ht'
      have hl9 : xs.length = 9 := hlen
      obtain ⟨y0, y1, y2, y3, y4, y5, y6, y7, y8, rfl⟩ : ∃ y0 y1 y2 y3 y4 y5 y6 y7 y8, xs = [y0, y1, y2, y3, y4, y5, y6, y7, y8] := by
        match xs, hl9 with
        | [y0, y1, y2, y3, y4, y5, y6, y7, y8], _ => exact ⟨y0, y1, y2, y3, y4, y5, y6, y7, y8, rfl⟩
      have g0 := hfl 0 _ rfl
      have g1 := hfl 1 _ rfl
      have g2 := hfl 2 _ rfl
      have g3 := hfl 3 _ rfl
      have g4 := hfl 4 _ rfl
      have g5 := hfl 5 _ rfl
      have g6 := hfl 6 _ rfl
      have g7 := hfl 7 _ rfl
      have g8 := hfl 8 _ rfl
      subst hcs
      try simp only [k3, k4, Value.cells] at g0
      try simp only [k3, k4, Value.cells] at g1
      try simp only [k3, k4, Value.cells] at g2
      try simp only [k3, k4, Value.cells] at g3
      try simp only [k3, k4, Value.cells] at g4
      have k5 : Try.prog.cellsOf 42 = 1 := by kernel_rfl
      have k7 : Try.prog.cellsOf 57 = 4 := by kernel_rfl
      have k8 : Try.prog.cellsOf 61 = 11 := by kernel_rfl
      have k9 : Try.prog.cellsOf 29 = 1 := by kernel_rfl
      try simp only [k5, k7, k8, k9, Value.cells] at g5
      try simp only [k5, k7, k8, k9, Value.cells] at g6
      try simp only [k5, k7, k8, k9, Value.cells] at g7
      try simp only [k5, k7, k8, k9, Value.cells] at g8
      obtain ⟨o0, p0⟩ := one_slice Try.underlying42 g5 (o 0) (List.mem_singleton.2 rfl)
      obtain ⟨⟨o1, p1⟩, ⟨o2, p2⟩, ⟨o3, p3⟩, ⟨o4, p4⟩⟩ := one_req (c0 := o 1) (c1 := o 2) (c2 := o 3) (c3 := o 4) g6
      obtain ⟨⟨o5, p5⟩, ⟨o6, p6⟩, ⟨o7, p7⟩, ⟨o8, p8⟩, ⟨o9, p9⟩, ⟨o10, p10⟩, ⟨o11, p11⟩, ⟨o12, p12⟩, ⟨o13, p13⟩, ⟨o14, p14⟩, ⟨o15, p15⟩⟩ := one_held (c0 := o 5) (c1 := o 6) (c2 := o 7) (c3 := o 8) (c4 := o 9) (c5 := o 10) (c6 := o 11) (c7 := o 12) (c8 := o 13) (c9 := o 14) (c10 := o 15) g7
      obtain ⟨o16, p16⟩ := one_slice Try.underlying29 g8 (o 16) (List.mem_singleton.2 rfl)
      obtain ⟨x0, e0, u0, z0⟩ := DataW.trod_int hui g0
      obtain ⟨x1, e1, u1, z1⟩ := DataW.trod_int hui g1
      obtain ⟨x2, e2, u2, z2⟩ := DataW.trod_int hui g2
      obtain ⟨x3, e3, u3, z3⟩ := DataW.trod_string hus g3
      obtain ⟨x4, e4, u4, z4⟩ := DataW.trod_string hus g4
      have f0 : [c0] = [Value.int .i64 x0] := e0
      have f1 : [c1] = [Value.int .i64 x1] := e1
      have f2 : [c2] = [Value.int .i64 x2] := e2
      have f3 : [c3] = [Value.string x3] := e3
      have f4 : [c4] = [Value.string x4] := e4
      simp only [List.cons.injEq, and_true] at f0 f1 f2 f3 f4
      subst f0 f1 f2 f3 f4
      rw [p0, p1, p2, p3, p4, p5, p6, p7, p8, p9, p10, p11, p12, p13, p14, p15, p16] at hat
      refine ⟨⟨x0, x1, x2, x3, x4, (fun j => if j = 0 then o0 else if j = 1 then o3 else if j = 2 then o7 else if j = 3 then o11 else o16), (fun j => if j = 0 then o1 else if j = 1 then o2 else if j = 2 then o4 else if j = 3 then o5 else if j = 4 then o6 else if j = 5 then o8 else if j = 6 then o10 else o12), (fun j => if j = 0 then o9 else if j = 1 then o13 else if j = 2 then o14 else o15)⟩, fun j u hu => ?_, ⟨wide_of z0, wide_of z1, wide_of z2, z3, z4⟩, ?_⟩
      · obtain ⟨hj, rfl⟩ := List.getElem?_eq_some_iff.1 hu
        rw [← Go.Deep.add_add]
        rw [← List.getElem?_eq_getElem hj]
        exact hat j (show j < 22 from hj)
      · have h1 := congrArg Prod.fst hx
        simp only [List.map_cons, List.map_nil] at h1
        exact ⟨_, h1, by rw [congrArg Prod.fst u3]; rfl, by rw [congrArg Prod.fst u4]; rfl⟩)
    subst hxl
    refine ⟨xs, hsl, Nat.le_trans hl hm, fun x hx => ?_, .inr ⟨D, _, hxx, fun i hi => (hR i hi).2⟩⟩
    obtain ⟨i, hi', rfl⟩ := List.mem_iff_getElem.1 hx
    exact (hR i hi').1
end
end Go.Proofs.Ythhhlaoiampinaa
namespace Go.Proofs.Ythhhlaoiampinaa
open Go.RowKit
def SameTexts (xs ys : List ByteArray) : Bool := decide (xs = ys)
set_option maxHeartbeats 800000 in
theorem eqStr_any (v1 v2 : Value) (xs ys : List ByteArray) (w : World) (h1 : SlR w es v1 xs) (h2 : SlR w es v2 ys) (hx : xs.length ≤ 140737488351232) (hy : ys.length ≤ 140737488351232) :
    Calls Try.prog 20 #[v1, v2] w fun e w' => e = .returned (.bool (SameTexts xs ys)) ∧ w = w' := by
  obtain ⟨A, c, rfl, hc, hA⟩ := h1
  obtain ⟨B, d, rfl, hd, hB⟩ := h2
  by_cases hl : xs.length = ys.length
  · have hL := Lib.hid hl
    have hb : (((xs.length : Nat) : Int) != ((ys.length : Nat) : Int)) = false := by simp [hl]
    clear hl
    go_enter Try.func20, Try.ntmps20
    go_wp2_with fail
    go_loop [14] (fun i => ∃ k : Nat, k ≤ xs.length ∧ i = .int .i64 k ∧ xs.take k = ys.take k) (fun i => xs.length - (intOf i).toNat)
    case atStart => exact ⟨0, by omega, rfl, rfl⟩
    case round =>
      obtain ⟨k, hk, rfl, hEq⟩ := hrel
      have HE := Lib.hid hEq
      clear hEq
      by_cases hlt : k < xs.length
      · have hlt' : k < ys.length := by rw [← hL.out]; exact hlt
        obtain ⟨b1, o1, rfl, hb1, hc1⟩ := hA (by omega)
        obtain ⟨b2, o2, rfl, hb2, hc2⟩ := hB (by omega)
        have c1 := hc1 k (.string xs[k]) (by rw [es_map]; simp [hlt])
        have c2 := hc2 k (.string ys[k]) (by rw [es_map]; simp [hlt'])
        clear hA hB hc1 hc2
        by_cases hxy : xs[k] = ys[k]
        · have ht : (!xs[k].toList == ys[k].toList) = false := by rw [hxy]; simp
          have HS : Hid (xs.take (k + 1) = ys.take (k + 1)) := by
            show _ = _
            rw [List.take_add_one, List.take_add_one, HE.out, List.getElem?_eq_getElem hlt, List.getElem?_eq_getElem hlt', hxy]
          clear hxy
          go_wp2_with fail
          go_round
          case rel => exact ⟨k + 1, by omega, by go_num, HS.out⟩
          case measure => simp [intOf]; omega
        · have ht : (!xs[k].toList == ys[k].toList) = true := by
            rw [ba_toList, ba_toList]; simp only [Bool.not_eq_true', beq_eq_false_iff_ne]
            exact fun h => hxy (sl_inj h)
          have HF : Hid (SameTexts xs ys = false) := by
            show _ = _
            unfold SameTexts; rw [decide_eq_false_iff_not]; rintro rfl; exact hxy rfl
          clear hxy
          go_wp2_with fail
          go_ret
          exact ⟨ret_bool HF.out.symm, rfl⟩
      · have HF : Hid (SameTexts xs ys = true) := by
          show _ = _
          unfold SameTexts; rw [decide_eq_true_iff]
          have := HE.out
          rw [List.take_of_length_le (by omega), List.take_of_length_le (by rw [← hL.out]; omega)] at this
          exact this
        go_wp2_with fail
        go_ret
        exact ⟨ret_bool HF.out.symm, rfl⟩
  · have hb : (((xs.length : Nat) : Int) != ((ys.length : Nat) : Int)) = true := by simp; omega
    have HF : Hid (SameTexts xs ys = false) := by
      show _ = _
      unfold SameTexts; rw [decide_eq_false_iff_not]; intro h; rw [h] at hl; exact hl rfl
    clear hl
    go_enter Try.func20, Try.ntmps20
    go_wp2_with fail
    go_ret
    exact ⟨ret_bool HF.out.symm, rfl⟩
end Go.Proofs.Ythhhlaoiampinaa
namespace Go.Proofs.Ythhhlaoiampinaa
set_option maxRecDepth 20000
open Go.RowKit Go.Shelf
theorem flat_get {α : Type} {en : α → List Value} {size : Nat} (hen : ∀ x, (en x).length = size) : ∀ (xs : List α) (k j : Nat) (hk : k < xs.length), j < size → (xs.flatMap en)[k * size + j]? = (en xs[k])[j]?
  | [], k, j, hk, _ => by simp at hk
  | x :: xs, 0, j, _, hj => by
    rw [List.flatMap_cons, Nat.zero_mul, Nat.zero_add, List.getElem?_append_left (by rw [hen]; exact hj)]; rfl
  | x :: xs, k + 1, j, hk, hj => by
    rw [List.flatMap_cons, List.getElem?_append_right (by rw [hen, Nat.succ_mul]; omega), hen, Nat.succ_mul]
    have := flat_get hen xs k j (by simpa using hk) hj
    rw [show k * size + size + j - size = k * size + j by omega, this]
    rfl
theorem SlR.rowN {α : Type} {w : World} {en : α → List Value} {size : Nat} {v : Value} {xs : List α} (hen : ∀ x, (en x).length = size) (h : SlR w en v xs) (hn : 0 < xs.length) :
    ∃ b off c, v = .slice (some ⟨b, off, none⟩) xs.length c ∧ xs.length ≤ c ∧ b < w.heap.size ∧ ∀ k (hk : k < xs.length) j u, (en xs[k])[j]? = some u → w.cell? ⟨b, off + (k * size + j), none⟩ = some u := by
  obtain ⟨A, c, hv, hc, hx⟩ := h
  obtain ⟨b, off, rfl, hb, hcell⟩ := hx hn
  refine ⟨b, off, c, hv, hc, hb, fun k hk j u hu => hcell _ _ ?_⟩
  rw [flat_get hen xs k j hk]
  · exact hu
  · have := (List.getElem?_eq_some_iff.1 hu).1
    rwa [hen] at this
def stZ : Array Value := #[.int .i64 0, .int .i64 0, .int .i64 0, .string { data := #[] }, .string { data := #[] }, .slice none 0 0, .string { data := #[] }, .string { data := #[] }, .slice none 0 0, .string { data := #[] }, .string { data := #[] }, .string { data := #[] }, .slice none 0 0, .string { data := #[] }, .int .i64 0, .string { data := #[] }, .slice none 0 0, .string { data := #[] }, .int .i64 0, .int .i64 0, .int .i64 0, .slice none 0 0]
theorem of_any (x : Stp) (n : Int) (w : World) (hx : Wide x.k) (hn : 0 < n ∧ n ≤ 4611686018427387904) :
    Calls Try.prog 50 #[.agg (e_st x).toArray, .int .i64 n] w fun e w' => e = .returned (.int .i64 (x.k % n)) ∧ Below w.heap.size w w' := by
  obtain ⟨xk, xa, xb, xs, xt, og, ou, oi⟩ := x
  have hxk : Wide xk := hx
  dsimp only [e_st]
  go_enter Try.func50, Try.ntmps50
  go_wp2_with fail
  refine (rest_any xk n _ hxk hn).mono ?_
  rintro e w1 ⟨rfl, rfl⟩
  go_wp2_with fail
  go_ret
  exact ⟨rfl, (Below.refl _ _).alloc (Nat.le_refl _) _⟩
theorem beqL_true {x y : ByteArray} (h : x = y) : (x.toList == y.toList) = true := by rw [h]; simp
theorem beqL_false {x y : ByteArray} (h : x ≠ y) : (x.toList == y.toList) = false := by
  rw [beq_eq_false_iff_ne]; intro e; apply h; apply sl_inj; rw [← ba_toList, ← ba_toList, e]
end Go.Proofs.Ythhhlaoiampinaa
namespace Go.Proofs.Ythhhlaoiampinaa
set_option maxRecDepth 20000
open Go.RowKit Go.Shelf
theorem copyStr_any (v : Value) (l : List ByteArray) (w : World) (h : SlR w es v l) (hl : l.length ≤ 1048576) :
    Calls Try.prog 25 #[v] w fun e w' => (∃ u, e = .returned u ∧ Owns w' w.heap.size 9 1 es u l) ∧ Below w.heap.size w w' := by
  obtain ⟨i0, hi, hi0, hi1, hi2⟩ := info_parts stringInfo
  go_enter Try.func25, Try.ntmps25
  go_wp2_with (at_builtin; go_must (refine wpList_append_slr rfl (.const (.slice none 0 0)) (.tmp 3) _ rfl w.heap.size 9 (.string ByteArray.empty) 1 16 es Try.underlying42 stringInfo rfl (by decide) (fun _ => rfl) _ [] rfl (Owns.nil w w.heap.size 9 1 es) _ l rfl h (es_one l) (by simp [maxLen]; omega) (by simp; omega) (by simp) ?_); intro v' w2 hown' hgrow)
  go_ret
  exact ⟨⟨_, rfl, hown'⟩, (Below.refl _ _).grown hgrow (Nat.le_refl _) (fun k hk => by have hk' : (none : Option Nat) = some k := hk; cases hk')⟩
/-- A row as keys with what they have. -/
abbrev Kv := ByteArray × Int
def kv (ns : List Nd) : List Kv := ns.map (·.2)
def usedK (l : List Kv) : Int := (l.map (·.2)).sum
def leftK (room s : Int) : List Kv → List Kv
  | [] => []
  | x :: r => if usedK (x :: r) + s ≤ room then x :: r else leftK room s r
def withoutK (l : List Kv) (k : ByteArray) : List Kv := l.filter fun x => !decide (x.1 = k)
def touchK (l : List Kv) (k : ByteArray) : List Kv :=
  match l.find? (fun x => decide (x.1 = k)) with
  | none => l
  | some x => withoutK l k ++ [x]
def putK (room : Int) (l : List Kv) (k : ByteArray) (s : Int) : List Kv :=
  if s < 1 ∨ room < s then l else leftK room s (withoutK l k) ++ [(k, s)]
def stepK (room : Int) (l : List Kv) (x : Stp) : List Kv :=
  if x.k % 4 = 0 then touchK l x.s else if x.k % 4 = 1 then withoutK l x.s else putK room l x.s x.a
def rowK (room : Int) (xs : List Stp) : List Kv := xs.foldl (stepK room) []
theorem kv_app (a b : List Nd) : kv (a ++ b) = kv a ++ kv b := by simp [kv]
theorem usedK_kv (ns : List Nd) : usedK (kv ns) = usedOf ns := by unfold usedK kv usedOf; rw [List.map_map]; rfl
theorem leftK_kv (room s : Int) : ∀ ns : List Nd, leftK room s (kv ns) = kv (leftR room s ns)
  | [] => rfl
  | x :: r => by
    have h1 : kv (x :: r) = x.2 :: kv r := rfl
    have h2 := usedK_kv (x :: r)
    rw [h1] at h2 ⊢
    by_cases h : usedOf (x :: r) + s ≤ room
    · rw [leftR_stay h]
      unfold leftK
      rw [if_pos (by rw [h2]; exact h)]
      rfl
    · rw [leftR_go h, ← leftK_kv room s r]
      show (if _ then _ else _) = _
      rw [if_neg (by rw [h2]; exact h)]
theorem withoutK_kv (ns : List Nd) (k : ByteArray) : withoutK (kv ns) k = kv (without ns k) := by
  unfold withoutK kv without
  rw [List.filter_map]
  rfl
theorem touchK_none {ns : List Nd} {k : ByteArray} (h : ∀ x ∈ ns, x.2.1 ≠ k) : touchK (kv ns) k = kv ns := by
  unfold touchK
  rw [List.find?_eq_none.2 (fun x hx => by
    obtain ⟨y, hy, rfl⟩ := List.mem_map.1 hx
    simpa using h y hy)]
theorem touchK_some {l r : List Nd} {b : Nat} {k : ByteArray} {s : Int} (b' : Nat) (h : ((l ++ (b, k, s) :: r).map (·.2.1)).Nodup) : touchK (kv (l ++ (b, k, s) :: r)) k = kv (l ++ r ++ [(b', k, s)]) := by
  have hn := not_key h
  have hf : (kv (l ++ (b, k, s) :: r)).find? (fun x => decide (x.1 = k)) = some (k, s) := by
    rw [kv_app, List.find?_append, List.find?_eq_none.2 (fun x hx => by
      obtain ⟨y, hy, rfl⟩ := List.mem_map.1 hx
      simpa using hn y (List.mem_append_left _ hy))]
    show Option.or none (List.find? _ ((k, s) :: kv r)) = _
    rw [Option.none_or, List.find?_cons_of_pos (by simp)]
  unfold touchK
  rw [hf]
  show withoutK _ k ++ [(k, s)] = _
  rw [withoutK_kv, without_some h, kv_app, kv_app, kv_app]
  rfl
/-- Any Touch. -/
theorem touch_all (n0 p c mb : Nat) (room : Int) (ns : List Nd) (k : ByteArray) (w : World) (h : RowS w n0 p room c mb ns) (hks : k.size ≤ maxLen) :
    Calls Try.prog 55 #[ptr p, .string k] w fun e w' => (∃ q, e = .returned q) ∧ ∃ ns', RowS w' n0 p room c mb ns' ∧ RF RY n0 w w' ∧ kv ns' = touchK (kv ns) k := by
  rcases find_split ns k with hk | ⟨l, b, s, r, rfl⟩
  · refine (touch_none n0 p c mb room ns k w h hks hk).mono ?_
    rintro e w' ⟨rfl, rfl⟩
    exact ⟨⟨_, rfl⟩, ns, h, RF.refl _ _ _, (touchK_none hk).symm⟩
  · have hkd := h.ch.kd
    refine (touch_some n0 p c mb b room l r k s w h).mono ?_
    rintro e w' ⟨rfl, ⟨b', h1⟩, h2⟩
    exact ⟨⟨_, rfl⟩, _, h1, h2, (touchK_some b' hkd).symm⟩
/-- Any Put. -/
theorem putR_all (n0 p c mb : Nat) (room : Int) (ns : List Nd) (k : ByteArray) (s : Int) (w : World) (h : RowS w n0 p room c mb ns) (hks : k.size ≤ maxLen) :
    Calls Try.prog 54 #[ptr p, .string k, .int .i64 s] w fun e w' => (∃ q, e = .returned q) ∧ ∃ ns', RowS w' n0 p room c mb ns' ∧ RF RY n0 w w' ∧ kv ns' = putK room (kv ns) k s := by
  by_cases h1 : s < 1
  · refine (putR_bad n0 p c mb room ns k s w h h1).mono ?_
    rintro e w' ⟨rfl, hb⟩
    exact ⟨⟨_, rfl⟩, ns, h.below hb, RF.of_below hb h.n0w, (if_pos (.inl h1)).symm⟩
  · by_cases h2 : room < s
    · refine (putR_full n0 p c mb room ns k s w h (by omega) h2).mono ?_
      rintro e w' ⟨rfl, hb⟩
      exact ⟨⟨_, rfl⟩, ns, h.below hb, RF.of_below hb h.n0w, (if_pos (.inr h2)).symm⟩
    · refine (putR_okD n0 p c mb room ns k s w h (by omega) (by omega) hks).mono ?_
      rintro e w' ⟨v, b, gone, left, rfl, ⟨_, hl⟩, _, h3, h4⟩
      refine ⟨⟨_, rfl⟩, _, h3, h4, ?_⟩
      unfold putK
      rw [if_neg (by omega), withoutK_kv, leftK_kv, ← hl, kv_app]
      rfl
set_option maxHeartbeats 4000000 in
theorem rowedD_any (room : Int) (v : Value) (xs : List Stp) (w : World) (h1 : 1 ≤ room) (h2 : room ≤ 1000000) (h : SlR w e_st v xs) (hl : xs.length ≤ maxLen) (hx : ∀ x ∈ xs, Wide x.k ∧ Wide x.a ∧ Wide x.b ∧ x.s.size ≤ maxLen ∧ x.t.size ≤ maxLen) :
    Calls Try.prog 22 #[.int .i64 room, v] w fun e w' => ∃ p c mb ns, e = .returned (ptr p) ∧ RowS w' w.heap.size p room c mb ns ∧ Below w.heap.size w w' ∧ kv ns = rowK room xs := by
  have HV := Lib.hid (fun hn => h.rowN (size := 22) (fun _ => rfl) hn)
  have HX := Lib.hid hx
  obtain ⟨A, cp, rfl, hc⟩ := h.form
  have hl' : xs.length ≤ 9223372036854775807 := hl
  clear h hx hl
  go_enter Try.func22, Try.ntmps22
  go_wp2_with fail
  refine (newRow_any room _ h1 h2).mono ?_
  rintro e w1 ⟨p, c, mb, rfl, hr1, b1⟩
  go_wp2_with fail
  refine (putR_bad _ p c mb room [] _ 0 _ hr1 (by decide)).mono ?_
  rintro e w2 ⟨rfl, g2⟩
  have hr2 := hr1.below g2
  have b2 := b1.trans (g2.mono b1.size)
  have HR := Lib.hid hr2
  clear hr1 hr2 b1 g2
  go_wp2_with fail
  go_loopw [31] (fun iv wr => ∃ (k : Nat), iv = .int .i64 (k : Int) ∧ k ≤ xs.length ∧ (∃ ns, RowS wr w.heap.size p room c mb ns ∧ kv ns = rowK room (xs.take k)) ∧ Below w.heap.size w wr) (fun iv _ => xs.length - (intOf iv).toNat)
  case atStart => exact ⟨0, rfl, Nat.zero_le _, ⟨_, HR.out, rfl⟩, b2⟩
  case round =>
    obtain ⟨k, rfl, hk, ⟨ns, hrs, hkv⟩, hbel⟩ := hrel
    by_cases hlt : k < xs.length
    · obtain ⟨bb, off, c3, hv2, hc3, hbb, hcell⟩ := HV.out (by omega)
      injection hv2 with g1 g2 g3
      subst g1 g3
      have hC : wr.rangeAt bb (off + k * 22) (e_st xs[k]) := fun j v hv => (hbel.cell (p := ⟨bb, off + (k * 22) + j, none⟩) hbb).trans (by rw [Nat.add_assoc]; exact hcell k hlt j v hv)
      have hxk := HX.out xs[k] (List.getElem_mem hlt)
      have HTK : Hid (∀ ns', kv ns' = stepK room (kv ns) xs[k] → kv ns' = rowK room (xs.take (k + 1))) := by
        intro ns' h'
        rw [List.take_add_one, List.getElem?_eq_getElem hlt]
        show _ = List.foldl _ _ (_ ++ [_])
        rw [List.foldl_append]
        show _ = stepK room (rowK room (xs.take k)) xs[k]
        rw [← hkv]
        exact h'
      clear hkv
      clear hcell g2
      generalize xs[k] = x at *
      obtain ⟨hx1, hx2, hx3, hx4, hx5⟩ := hxk
      have hO := Lib.hid (fun (W : World) => of_any x 4 W hx1 (by decide))
      have hB := Blk.new wr 63 (e_st x).toArray
      have hr5 := hrs.alloc (.cells (e_st x).toArray 63)
      have hb5 := hbel.alloc hbel.size (.cells (e_st x).toArray 63)
      have hst : (storeCells ⟨wr.heap.size, 0, none⟩ (e_st x)).run Try.prog (wr.alloc (.cells stZ 63)) = .ok () (wr.alloc (.cells (e_st x).toArray 63)) :=
        run_storeCells_new (P := Try.prog) wr 63 stZ (e_st x).toArray (by kernel_rfl) (by simp [stZ, e_st]) (by simp [e_st, Value.oneCell'])
      unfold stZ at hst
      go_wp2_with (first
        | refine wpList_load_mid rfl 63 (.tmp 33) rfl bb (off + k * 22) rfl (e_st x) _ hC Try.underlying63 rfl (by kernel_rfl) ?_
        | refine wpList_load_row rfl 63 (.tmp 10) rfl wr.heap.size rfl 63 (e_st x).toArray (0, 0) _ (heap_alloc_last wr _) Try.underlying63 rfl (by kernel_rfl) ?_)
      clear hst hC
      generalize wr.alloc _ = w5 at *
      refine (hO.out _).mono ?_
      rintro e w6 ⟨rfl, g6⟩
      have hr6 := hr5.below g6
      have hB6 := hB.below g6 hB.lt
      have hb6 := hb5.trans (g6.mono hb5.size)
      have e1 : w6.cell? ⟨wr.heap.size, 1, none⟩ = some (.int .i64 x.a) := hB6.cell 1
      have e3 : w6.cell? ⟨wr.heap.size, 3, none⟩ = some (.string x.s) := hB6.cell 3
      obtain ⟨xk, xa, xb, xS, xT, og, ou, oi⟩ := x
      dsimp only at hx1 hx2 hx3 hx4 hx5 e1 e3 ⊢
      have HRN : Hid (∀ w7 ns', RowS w7 w.heap.size p room c mb ns' ∧ RF RY w.heap.size w6 w7 ∧ kv ns' = (if xk % 4 = 0 then touchK (kv ns) xS else if xk % 4 = 1 then withoutK (kv ns) xS else putK room (kv ns) xS xa) → (∃ ns', RowS w7 w.heap.size p room c mb ns' ∧ kv ns' = rowK room (xs.take (k + 1))) ∧ Below w.heap.size w w7) := fun w7 ns' h7 => ⟨⟨ns', h7.1, HTK.out ns' h7.2.2⟩, hb6.trans h7.2.1.bel⟩
      clear HTK
      have HR6 := Lib.hid hr6
      clear hB hr5 hb5 hr6 hB6 hb6 g6 hrs hbel
      generalize (e_st _).toArray = X at *
      generalize wr.heap.size = bx at *
      generalize hm : xk % 4 = m at *
      clear hm
      by_cases hm0 : m = 0
      · subst hm0
        go_wp2_with fail
        refine (touch_all _ p c mb room ns xS _ HR6.out hx4).mono ?_
        rintro e w7 ⟨⟨q, rfl⟩, ns7, h7, rf7, hk7⟩
        have HN := Lib.hid (HRN.out w7 ns7 ⟨h7, rf7, by simp [hk7]⟩)
        clear h7 rf7 hk7
        go_wp2_with fail
        exact ⟨⟨k + 1, by simp, by omega, HN.out.1, HN.out.2⟩, by simp only [intOf]; omega⟩
      · have hm0' : (m == 0) = false := by rw [beq_eq_false_iff_ne]; exact hm0
        by_cases hm1 : m = 1
        · subst hm1
          go_wp2_with fail
          refine (drop_any _ p c mb room ns xS _ HR6.out hx4).mono ?_
          rintro e w7 ⟨⟨q, rfl⟩, h7, rf7⟩
          have HN := Lib.hid (HRN.out w7 _ ⟨h7, rf7, by simp [withoutK_kv]⟩)
          clear h7 rf7
          go_wp2_with fail
          exact ⟨⟨k + 1, by simp, by omega, HN.out.1, HN.out.2⟩, by simp only [intOf]; omega⟩
        · have hm1' : (m == 1) = false := by rw [beq_eq_false_iff_ne]; exact hm1
          go_wp2_with fail
          refine (putR_all _ p c mb room ns xS xa _ HR6.out hx4).mono ?_
          rintro e w7 ⟨⟨q, rfl⟩, ns7, h7, rf7, hk7⟩
          have HN := Lib.hid (HRN.out w7 ns7 ⟨h7, rf7, by rw [hk7, if_neg hm0, if_neg hm1]⟩)
          clear h7 rf7 hk7
          go_wp2_with fail
          exact ⟨⟨k + 1, by simp, by omega, HN.out.1, HN.out.2⟩, by simp only [intOf]; omega⟩
    · obtain rfl : k = xs.length := by omega
      have HKV := Lib.hid hkv
      clear hkv
      go_wp2_with fail
      go_ret
      exact ⟨p, c, mb, ns, rfl, hrs, hbel, by have := HKV.out; rwa [List.take_of_length_le (Nat.le_refl _)] at this⟩
theorem rowed_any (room : Int) (v : Value) (xs : List Stp) (w : World) (h1 : 1 ≤ room) (h2 : room ≤ 1000000) (h : SlR w e_st v xs) (hl : xs.length ≤ maxLen) (hx : ∀ x ∈ xs, Wide x.k ∧ Wide x.a ∧ Wide x.b ∧ x.s.size ≤ maxLen ∧ x.t.size ≤ maxLen) :
    Calls Try.prog 22 #[.int .i64 room, v] w fun e w' => ∃ p c mb ns, e = .returned (ptr p) ∧ RowS w' w.heap.size p room c mb ns ∧ Below w.heap.size w w' := by
  refine (rowedD_any room v xs w h1 h2 h hl hx).mono ?_
  rintro e w' ⟨p, c, mb, ns, he, hr, hb, _⟩
  exact ⟨p, c, mb, ns, he, hr, hb⟩
end Go.Proofs.Ythhhlaoiampinaa
namespace Go.Proofs.Ythhhlaoiampinaa
set_option maxRecDepth 20000
open Go.RowKit Go.Shelf
def keysOf (ns : List Nd) : List ByteArray := ns.map (·.2.1)
def noKey (k : ByteArray) (ks : List ByteArray) : List ByteArray := ks.filter fun x => !decide (x = k)
theorem keys_without (ns : List Nd) (k : ByteArray) : keysOf (without ns k) = noKey k (keysOf ns) := by
  unfold keysOf without noKey
  rw [List.filter_map]
  rfl
theorem noKey_snoc (k x : ByteArray) (l : List ByteArray) : noKey k (l ++ [x]) = noKey k l ++ (if x = k then [] else [x]) := by
  unfold noKey
  rw [List.filter_append]
  congr 1
  by_cases h : x = k <;> simp [h]
def anyK (k : ByteArray) (l : List ByteArray) : Bool := l.any fun x => decide (x = k)
theorem anyK_snoc (k x : ByteArray) (l : List ByteArray) : anyK k (l ++ [x]) = (anyK k l || decide (x = k)) := by simp [anyK]
theorem anyK_none {k : ByteArray} {ns : List Nd} (h : ∀ x ∈ ns, x.2.1 ≠ k) : anyK k (keysOf ns) = false := by
  unfold anyK keysOf
  rw [List.any_eq_false]
  intro x hx
  obtain ⟨y, hy, rfl⟩ := List.mem_map.1 hx
  simpa using h y hy
theorem anyK_some (l r : List Nd) (b : Nat) (k : ByteArray) (s : Int) : anyK k (keysOf (l ++ (b, k, s) :: r)) = true := by
  simp [anyK, keysOf]
theorem noKey_none {k : ByteArray} {ns : List Nd} (h : ∀ x ∈ ns, x.2.1 ≠ k) : noKey k (keysOf ns) = keysOf ns := by
  rw [← keys_without, without_none h]
end Go.Proofs.Ythhhlaoiampinaa
