/- A slice of steps, opened: the numbers and the two texts; the other cells as they stand. -/
import Derived.Test.YtemknajlmocfeaaY4
import Derived.Test.YtemknajlmocfeaaY0
import Derived.Test.YtemknajlmocfeaaY1
import Derived.Test.YtemknajlmocfeaaY3
import Derived.Deep.MidRow
import Derived.Deep.WholeRow
import Std
namespace Go.Proofs.Ytemknajlmocfeaa
set_option maxRecDepth 20000
open Go.ChangeShapes Go.WideShapes Go.Deep Go.RowKit Go.Joins
/-- A step by its cells: Kind, A, B, S, T; the 17 others. -/
structure Stp where
  k : Int
  a : Int
  b : Int
  s : ByteArray
  t : ByteArray
  g : Nat → Option Addr × Nat × Nat
  u : Nat → ByteArray
  i : Nat → Int
def e_st (x : Stp) : List Value := [.int .i64 x.k, .int .i64 x.a, .int .i64 x.b, .string x.s, .string x.t, .slice (x.g 0).1 (x.g 0).2.1 (x.g 0).2.2, .string (x.u 0), .string (x.u 1), .slice (x.g 1).1 (x.g 1).2.1 (x.g 1).2.2, .string (x.u 2), .string (x.u 3), .string (x.u 4), .slice (x.g 2).1 (x.g 2).2.1 (x.g 2).2.2, .string (x.u 5), .int .i64 (x.i 0), .string (x.u 6), .slice (x.g 3).1 (x.g 3).2.1 (x.g 3).2.2, .string (x.u 7), .int .i64 (x.i 1), .int .i64 (x.i 2), .int .i64 (x.i 3), .slice (x.g 4).1 (x.g 4).2.1 (x.g 4).2.2]
theorem list22 {α : Type} {cs : List α} (h : cs.length = 22) : ∃ c0 c1 c2 c3 c4 : α, ∃ o : Nat → α, cs = [c0, c1, c2, c3, c4, o 0, o 1, o 2, o 3, o 4, o 5, o 6, o 7, o 8, o 9, o 10, o 11, o 12, o 13, o 14, o 15, o 16] := by
  refine ⟨cs[0], cs[1], cs[2], cs[3], cs[4], fun j => (cs[j + 5]?).getD cs[0], ?_⟩
  refine List.ext_getElem (h.trans rfl) fun j hj hj' => ?_
  rw [h] at hj
  have hx : ∀ i, i < 22 → cs[i]? = cs[i]? := fun _ _ => rfl
  match j, hj with
  | 0, _ => rfl
  | 1, _ => rfl
  | 2, _ => rfl
  | 3, _ => rfl
  | 4, _ => rfl
  | 5, _ => simp [h]
  | 6, _ => simp [h]
  | 7, _ => simp [h]
  | 8, _ => simp [h]
  | 9, _ => simp [h]
  | 10, _ => simp [h]
  | 11, _ => simp [h]
  | 12, _ => simp [h]
  | 13, _ => simp [h]
  | 14, _ => simp [h]
  | 15, _ => simp [h]
  | 16, _ => simp [h]
  | 17, _ => simp [h]
  | 18, _ => simp [h]
  | 19, _ => simp [h]
  | 20, _ => simp [h]
  | 21, _ => simp [h]
  | j + 22, hj => omega
section
variable {H : Type} {P : Program} {enc : TypeId × Value → H} {w : World} {base : Nat} {spare : Nat → Bool} {held : Bool}
theorem one_slice {t e : TypeId} {n : Nat} {cs : List Value} {x : DataW H × List MemPlace} (ht : P.underlying t = some (.slice e)) (h : DataW.trod enc P w base spare held n t cs = some x) : ∀ c ∈ cs, ∃ y : Option Addr × Nat × Nat, c = .slice y.1 y.2.1 y.2.2 := by
  cases n with
  | zero => simp [DataW.trod] at h
  | succ n =>
    unfold DataW.trod at h
    rw [ht] at h
    split at h
    all_goals first
      | (intro c hc; rw [List.mem_singleton.1 hc]; exact ⟨(_, _, _), rfl⟩)
      | simp_all
theorem one_string {t : TypeId} {n : Nat} {cs : List Value} {x : DataW H × List MemPlace} (ht : P.underlying t = some .string) (h : DataW.trod enc P w base spare held n t cs = some x) : ∀ c ∈ cs, ∃ s, c = .string s := by
  obtain ⟨s, rfl, _⟩ := DataW.trod_string ht h
  exact fun c hc => ⟨s, List.mem_singleton.1 hc⟩
theorem one_int {t : TypeId} {k : IntKind} {n : Nat} {cs : List Value} {x : DataW H × List MemPlace} (ht : P.underlying t = some (.int k)) (h : DataW.trod enc P w base spare held n t cs = some x) : ∀ c ∈ cs, ∃ s, c = .int k s := by
  obtain ⟨s, rfl, _⟩ := DataW.trod_int ht h
  exact fun c hc => ⟨s, List.mem_singleton.1 hc⟩
end
section
variable {H : Type} {enc : TypeId × Value → H} {w : World} {base : Nat} {spare : Nat → Bool} {held : Bool}
theorem one_req {n : Nat} {c0 c1 c2 c3 : Value} {x : DataW H × List MemPlace} (h : DataW.trod enc Try.prog w base spare held n 57 [c0, c1, c2, c3] = some x) : (∃ s, c0 = .string s) ∧ (∃ s, c1 = .string s) ∧ (∃ y : Option Addr × Nat × Nat, c2 = .slice y.1 y.2.1 y.2.2) ∧ (∃ s, c3 = .string s) := by
  obtain ⟨xs, n, _, hx, -, hlen, hfl⟩ := DataW.trod_struct Try.underlying57 h
  have hl4 : xs.length = 4 := hlen
  obtain ⟨y0, y1, y2, y3, rfl⟩ : ∃ y0 y1 y2 y3, xs = [y0, y1, y2, y3] := by
    match xs, hl4 with
    | [y0, y1, y2, y3], _ => exact ⟨y0, y1, y2, y3, rfl⟩
  have k4 : Try.prog.cellsOf 9 = 1 := by kernel_rfl
  have k5 : Try.prog.cellsOf 29 = 1 := by kernel_rfl
  have g0 := hfl 0 _ rfl
  have g1 := hfl 1 _ rfl
  have g2 := hfl 2 _ rfl
  have g3 := hfl 3 _ rfl
  try simp only [k4, k5, Value.cells] at g0
  try simp only [k4, k5, Value.cells] at g1
  try simp only [k4, k5, Value.cells] at g2
  try simp only [k4, k5, Value.cells] at g3
  exact ⟨one_string Try.underlying9 g0 c0 (List.mem_singleton.2 rfl), one_string Try.underlying9 g1 c1 (List.mem_singleton.2 rfl), one_slice Try.underlying29 g2 c2 (List.mem_singleton.2 rfl), one_string Try.underlying9 g3 c3 (List.mem_singleton.2 rfl)⟩
theorem one_resp {n : Nat} {c0 c1 c2 c3 : Value} {x : DataW H × List MemPlace} (h : DataW.trod enc Try.prog w base spare held n 59 [c0, c1, c2, c3] = some x) : (∃ s, c0 = .int .i64 s) ∧ (∃ s, c1 = .string s) ∧ (∃ y : Option Addr × Nat × Nat, c2 = .slice y.1 y.2.1 y.2.2) ∧ (∃ s, c3 = .string s) := by
  obtain ⟨xs, n, _, hx, -, hlen, hfl⟩ := DataW.trod_struct Try.underlying59 h
  have hl4 : xs.length = 4 := hlen
  obtain ⟨y0, y1, y2, y3, rfl⟩ : ∃ y0 y1 y2 y3, xs = [y0, y1, y2, y3] := by
    match xs, hl4 with
    | [y0, y1, y2, y3], _ => exact ⟨y0, y1, y2, y3, rfl⟩
  have k3 : Try.prog.cellsOf 3 = 1 := by kernel_rfl
  have k4 : Try.prog.cellsOf 9 = 1 := by kernel_rfl
  have k5 : Try.prog.cellsOf 29 = 1 := by kernel_rfl
  have g0 := hfl 0 _ rfl
  have g1 := hfl 1 _ rfl
  have g2 := hfl 2 _ rfl
  have g3 := hfl 3 _ rfl
  try simp only [k3, k4, k5, Value.cells] at g0
  try simp only [k3, k4, k5, Value.cells] at g1
  try simp only [k3, k4, k5, Value.cells] at g2
  try simp only [k3, k4, k5, Value.cells] at g3
  exact ⟨one_int Try.underlying3 g0 c0 (List.mem_singleton.2 rfl), one_string Try.underlying9 g1 c1 (List.mem_singleton.2 rfl), one_slice Try.underlying29 g2 c2 (List.mem_singleton.2 rfl), one_string Try.underlying9 g3 c3 (List.mem_singleton.2 rfl)⟩
theorem one_held {n : Nat} {c0 c1 c2 c3 c4 c5 c6 c7 c8 c9 c10 : Value} {x : DataW H × List MemPlace} (h : DataW.trod enc Try.prog w base spare held n 61 [c0, c1, c2, c3, c4, c5, c6, c7, c8, c9, c10] = some x) :
    (∃ s, c0 = .string s) ∧ (∃ s, c1 = .string s) ∧ (∃ y : Option Addr × Nat × Nat, c2 = .slice y.1 y.2.1 y.2.2) ∧ (∃ s, c3 = .string s) ∧ (∃ s, c4 = .int .i64 s) ∧ (∃ s, c5 = .string s) ∧ (∃ y : Option Addr × Nat × Nat, c6 = .slice y.1 y.2.1 y.2.2) ∧ (∃ s, c7 = .string s) ∧ (∃ s, c8 = .int .i64 s) ∧ (∃ s, c9 = .int .i64 s) ∧ (∃ s, c10 = .int .i64 s) := by
  obtain ⟨xs, n, _, hx, -, hlen, hfl⟩ := DataW.trod_struct Try.underlying61 h
  have hl5 : xs.length = 5 := hlen
  obtain ⟨y0, y1, y2, y3, y4, rfl⟩ : ∃ y0 y1 y2 y3 y4, xs = [y0, y1, y2, y3, y4] := by
    match xs, hl5 with
    | [y0, y1, y2, y3, y4], _ => exact ⟨y0, y1, y2, y3, y4, rfl⟩
  have k3 : Try.prog.cellsOf 3 = 1 := by kernel_rfl
  have k6 : Try.prog.cellsOf 57 = 4 := by kernel_rfl
  have k7 : Try.prog.cellsOf 59 = 4 := by kernel_rfl
  have g0 := hfl 0 _ rfl
  have g1 := hfl 1 _ rfl
  have g2 := hfl 2 _ rfl
  have g3 := hfl 3 _ rfl
  have g4 := hfl 4 _ rfl
  try simp only [k3, k6, k7, Value.cells] at g0
  try simp only [k3, k6, k7, Value.cells] at g1
  try simp only [k3, k6, k7, Value.cells] at g2
  try simp only [k3, k6, k7, Value.cells] at g3
  try simp only [k3, k6, k7, Value.cells] at g4
  obtain ⟨a0, a1, a2, a3⟩ := one_req (c0 := c0) (c1 := c1) (c2 := c2) (c3 := c3) g0
  obtain ⟨b0, b1, b2, b3⟩ := one_resp (c0 := c4) (c1 := c5) (c2 := c6) (c3 := c7) g1
  exact ⟨a0, a1, a2, a3, b0, b1, b2, b3, one_int Try.underlying3 g2 c8 (List.mem_singleton.2 rfl), one_int Try.underlying3 g3 c9 (List.mem_singleton.2 rfl), one_int Try.underlying3 g4 c10 (List.mem_singleton.2 rfl)⟩
/-- With what each of them weighs. -/
theorem open_steps {r : Reach} {b0 : Nat} {v : Value} {d : DataW H} {p : List MemPlace} (hv : Value.okWide Try.prog w r b0 46 v) (h : DataW.Trod enc Try.prog w base spare held 46 v d p) :
    ∃ xs : List Stp, SlR w e_st v xs ∧ xs.length ≤ maxLen ∧ (∀ x ∈ xs, Wide x.k ∧ Wide x.a ∧ Wide x.b ∧ x.s.size ≤ maxLen ∧ x.t.size ≤ maxLen) ∧
      ((xs = []) ∨ ∃ (D : Nat → DataW H) (sp : List (DataW H)), d = .slice ((List.range xs.length).map D) sp ∧ ∀ i (hi : i < xs.length), ∃ (ys : List (DataW H)), D i = .agg ys ∧ ys[3]? = some (.lit (.string xs[i].s.data.toList)) ∧ ys[4]? = some (.lit (.string xs[i].t.data.toList))) := by
  have ht : Try.prog.underlying 46 = some (.slice 63) := Try.underlying46
  have hs := Try.underlying63
  have hus := Try.underlying9
  have hui := Try.underlying3
  have k3 : Try.prog.cellsOf 3 = 1 := by kernel_rfl
  have k4 : Try.prog.cellsOf 9 = 1 := by kernel_rfl
  have k6 : Try.prog.cellsOf 63 = 22 := by kernel_rfl
  obtain ⟨A, len, cap, rfl⟩ := okWide_slice ht hv
  obtain ⟨fuel, hf⟩ := h
  rcases open_slice ht hf with ⟨hcs, _⟩ | ⟨a, len', cap', mm, nn, D, Pl, hcs, _, hl, hm, hmm, hx0, hi⟩
  · simp [Value.cells] at hcs
    obtain ⟨rfl, rfl, rfl⟩ := hcs
    exact ⟨[], SlR.nil _ _, by simp, by simp, .inl rfl⟩
  · simp [Value.cells] at hcs
    obtain ⟨rfl, rfl, rfl⟩ := hcs
    have hlm : len ≤ mm := by rw [hmm]; split <;> omega
    have hxx := congrArg Prod.fst hx0
    simp only at hxx
    obtain ⟨xs, hxl, hsl, hR⟩ := slr_of (w := w) (en := e_st) (size := 22) (a := a) (len := len) (cap := cap) (fun i x => (Wide x.k ∧ Wide x.a ∧ Wide x.b ∧ x.s.size ≤ maxLen ∧ x.t.size ≤ maxLen) ∧ ∃ (ys : List (DataW H)), D i = .agg ys ∧ ys[3]? = some (.lit (.string x.s.data.toList)) ∧ ys[4]? = some (.lit (.string x.t.data.toList))) (fun _ => rfl) hl (by omega) (fun i hi' => by
      obtain ⟨cs, hc, ht'⟩ := hi i (by omega)
      rw [k6] at hc
      obtain ⟨_, hcl, hat⟩ := World.cells?_some hc
      obtain ⟨c0, c1, c2, c3, c4, o, hcs⟩ := list22 hcl
      obtain ⟨xs, n, _, hx, -, hlen, hfl⟩ := DataW.trod_struct hs ht'
      have hl9 : xs.length = 9 := hlen
      obtain ⟨y0, y1, y2, y3, y4, y5, y6, y7, y8, rfl⟩ : ∃ y0 y1 y2 y3 y4 y5 y6 y7 y8, xs = [y0, y1, y2, y3, y4, y5, y6, y7, y8] := by
        match xs, hl9 with
        | [y0, y1, y2, y3, y4, y5, y6, y7, y8], _ => exact ⟨y0, y1, y2, y3, y4, y5, y6, y7, y8, rfl⟩
      have g0 := hfl 0 _ rfl
      have g1 := hfl 1 _ rfl
      have g2 := hfl 2 _ rfl
      have g3 := hfl 3 _ rfl
      have g4 := hfl 4 _ rfl
      have g5 := hfl 5 _ rfl
      have g6 := hfl 6 _ rfl
      have g7 := hfl 7 _ rfl
      have g8 := hfl 8 _ rfl
      subst hcs
      try simp only [k3, k4, Value.cells] at g0
      try simp only [k3, k4, Value.cells] at g1
      try simp only [k3, k4, Value.cells] at g2
      try simp only [k3, k4, Value.cells] at g3
      try simp only [k3, k4, Value.cells] at g4
      have k5 : Try.prog.cellsOf 42 = 1 := by kernel_rfl
      have k7 : Try.prog.cellsOf 57 = 4 := by kernel_rfl
      have k8 : Try.prog.cellsOf 61 = 11 := by kernel_rfl
      have k9 : Try.prog.cellsOf 29 = 1 := by kernel_rfl
      try simp only [k5, k7, k8, k9, Value.cells] at g5
      try simp only [k5, k7, k8, k9, Value.cells] at g6
      try simp only [k5, k7, k8, k9, Value.cells] at g7
      try simp only [k5, k7, k8, k9, Value.cells] at g8
      obtain ⟨o0, p0⟩ := one_slice Try.underlying42 g5 (o 0) (List.mem_singleton.2 rfl)
      obtain ⟨⟨o1, p1⟩, ⟨o2, p2⟩, ⟨o3, p3⟩, ⟨o4, p4⟩⟩ := one_req (c0 := o 1) (c1 := o 2) (c2 := o 3) (c3 := o 4) g6
      obtain ⟨⟨o5, p5⟩, ⟨o6, p6⟩, ⟨o7, p7⟩, ⟨o8, p8⟩, ⟨o9, p9⟩, ⟨o10, p10⟩, ⟨o11, p11⟩, ⟨o12, p12⟩, ⟨o13, p13⟩, ⟨o14, p14⟩, ⟨o15, p15⟩⟩ := one_held (c0 := o 5) (c1 := o 6) (c2 := o 7) (c3 := o 8) (c4 := o 9) (c5 := o 10) (c6 := o 11) (c7 := o 12) (c8 := o 13) (c9 := o 14) (c10 := o 15) g7
      obtain ⟨o16, p16⟩ := one_slice Try.underlying29 g8 (o 16) (List.mem_singleton.2 rfl)
      obtain ⟨x0, e0, u0, z0⟩ := DataW.trod_int hui g0
      obtain ⟨x1, e1, u1, z1⟩ := DataW.trod_int hui g1
      obtain ⟨x2, e2, u2, z2⟩ := DataW.trod_int hui g2
      obtain ⟨x3, e3, u3, z3⟩ := DataW.trod_string hus g3
      obtain ⟨x4, e4, u4, z4⟩ := DataW.trod_string hus g4
      have f0 : [c0] = [Value.int .i64 x0] := e0
      have f1 : [c1] = [Value.int .i64 x1] := e1
      have f2 : [c2] = [Value.int .i64 x2] := e2
      have f3 : [c3] = [Value.string x3] := e3
      have f4 : [c4] = [Value.string x4] := e4
      simp only [List.cons.injEq, and_true] at f0 f1 f2 f3 f4
      subst f0 f1 f2 f3 f4
      rw [p0, p1, p2, p3, p4, p5, p6, p7, p8, p9, p10, p11, p12, p13, p14, p15, p16] at hat
      refine ⟨⟨x0, x1, x2, x3, x4, (fun j => if j = 0 then o0 else if j = 1 then o3 else if j = 2 then o7 else if j = 3 then o11 else o16), (fun j => if j = 0 then o1 else if j = 1 then o2 else if j = 2 then o4 else if j = 3 then o5 else if j = 4 then o6 else if j = 5 then o8 else if j = 6 then o10 else o12), (fun j => if j = 0 then o9 else if j = 1 then o13 else if j = 2 then o14 else o15)⟩, fun j u hu => ?_, ⟨wide_of z0, wide_of z1, wide_of z2, z3, z4⟩, ?_⟩
      · obtain ⟨hj, rfl⟩ := List.getElem?_eq_some_iff.1 hu
        rw [← Go.Deep.add_add]
        rw [← List.getElem?_eq_getElem hj]
        exact hat j (show j < 22 from hj)
      · have h1 := congrArg Prod.fst hx
        simp only [List.map_cons, List.map_nil] at h1
        exact ⟨_, h1, by rw [congrArg Prod.fst u3]; rfl, by rw [congrArg Prod.fst u4]; rfl⟩)
    subst hxl
    refine ⟨xs, hsl, Nat.le_trans hl hm, fun x hx => ?_, .inr ⟨D, _, hxx, fun i hi => (hR i hi).2⟩⟩
    obtain ⟨i, hi', rfl⟩ := List.mem_iff_getElem.1 hx
    exact (hR i hi').1
end
end Go.Proofs.Ytemknajlmocfeaa
namespace Go.Proofs.Ytemknajlmocfeaa
open Go.RowKit
def SameTexts (xs ys : List ByteArray) : Bool := decide (xs = ys)
set_option maxHeartbeats 800000 in
theorem eqStr_any (v1 v2 : Value) (xs ys : List ByteArray) (w : World) (h1 : SlR w es v1 xs) (h2 : SlR w es v2 ys) (hx : xs.length ≤ 140737488351232) (hy : ys.length ≤ 140737488351232) :
    Calls Try.prog 25 #[v1, v2] w fun e w' => e = .returned (.bool (SameTexts xs ys)) ∧ w = w' := by
  obtain ⟨A, c, rfl, hc, hA⟩ := h1
  obtain ⟨B, d, rfl, hd, hB⟩ := h2
  by_cases hl : xs.length = ys.length
  · have hL := Lib.hid hl
    have hb : (((xs.length : Nat) : Int) != ((ys.length : Nat) : Int)) = false := by simp [hl]
    clear hl
    go_enter Try.func25, Try.ntmps25
    go_wp2_with fail
    go_loop [14] (fun i => ∃ k : Nat, k ≤ xs.length ∧ i = .int .i64 k ∧ xs.take k = ys.take k) (fun i => xs.length - (intOf i).toNat)
    case atStart => exact ⟨0, by omega, rfl, rfl⟩
    case round =>
      obtain ⟨k, hk, rfl, hEq⟩ := hrel
      have HE := Lib.hid hEq
      clear hEq
      by_cases hlt : k < xs.length
      · have hlt' : k < ys.length := by rw [← hL.out]; exact hlt
        obtain ⟨b1, o1, rfl, hb1, hc1⟩ := hA (by omega)
        obtain ⟨b2, o2, rfl, hb2, hc2⟩ := hB (by omega)
        have c1 := hc1 k (.string xs[k]) (by rw [es_map]; simp [hlt])
        have c2 := hc2 k (.string ys[k]) (by rw [es_map]; simp [hlt'])
        clear hA hB hc1 hc2
        by_cases hxy : xs[k] = ys[k]
        · have ht : (!xs[k].toList == ys[k].toList) = false := by rw [hxy]; simp
          have HS : Hid (xs.take (k + 1) = ys.take (k + 1)) := by
            show _ = _
            rw [List.take_add_one, List.take_add_one, HE.out, List.getElem?_eq_getElem hlt, List.getElem?_eq_getElem hlt', hxy]
          clear hxy
          go_wp2_with fail
          go_round
          case rel => exact ⟨k + 1, by omega, by go_num, HS.out⟩
          case measure => simp [intOf]; omega
        · have ht : (!xs[k].toList == ys[k].toList) = true := by
            rw [ba_toList, ba_toList]; simp only [Bool.not_eq_true', beq_eq_false_iff_ne]
            exact fun h => hxy (sl_inj h)
          have HF : Hid (SameTexts xs ys = false) := by
            show _ = _
            unfold SameTexts; rw [decide_eq_false_iff_not]; rintro rfl; exact hxy rfl
          clear hxy
          go_wp2_with fail
          go_ret
          exact ⟨ret_bool HF.out.symm, rfl⟩
      · have HF : Hid (SameTexts xs ys = true) := by
          show _ = _
          unfold SameTexts; rw [decide_eq_true_iff]
          have := HE.out
          rw [List.take_of_length_le (by omega), List.take_of_length_le (by rw [← hL.out]; omega)] at this
          exact this
        go_wp2_with fail
        go_ret
        exact ⟨ret_bool HF.out.symm, rfl⟩
  · have hb : (((xs.length : Nat) : Int) != ((ys.length : Nat) : Int)) = true := by simp; omega
    have HF : Hid (SameTexts xs ys = false) := by
      show _ = _
      unfold SameTexts; rw [decide_eq_false_iff_not]; intro h; rw [h] at hl; exact hl rfl
    clear hl
    go_enter Try.func25, Try.ntmps25
    go_wp2_with fail
    go_ret
    exact ⟨ret_bool HF.out.symm, rfl⟩
end Go.Proofs.Ytemknajlmocfeaa
namespace Go.Proofs.Ytemknajlmocfeaa
set_option maxRecDepth 20000
open Go.RowKit
open Go.Maps (Keyed)
/-- Block r of w walks over the map of block b, in which f k stands at k; left k: k is to come; so many are to come. -/
def RngS (P : Program) (w : World) (kt : TypeId) (b r : Nat) (f : ByteArray → Option Value) (left : ByteArray → Bool) (cnt : Nat) : Prop :=
  ∃ n D L, w.ranges P kt heldR b r n D L cnt ∧ (∀ k z, D.atKey (kl k) z = (match f k with | some v => .held v | none => z)) ∧ (∀ k, Maps.has D (kl k) = (f k).isSome) ∧ (∀ k, L (kl k) = left k)
section
variable {P : Program} {w w' : World} {kt : TypeId} {b r cnt : Nat} {f : ByteArray → Option Value} {left : ByteArray → Bool}
theorem RngS.kept {row : Option Nat} (h : RngS P w kt b r f left cnt) (hg : w.grownBy w' row) (hb : some b ≠ row) (hr : some r ≠ row) : RngS P w' kt b r f left cnt := by
  obtain ⟨n, D, L, h, x⟩ := h; exact ⟨n, D, L, h.kept hg hb hr, x⟩
theorem RngS.alloc (h : RngS P w kt b r f left cnt) (o : Obj) : RngS P (w.alloc o) kt b r f left cnt := by
  obtain ⟨n, D, L, h, x⟩ := h; exact ⟨n, D, L, h.alloc o, x⟩
theorem RngS.drew (h : RngS P w kt b r f left cnt) : RngS P w.drew kt b r f left cnt := h
theorem RngS.lt (h : RngS P w kt b r f left cnt) : r < w.heap.size := by obtain ⟨n, D, L, h, x⟩ := h; exact h.lt
theorem RngS.ne (h : RngS P w kt b r f left cnt) : r ≠ b := by obtain ⟨n, D, L, h, x⟩ := h; exact h.ne
theorem RngS.map (h : RngS P w kt b r f left cnt) : ∃ c, MapS P w kt b f c := by
  obtain ⟨n, D, L, h, x1, x2, _⟩ := h; exact ⟨_, D, owns_size h.owns, rfl, x1, x2⟩
theorem RngS.iter (h : RngS P w kt b r f left cnt) : ∃ m s se c, w.heap[r]? = some (.mapIter m s se c) := by
  obtain ⟨n, D, L, ⟨es, clock, since, seen, c0, _, _, _, _, hr, _⟩, _⟩ := h; exact ⟨_, _, _, _, hr⟩
theorem RngS.left_eq (h : RngS P w kt b r f left cnt) : w.rangeLeft b r = cnt := by obtain ⟨n, D, L, h, x⟩ := h; exact h.left_eq
variable {t e : TypeId} {ops : Array Oper} {rest : List Oper} {o : Oper} {a : Act} {Q : Exit → Act → World → Prop} {c : Nat}
theorem keyOf_str (hk : P.underlying kt = some .string) {v : Value} {l : Lit} (h : keyOf P kt v = some l) : ∃ s : ByteArray, v = .string s ∧ l = kl s ∧ s.size ≤ maxLen := by
  rw [keyOf_string hk] at h
  unfold mapKey at h
  rw [hk] at h
  split at h <;> simp_all [kl]
/-- 'range m' at the operation. -/
theorem wpList_rangeS (hg : o.guard = none) (m : Operand) (hop : o.op = Op.range t m) (hm : a.eval m = .map (some b)) (h : MapS P w kt b f c) (hk : P.underlying kt = some .string) (ht : P.underlying t = some (.map kt e))
    (hK : ∀ w', RngS P w' kt b w.heap.size f (fun k => (f k).isSome) c → w.grownBy w' none → w'.heap.size = w.heap.size + 1 → wpList P ops Q rest (a.put o.dst (.pointer (some ⟨w.heap.size, 0, none⟩))) w') : wpList P ops Q (o :: rest) a w := by
  obtain ⟨D, h, hs, hat, hh⟩ := h
  refine wpList_range_own w hg m t hop kt e (Maps.string_keyed hk) ht heldR b c D hm h fun w' h1 h2 h3 => ?_
  rw [hs] at h1
  exact hK w' ⟨_, D, _, h1, hat, hh, hh⟩ h2 h3
/-- The step. -/
theorem wpList_nextS (hg : o.guard = none) (it : Operand) (hop : o.op = Op.next it false) (hk : P.underlying kt = some .string) (hit : a.eval it = .pointer (some ⟨r, 0, none⟩)) (h : RngS P w kt b r f left cnt)
    (hDone : cnt = 0 → (∀ k, left k = false) → wpList P ops Q rest (a.put o.dst (.tuple #[.bool false])) w)
    (hMore : ∀ (x : ByteArray) (v : Value) (w' : World) (cnt' : Nat), x.size ≤ maxLen → left x = true → f x = some v → RngS P w' kt b r f (fun k => left k && !decide (k = x)) cnt' → cnt' < cnt → w.grownBy w' (some r) → w'.heap.size = w.heap.size →
      (Instr.entry (.pointer (some ⟨r, 0, none⟩))).run P w' = .ok (.tuple #[.string x, v]) w' → wpList P ops Q rest (a.put o.dst (.tuple #[.bool true, .string x, v])) w') : wpList P ops Q (o :: rest) a w := by
  obtain ⟨n, D, L, h, hat, hh, hl⟩ := h
  refine wpList_next_ranges w hg it hop kt (Maps.string_keyed hk) heldR Value.string id (fun key l hkey => by obtain ⟨s, rfl, _⟩ := keyOf_str hk hkey; exact ⟨s, rfl⟩) (fun v y _ => ⟨v, rfl⟩) b r n D L cnt hit h (fun h0 hn => hDone h0 fun k => by rw [← hl k]; exact hn _) ?_
  intro x v l y w' cnt' hkey hlk hv hD hrg hlt hgr hsz hen
  obtain ⟨s, es, rfl, hsz'⟩ := keyOf_str hk hkey
  injection es with es
  subst es
  have hv' : y.1 = .held v := by unfold heldR at hv; injection hv with hv; rw [← hv]; rfl
  have hf : f x = some v := by
    have h1 := hD (.held (.bool true))
    have h2 := hD (.held (.bool false))
    rw [hat, hv'] at h1 h2
    cases hfx : f x with
    | some u => rw [hfx] at h1; injection h1 with h1; rw [h1]
    | none => rw [hfx] at h1 h2; injection h1 with h1; injection h2 with h2; rw [← h1] at h2; cases h2
  refine hMore x v w' cnt' hsz' (by rw [← hl]; exact hlk) hf ⟨n, D, _, hrg, hat, hh, fun k => ?_⟩ hlt hgr hsz hen
  show (L (kl k) && !(kl k).sameKey (kl x)) = _
  rw [hl]
  congr 2
  by_cases hkx : k = x
  · subst hkx; simp [kl, Lit.sameKey]
  · have : ¬ k.data.toList = x.data.toList := fun e => hkx (sl_inj e)
    have h3 : ¬ k.data = x.data := fun e => this (by rw [e])
    simp [kl, Lit.sameKey, hkx, h3]
end
end Go.Proofs.Ytemknajlmocfeaa
namespace Go.Proofs.Ytemknajlmocfeaa
set_option maxRecDepth 20000
open Go.RowKit Go.Shelf
theorem flat_get {α : Type} {en : α → List Value} {size : Nat} (hen : ∀ x, (en x).length = size) : ∀ (xs : List α) (k j : Nat) (hk : k < xs.length), j < size → (xs.flatMap en)[k * size + j]? = (en xs[k])[j]?
  | [], k, j, hk, _ => by simp at hk
  | x :: xs, 0, j, _, hj => by
    rw [List.flatMap_cons, Nat.zero_mul, Nat.zero_add, List.getElem?_append_left (by rw [hen]; exact hj)]; rfl
  | x :: xs, k + 1, j, hk, hj => by
    rw [List.flatMap_cons, List.getElem?_append_right (by rw [hen, Nat.succ_mul]; omega), hen, Nat.succ_mul]
    have := flat_get hen xs k j (by simpa using hk) hj
    rw [show k * size + size + j - size = k * size + j by omega, this]
    rfl
theorem SlR.rowN {α : Type} {w : World} {en : α → List Value} {size : Nat} {v : Value} {xs : List α} (hen : ∀ x, (en x).length = size) (h : SlR w en v xs) (hn : 0 < xs.length) :
    ∃ b off c, v = .slice (some ⟨b, off, none⟩) xs.length c ∧ xs.length ≤ c ∧ b < w.heap.size ∧ ∀ k (hk : k < xs.length) j u, (en xs[k])[j]? = some u → w.cell? ⟨b, off + (k * size + j), none⟩ = some u := by
  obtain ⟨A, c, hv, hc, hx⟩ := h
  obtain ⟨b, off, rfl, hb, hcell⟩ := hx hn
  refine ⟨b, off, c, hv, hc, hb, fun k hk j u hu => hcell _ _ ?_⟩
  rw [flat_get hen xs k j hk]
  · exact hu
  · have := (List.getElem?_eq_some_iff.1 hu).1
    rwa [hen] at this
def stZ : Array Value := #[.int .i64 0, .int .i64 0, .int .i64 0, .string { data := #[] }, .string { data := #[] }, .slice none 0 0, .string { data := #[] }, .string { data := #[] }, .slice none 0 0, .string { data := #[] }, .string { data := #[] }, .string { data := #[] }, .slice none 0 0, .string { data := #[] }, .int .i64 0, .string { data := #[] }, .slice none 0 0, .string { data := #[] }, .int .i64 0, .int .i64 0, .int .i64 0, .slice none 0 0]
theorem of_any (x : Stp) (n : Int) (w : World) (hx : Wide x.k) (hn : 0 < n ∧ n ≤ 4611686018427387904) :
    Calls Try.prog 40 #[.agg (e_st x).toArray, .int .i64 n] w fun e w' => e = .returned (.int .i64 (x.k % n)) ∧ Below w.heap.size w w' := by
  obtain ⟨xk, xa, xb, xs, xt, og, ou, oi⟩ := x
  have hxk : Wide xk := hx
  dsimp only [e_st]
  go_enter Try.func40, Try.ntmps40
  go_wp2_with fail
  refine (rest_any xk n _ hxk hn).mono ?_
  rintro e w1 ⟨rfl, rfl⟩
  go_wp2_with fail
  go_ret
  exact ⟨rfl, (Below.refl _ _).alloc (Nat.le_refl _) _⟩
theorem beqL_true {x y : ByteArray} (h : x = y) : (x.toList == y.toList) = true := by rw [h]; simp
theorem beqL_false {x y : ByteArray} (h : x ≠ y) : (x.toList == y.toList) = false := by
  rw [beq_eq_false_iff_ne]; intro e; apply h; apply sl_inj; rw [← ba_toList, ← ba_toList, e]
end Go.Proofs.Ytemknajlmocfeaa
namespace Go.Proofs.Ytemknajlmocfeaa
namespace Lg
/-! ### The checksum. -/
def step (n : Nat) : Nat := (n >>> 1) ^^^ ((n &&& 1) * 2197175160)
def steps : Nat → Nat → Nat
  | 0, n => n
  | k + 1, n => step (steps k n)
def crcB (n : Nat) (c : UInt8) : Nat := steps 8 (n ^^^ c.toNat)
def reg (n : Nat) (l : List UInt8) : Nat := l.foldl crcB n
def crc (l : List UInt8) : Nat := 4294967295 - reg 4294967295 l
theorem step_lt {n : Nat} (h : n < 4294967296) : step n < 4294967296 := by
  unfold step
  have h1 : n >>> 1 < 2 ^ 32 := by rw [Nat.shiftRight_eq_div_pow]; omega
  have h2 : (n &&& 1) * 2197175160 < 2 ^ 32 := by rw [Nat.and_one_is_mod]; have := Nat.mod_lt n (y := 2) (by omega); omega
  exact Nat.xor_lt_two_pow h1 h2
theorem steps_lt {n : Nat} (h : n < 4294967296) : ∀ k, steps k n < 4294967296
  | 0 => h
  | k + 1 => step_lt (steps_lt h k)
theorem step_xor (a b : Nat) : step (a ^^^ b) = step a ^^^ step b := by
  unfold step
  have e : ((a ^^^ b) &&& 1) * 2197175160 = ((a &&& 1) * 2197175160) ^^^ ((b &&& 1) * 2197175160) := by
    rw [Nat.and_xor_distrib_right, Nat.and_one_is_mod, Nat.and_one_is_mod]
    rcases Nat.mod_two_eq_zero_or_one a with h | h <;> rcases Nat.mod_two_eq_zero_or_one b with g | g <;> rw [h, g] <;> simp
  rw [Nat.shiftRight_xor_distrib, e]
  simp only [Nat.xor_assoc]
  congr 1
  rw [← Nat.xor_assoc, ← Nat.xor_assoc, Nat.xor_comm (b >>> 1)]
theorem steps_xor (a b : Nat) : ∀ k, steps k (a ^^^ b) = steps k a ^^^ steps k b
  | 0 => rfl
  | k + 1 => by simp only [steps, steps_xor a b k, step_xor]
theorem step_zero {d : Nat} (h : d < 4294967296) (h0 : step d = 0) : d = 0 := by
  unfold step at h0
  have e : d >>> 1 = (d &&& 1) * 2197175160 := by
    have h1 := congrArg (fun x => x ^^^ ((d &&& 1) * 2197175160)) h0
    simpa [Nat.xor_assoc] using h1
  rw [Nat.and_one_is_mod, Nat.shiftRight_eq_div_pow] at e
  omega
theorem steps_zero : ∀ (k : Nat) {d : Nat}, d < 4294967296 → steps k d = 0 → d = 0
  | 0, _, _, h0 => h0
  | k + 1, _, h, h0 => steps_zero k h (step_zero (steps_lt h k) h0)
theorem steps_inj {k a b : Nat} (ha : a < 4294967296) (hb : b < 4294967296) (h : steps k a = steps k b) : a = b := by
  have h0 : steps k (a ^^^ b) = 0 := by rw [steps_xor, h, Nat.xor_self]
  have := steps_zero k (Nat.xor_lt_two_pow (n := 32) ha hb) h0
  have h1 := congrArg (fun x => x ^^^ b) this
  simpa [Nat.xor_assoc] using h1
theorem steps_add (j : Nat) (n : Nat) : ∀ k, steps (k + j) n = steps k (steps j n)
  | 0 => by rw [Nat.zero_add]; rfl
  | k + 1 => by rw [show k + 1 + j = (k + j) + 1 from by omega]; simp only [steps, steps_add j n k]
theorem byte_lt (c : UInt8) : c.toNat < 256 := c.toNat_lt
theorem crcB_lt {n : Nat} (c : UInt8) (h : n < 4294967296) : crcB n c < 4294967296 :=
  steps_lt (Nat.xor_lt_two_pow (n := 32) h (by have := byte_lt c; omega)) 8
theorem reg_lt : ∀ (l : List UInt8) {n : Nat}, n < 4294967296 → reg n l < 4294967296
  | [], _, h => h
  | c :: l, _, h => reg_lt l (crcB_lt c h)
theorem reg_append (n : Nat) (a b : List UInt8) : reg n (a ++ b) = reg (reg n a) b := List.foldl_append ..
theorem crcB_inj {n m : Nat} (c : UInt8) (hn : n < 4294967296) (hm : m < 4294967296) (h : crcB n c = crcB m c) : n = m := by
  have hb := byte_lt c
  have := steps_inj (Nat.xor_lt_two_pow (n := 32) hn (by omega)) (Nat.xor_lt_two_pow (n := 32) hm (by omega)) h
  have h1 := congrArg (fun x => x ^^^ c.toNat) this
  simpa [Nat.xor_assoc] using h1
theorem reg_inj : ∀ (l : List UInt8) {n m : Nat}, n < 4294967296 → m < 4294967296 → reg n l = reg m l → n = m
  | [], _, _, _, _, h => h
  | c :: l, _, _, hn, hm, h => crcB_inj c hn hm (reg_inj l (crcB_lt c hn) (crcB_lt c hm) h)
theorem steps8_byte (b : Nat) (h : b < 256) : steps 8 (b * 256) = b := by
  have e : ∀ n, n % 2 = 0 → step n = n / 2 := by
    intro n hn
    unfold step
    rw [Nat.and_one_is_mod, hn, Nat.shiftRight_eq_div_pow]
    simp
  have e1 : ∀ m, step (m * 2) = m := fun m => by rw [e _ (by omega)]; omega
  rw [show b * 256 = b * 2 * 2 * 2 * 2 * 2 * 2 * 2 * 2 from by omega]
  simp only [steps, e1]
/-- Two bytes side by side that were spoilt are seen. -/
theorem reg_two {n : Nat} (h : n < 4294967296) (x y a b : UInt8) (hab : a ≠ 0) : reg n [x ^^^ a, y ^^^ b] ≠ reg n [x, y] := by
  intro e
  simp only [reg, List.foldl_cons, List.foldl_nil, crcB] at e
  have ha := byte_lt a; have hb := byte_lt b; have hx := byte_lt x; have hy := byte_lt y
  have hnx : n ^^^ x.toNat < 4294967296 := Nat.xor_lt_two_pow (n := 32) h (by omega)
  have e1 := steps_inj (Nat.xor_lt_two_pow (n := 32) (steps_lt (Nat.xor_lt_two_pow (n := 32) h (by have := byte_lt (x ^^^ a); omega)) 8) (by have := byte_lt (y ^^^ b); omega)) (Nat.xor_lt_two_pow (n := 32) (steps_lt hnx 8) (by omega)) e
  rw [UInt8.toNat_xor, UInt8.toNat_xor, ← Nat.xor_assoc n, steps_xor] at e1
  have e2 : steps 8 a.toNat = b.toNat := by
    have h1 := congrArg (fun z => steps 8 (n ^^^ x.toNat) ^^^ z ^^^ y.toNat ^^^ b.toNat) e1
    have l1 : steps 8 (n ^^^ x.toNat) ^^^ (steps 8 (n ^^^ x.toNat) ^^^ steps 8 a.toNat ^^^ (y.toNat ^^^ b.toNat)) ^^^ y.toNat ^^^ b.toNat = steps 8 a.toNat := by
      generalize steps 8 (n ^^^ x.toNat) = p; generalize steps 8 a.toNat = q; generalize y.toNat = r; generalize b.toNat = s
      rw [Nat.xor_assoc p q, ← Nat.xor_assoc p p, Nat.xor_self, Nat.zero_xor, Nat.xor_assoc, Nat.xor_assoc q, Nat.xor_self, Nat.xor_zero]
    have l2 : steps 8 (n ^^^ x.toNat) ^^^ (steps 8 (n ^^^ x.toNat) ^^^ y.toNat) ^^^ y.toNat ^^^ b.toNat = b.toNat := by
      generalize steps 8 (n ^^^ x.toNat) = p; generalize y.toNat = r; generalize b.toNat = s
      rw [← Nat.xor_assoc p p, Nat.xor_self, Nat.zero_xor, Nat.xor_self, Nat.zero_xor]
    rw [l1, l2] at h1
    exact h1
  rw [← steps8_byte b.toNat hb] at e2
  have e3 := steps_inj (by omega) (by omega) e2
  have : a.toNat ≠ 0 := by
    intro h0; apply hab; exact UInt8.toNat_inj.1 (by simpa using h0)
  omega
theorem reg_one {n : Nat} (h : n < 4294967296) (x a : UInt8) (hab : a ≠ 0) : reg n [x ^^^ a] ≠ reg n [x] := by
  intro e
  apply reg_two h x 0 a 0 hab
  have := congrArg (fun m => crcB m 0) e
  simpa [reg] using this
/-- The last byte of what is summed, and the sum's own first byte. -/
theorem reg_edge {n : Nat} (h : n < 4294967296) (x a b : UInt8) (hab : a ≠ 0) : reg n [x ^^^ a] ≠ reg n [x] ^^^ b.toNat := by
  intro e
  apply reg_two h x 0 a b hab
  simp only [reg, List.foldl_cons, List.foldl_nil] at e ⊢
  rw [e]
  unfold crcB
  congr 1
  rw [UInt8.toNat_xor]
  simp [Nat.xor_assoc]
end Lg
end Go.Proofs.Ytemknajlmocfeaa
namespace Go.Proofs.Ytemknajlmocfeaa
namespace Lg
def nb (n : Nat) : UInt8 := UInt8.ofNat n
def be4 (n : Nat) : List UInt8 := [nb (n / 16777216), nb (n / 65536), nb (n / 256), nb n]
def le4 (n : Nat) : List UInt8 := [nb n, nb (n / 256), nb (n / 65536), nb (n / 16777216)]
def hd4 (n : Nat) : List UInt8 := [nb (n / 256), nb n, nb (255 - n / 256 % 256), nb (255 - n % 256)]
def fcrc (k : Nat) (s : List UInt8) : Nat := crc (be4 k ++ s)
def frame (k : Nat) (s : List UInt8) : List UInt8 := hd4 s.length ++ s ++ le4 (fcrc k s)
theorem nb_toNat (n : Nat) : (nb n).toNat = n % 256 := by simp [nb]
theorem nb_eq {a b : Nat} : nb a = nb b ↔ a % 256 = b % 256 := by
  rw [← UInt8.toNat_inj, nb_toNat, nb_toNat]
theorem frame_len (k : Nat) (s : List UInt8) : (frame k s).length = s.length + 8 := by simp [frame, hd4, le4]
theorem crc_lt (l : List UInt8) : crc l < 4294967296 := by unfold crc; omega
theorem le4_inj {a b : Nat} (ha : a < 4294967296) (hb : b < 4294967296) (h : le4 a = le4 b) : a = b := by
  simp only [le4, List.cons.injEq, nb_eq, and_true] at h
  omega
/-- The length that a head says. -/
def len2 : List UInt8 → Nat
  | a :: b :: _ => a.toNat * 256 + b.toNat
  | _ => 0
/-- The next record of what is there, if it is whole. -/
def rec1 (k : Nat) (rest : List UInt8) : Option (List UInt8) :=
  if rest.length < 4 then none
  else if rest.length < 8 + len2 rest then none
  else if len2 rest ≤ 1000 ∧ frame k ((rest.drop 4).take (len2 rest)) = rest.take (8 + len2 rest) then some ((rest.drop 4).take (len2 rest))
  else none
theorem rec1_len {k : Nat} {rest b : List UInt8} (h : rec1 k rest = some b) : 8 + b.length ≤ rest.length ∧ b.length ≤ 1000 ∧ rest.take (8 + b.length) = frame k b ∧ b = (rest.drop 4).take (len2 rest) ∧ b.length = len2 rest := by
  unfold rec1 at h
  split at h
  · cases h
  · split at h
    · cases h
    · split at h
      · rename_i h1 h2 h3
        obtain rfl : (rest.drop 4).take (len2 rest) = b := by injection h
        have hl : ((rest.drop 4).take (len2 rest)).length = len2 rest := by simp; omega
        exact ⟨by omega, by omega, by rw [hl]; exact h3.2.symm, rfl, hl⟩
      · cases h
/-- All records from the k-th one on, and how many bytes they take. -/
def recAll (k : Nat) (rest : List UInt8) : List (List UInt8) × Nat :=
  match h : rec1 k rest with
  | none => ([], 0)
  | some b => (b :: (recAll (k + 1) (rest.drop (8 + b.length))).1, (8 + b.length) + (recAll (k + 1) (rest.drop (8 + b.length))).2)
termination_by rest.length
decreasing_by all_goals (have := rec1_len h; simp; omega)
theorem recAll_none {k : Nat} {rest : List UInt8} (h : rec1 k rest = none) : recAll k rest = ([], 0) := by
  rw [recAll]; split
  · rfl
  · rename_i h1; rw [h] at h1; cases h1
theorem recAll_some {k : Nat} {rest b : List UInt8} (h : rec1 k rest = some b) : recAll k rest = (b :: (recAll (k + 1) (rest.drop (8 + b.length))).1, (8 + b.length) + (recAll (k + 1) (rest.drop (8 + b.length))).2) := by
  rw [recAll]; split
  · rename_i h1; rw [h] at h1; cases h1
  · rename_i b' h1; rw [h] at h1; injection h1 with h1; subst h1; rfl
def writeL (k : Nat) : List (List UInt8) → List UInt8
  | [] => []
  | s :: l => frame k s ++ writeL (k + 1) l
theorem len2_frame (k : Nat) (s rest : List UInt8) (h : s.length ≤ 1000) : len2 (frame k s ++ rest) = s.length := by
  simp only [frame, hd4, List.cons_append, len2, nb_toNat]; omega
theorem rec1_frame (k : Nat) (s rest : List UInt8) (h : s.length ≤ 1000) : rec1 k (frame k s ++ rest) = some s := by
  have hl := frame_len k s
  have hb : ((frame k s ++ rest).drop 4).take s.length = s := by simp [frame, hd4]
  unfold rec1
  rw [len2_frame k s rest h, hb, if_neg (by rw [List.length_append]; omega), if_neg (by rw [List.length_append]; omega), if_pos]
  refine ⟨h, ?_⟩
  rw [show 8 + s.length = (frame k s).length from by omega, List.take_left']
  rfl
theorem recAll_cons (k : Nat) (s rest : List UInt8) (h : s.length ≤ 1000) : recAll k (frame k s ++ rest) = (s :: (recAll (k + 1) rest).1, (frame k s).length + (recAll (k + 1) rest).2) := by
  have hl := frame_len k s
  rw [recAll_some (rec1_frame k s rest h), show 8 + s.length = (frame k s).length from by omega, List.drop_left']
  rfl
theorem recAll_write : ∀ (l : List (List UInt8)) (k : Nat) (rest : List UInt8), (∀ s ∈ l, s.length ≤ 1000) → recAll k (writeL k l ++ rest) = (l ++ (recAll (k + l.length) rest).1, (writeL k l).length + (recAll (k + l.length) rest).2)
  | [], k, rest, _ => by simp [writeL]
  | s :: l, k, rest, h => by
    rw [writeL, List.append_assoc, recAll_cons k s _ (h s (by simp)), recAll_write l (k + 1) rest (fun x hx => h x (by simp [hx]))]
    simp only [List.length_cons, List.length_append, List.cons_append, show k + 1 + l.length = k + (l.length + 1) from by omega]
    rw [Nat.add_assoc]
theorem rec1_short (k : Nat) (rest : List UInt8) (h : rest.length < 4) : rec1 k rest = none := by unfold rec1; rw [if_pos h]
theorem recAll_back (l : List (List UInt8)) (h : ∀ s ∈ l, s.length ≤ 1000) : recAll 0 (writeL 0 l) = (l, (writeL 0 l).length) := by
  have := recAll_write l 0 [] h
  rw [List.append_nil, recAll_none (rec1_short _ [] (by simp))] at this
  simpa using this
/-! ### The end torn off. -/
/-- How many frames, from the k-th on, lie whole within the first 'at' bytes; and their bytes. -/
def whole (k : Nat) : List (List UInt8) → Nat → Nat × Nat
  | [], _ => (0, 0)
  | s :: l, at_ => if at_ < (frame k s).length then (0, 0) else ((whole (k + 1) l (at_ - (frame k s).length)).1 + 1, (frame k s).length + (whole (k + 1) l (at_ - (frame k s).length)).2)
theorem rec1_torn (k : Nat) (s : List UInt8) (n : Nat) (hs : s.length ≤ 1000) (h : n < (frame k s).length) : rec1 k ((frame k s).take n) = none := by
  have hl := frame_len k s
  unfold rec1
  by_cases h4 : n < 4
  · rw [if_pos (by rw [List.length_take]; omega)]
  · have e : len2 ((frame k s).take n) = s.length := by
      obtain ⟨m, rfl⟩ : ∃ m, n = m + 2 := ⟨n - 2, by omega⟩
      simp only [frame, hd4, List.cons_append, List.take_succ_cons, len2, nb_toNat]; omega
    rw [e, if_neg (by rw [List.length_take]; omega), if_pos (by rw [List.length_take]; omega)]
theorem recAll_torn : ∀ (l : List (List UInt8)) (k n : Nat), (∀ s ∈ l, s.length ≤ 1000) → recAll k ((writeL k l).take n) = (l.take (whole k l n).1, (whole k l n).2)
  | [], k, n, _ => by simp [writeL, whole, recAll_none (rec1_short k [] (by simp))]
  | s :: l, k, n, h => by
    rw [writeL, whole]
    by_cases hn : n < (frame k s).length
    · rw [if_pos hn, List.take_append_of_le_length (by omega), recAll_none (rec1_torn k s n (h s (by simp)) hn)]
      simp
    · rw [if_neg hn, List.take_append, List.take_of_length_le (by omega), recAll_cons k s _ (h s (by simp)), recAll_torn l (k + 1) _ (fun x hx => h x (by simp [hx]))]
      simp
theorem whole_le : ∀ (l : List (List UInt8)) (k n : Nat), (whole k l n).1 ≤ l.length ∧ (whole k l n).2 ≤ n ∧ (whole k l n).2 ≤ (writeL k l).length
  | [], k, n => by simp [whole]
  | s :: l, k, n => by
    rw [whole]
    split
    · simp
    · have := whole_le l (k + 1) (n - (frame k s).length)
      simp only [List.length_cons, writeL, List.length_append]
      omega
theorem whole_write : ∀ (l : List (List UInt8)) (k n : Nat), (writeL k l).take (whole k l n).2 = writeL k (l.take (whole k l n).1)
  | [], k, n => by simp [whole, writeL]
  | s :: l, k, n => by
    rw [whole]
    split
    · simp [writeL]
    · simp only [List.take_succ_cons, writeL]
      rw [List.take_append, List.take_of_length_le (by omega), Nat.add_sub_cancel_left, whole_write l (k + 1) _]
/-! ### Bytes spoilt. -/
/-- The k-th byte and the one behind it, spoilt. -/
def spoil : List UInt8 → Nat → UInt8 → UInt8 → List UInt8
  | [], _, _, _ => []
  | x :: y :: t, 0, a, b => (x ^^^ a) :: (y ^^^ b) :: t
  | [x], 0, a, _ => [x ^^^ a]
  | x :: t, k + 1, a, b => x :: spoil t k a b
theorem spoil_right : ∀ (u v : List UInt8) (k : Nat) (a b : UInt8), spoil (u ++ v) (u.length + k) a b = u ++ spoil v k a b
  | [], v, k, a, b => by simp
  | x :: u, v, k, a, b => by
    rw [List.cons_append, List.length_cons, show u.length + 1 + k = (u.length + k) + 1 from by omega]
    simp only [spoil, spoil_right u v k a b, List.cons_append]
theorem spoil_len : ∀ (t : List UInt8) (k : Nat) (a b : UInt8), (spoil t k a b).length = t.length
  | [], _, _, _ => by simp [spoil]
  | [x], 0, a, _ => by simp [spoil]
  | x :: y :: t, 0, a, b => by simp [spoil]
  | x :: t, k + 1, a, b => by simp [spoil, spoil_len t k a b]
theorem xor_self_of {x a : UInt8} (h : x ^^^ a = x) : a = 0 := by
  have := congrArg (fun z => x ^^^ z) h
  simpa [← UInt8.xor_assoc] using this
theorem crc_inj {k l : List UInt8} (h : crc k = crc l) : reg 4294967295 k = reg 4294967295 l := by
  have h1 := reg_lt k (n := 4294967295) (by omega)
  have h2 := reg_lt l (n := 4294967295) (by omega)
  unfold crc at h; omega
theorem not_xor {z : Nat} (h : z < 4294967296) : 4294967295 - z = z ^^^ 4294967295 := by
  have e : (~~~ (BitVec.ofNat 32 z)).toNat = (BitVec.ofNat 32 z ^^^ BitVec.allOnes 32).toNat := by rw [BitVec.xor_allOnes]
  rw [BitVec.toNat_not, BitVec.toNat_xor, BitVec.toNat_ofNat, BitVec.toNat_allOnes, Nat.mod_eq_of_lt (by omega)] at e
  simpa using e
theorem crc_edge {p : List UInt8} {x a b : UInt8} (ha : a ≠ 0) : crc (p ++ [x ^^^ a]) ≠ crc (p ++ [x]) ^^^ b.toNat := by
  intro h
  have hp := reg_lt p (n := 4294967295) (by omega)
  have h1 := reg_lt (p ++ [x ^^^ a]) (n := 4294967295) (by omega)
  have h2 := reg_lt (p ++ [x]) (n := 4294967295) (by omega)
  unfold crc at h
  rw [not_xor h1, not_xor h2] at h
  refine reg_edge hp x a b ha ?_
  rw [← reg_append, ← reg_append]
  have := congrArg (fun z => z ^^^ 4294967295) h
  simp only [Nat.xor_assoc, Nat.xor_self, Nat.xor_zero] at this
  rw [this, Nat.xor_comm 4294967295, Nat.xor_assoc, Nat.xor_self, Nat.xor_zero]
theorem le4_head {c c' : Nat} {b : UInt8} (hc : c < 4294967296) (hc' : c' < 4294967296) (h : le4 c' = (nb c ^^^ b) :: (le4 c).tail) : c' = c ^^^ b.toNat := by
  simp only [le4, List.tail_cons, List.cons.injEq, nb_eq, and_true] at h
  obtain ⟨h0, h1, h2, h3⟩ := h
  have h0' : c' % 256 = (c % 256) ^^^ b.toNat := by
    have := congrArg UInt8.toNat h0
    rw [nb_toNat, UInt8.toNat_xor, nb_toNat] at this
    exact this
  have e : c ^^^ b.toNat = (c / 256) * 256 + ((c % 256) ^^^ b.toNat) := by
    have hb := byte_lt b
    have hx : (c % 256) ^^^ b.toNat < 2 ^ 8 := Nat.xor_lt_two_pow (by omega) (by omega)
    have hd : (c ^^^ b.toNat) / 256 = c / 256 := by
      rw [show (256 : Nat) = 2 ^ 8 from rfl, ← Nat.shiftRight_eq_div_pow, ← Nat.shiftRight_eq_div_pow, Nat.shiftRight_xor_distrib, Nat.shiftRight_eq_div_pow b.toNat, Nat.div_eq_of_lt (by omega), Nat.xor_zero]
    have hm : (c ^^^ b.toNat) % 256 = (c % 256) ^^^ b.toNat := by
      have : (c ^^^ b.toNat) % 2 ^ 8 = (c % 2 ^ 8) ^^^ (b.toNat % 2 ^ 8) := Nat.xor_mod_two_pow
      rw [Nat.mod_eq_of_lt (show b.toNat < 2 ^ 8 by omega)] at this
      exact this
    have := Nat.div_add_mod (c ^^^ b.toNat) 256
    rw [hd, hm] at this
    omega
  rw [e, ← h0']
  omega
theorem rec1_spoilt (k : Nat) (s rest : List UInt8) (n : Nat) (a b : UInt8) (hs : s.length ≤ 1000) (ha : a ≠ 0) (hn : n < (frame k s).length) : rec1 k (spoil (frame k s ++ rest) n a b) = none := by
  cases hr : rec1 k (spoil (frame k s ++ rest) n a b) with
  | none => rfl
  | some g =>
    exfalso
    obtain ⟨g1, g2, g3, g4, g5⟩ := rec1_len hr
    have hfl := frame_len k s
    generalize hF : spoil (frame k s ++ rest) n a b = F at *
    have hs' := Nat.lt_of_le_of_lt hs (by omega : 1000 < 65536)
    by_cases h4 : n < 4
    · -- the head
      have h3 : F.take 4 = hd4 g.length := by
        have := congrArg (List.take 4) g3
        rw [List.take_take, Nat.min_eq_left (by omega)] at this
        rw [this]; simp [frame, hd4]
      subst hF
      have hn4 : n = 0 ∨ n = 1 ∨ n = 2 ∨ n = 3 := by omega
      rcases hn4 with rfl | rfl | rfl | rfl
      · simp only [frame, hd4, List.cons_append, List.nil_append, List.append_assoc, spoil, List.take_succ_cons, List.take_zero, List.cons.injEq, nb_eq, and_true] at h3
        obtain ⟨e0, e1, e2, e3⟩ := h3
        refine ha (xor_self_of (e0.trans (nb_eq.2 ?_))); omega
      · simp only [frame, hd4, List.cons_append, List.nil_append, List.append_assoc, spoil, List.take_succ_cons, List.take_zero, List.cons.injEq, nb_eq, and_true] at h3
        obtain ⟨e0, e1, e2, e3⟩ := h3
        refine ha (xor_self_of (e1.trans (nb_eq.2 ?_))); omega
      · simp only [frame, hd4, List.cons_append, List.nil_append, List.append_assoc, spoil, List.take_succ_cons, List.take_zero, List.cons.injEq, nb_eq, and_true] at h3
        obtain ⟨e0, e1, e2, e3⟩ := h3
        refine ha (xor_self_of (e2.trans (nb_eq.2 ?_))); omega
      · obtain ⟨z, zs, hz⟩ : ∃ z zs, s ++ (le4 (fcrc k s) ++ rest) = z :: zs := by cases s <;> exact ⟨_, _, rfl⟩
        simp only [frame, hd4, List.cons_append, List.nil_append, List.append_assoc] at h3
        rw [hz] at h3
        simp only [spoil, List.take_succ_cons, List.take_zero, List.cons.injEq, nb_eq, and_true] at h3
        obtain ⟨e0, e1, e2, e3⟩ := h3
        refine ha (xor_self_of (e3.trans (nb_eq.2 ?_))); omega
    · obtain ⟨m, rfl⟩ : ∃ m, n = 4 + m := ⟨n - 4, by omega⟩
      have hFs : F = hd4 s.length ++ spoil (s ++ (le4 (fcrc k s) ++ rest)) m a b := by
        rw [← hF, frame, show 4 + m = (hd4 s.length).length + m from rfl, List.append_assoc, List.append_assoc, spoil_right]
      have hlen : g.length = s.length := by
        rw [g5, hFs]
        simp only [hd4, List.cons_append, len2, nb_toNat]; omega
      have h5 : (spoil (s ++ (le4 (fcrc k s) ++ rest)) m a b).take (s.length + 4) = g ++ le4 (fcrc k g) := by
        have := congrArg (List.drop 4) g3
        rw [hFs, hlen, show 8 + s.length = (hd4 s.length).length + (s.length + 4) from by simp [hd4]; omega, List.take_length_add_append] at this
        rw [frame, List.append_assoc] at this
        simpa [hd4] using this
      by_cases hm : m < s.length
      · -- in the body
        have hsp : s = s.take m ++ s[m] :: s.drop (m + 1) := by rw [← List.drop_eq_getElem_cons hm, List.take_append_drop]
        generalize hu : s.take m = u at hsp
        generalize hx : s[m] = x at hsp
        generalize hv : s.drop (m + 1) = v at hsp
        have hum : u.length = m := by rw [← hu]; simp; omega
        clear hu hx hv
        subst hsp
        subst hum
        cases v with
        | cons y v =>
          rw [List.append_assoc, show u.length = u.length + 0 from rfl, spoil_right] at h5
          simp only [List.cons_append, spoil] at h5
          rw [show u ++ (x ^^^ a) :: (y ^^^ b) :: (v ++ (le4 (fcrc k (u ++ x :: y :: v)) ++ rest)) = (u ++ (x ^^^ a) :: (y ^^^ b) :: v) ++ (le4 (fcrc k (u ++ x :: y :: v)) ++ rest) from by simp, List.take_append, List.take_of_length_le (by simp)] at h5
          obtain ⟨hg, hc⟩ := List.append_inj h5 (by rw [hlen]; simp)
          rw [show (u ++ x :: y :: v).length + 4 - (u ++ (x ^^^ a) :: (y ^^^ b) :: v).length = (le4 (fcrc k (u ++ x :: y :: v))).length from by simp [le4], List.take_left'] at hc
          · have := le4_inj (crc_lt _) (crc_lt _) hc
            rw [← hg] at this
            have := crc_inj this
            rw [show be4 k ++ (u ++ x :: y :: v) = ((be4 k ++ u) ++ [x, y]) ++ v from by simp, show be4 k ++ (u ++ (x ^^^ a) :: (y ^^^ b) :: v) = ((be4 k ++ u) ++ [x ^^^ a, y ^^^ b]) ++ v from by simp, reg_append, reg_append _ _ v] at this
            have h8 := reg_inj v (reg_lt _ (by omega)) (reg_lt _ (by omega)) this
            rw [reg_append, reg_append _ _ [x ^^^ a, y ^^^ b]] at h8
            exact reg_two (reg_lt _ (by omega)) x y a b ha h8.symm
          · rfl
        | nil =>
          rw [List.append_assoc, show u.length = u.length + 0 from rfl, spoil_right] at h5
          simp only [List.cons_append, le4, spoil, List.nil_append] at h5
          have e : u ++ (x ^^^ a) :: (nb (fcrc k (u ++ [x])) ^^^ b) :: nb (fcrc k (u ++ [x]) / 256) :: nb (fcrc k (u ++ [x]) / 65536) :: nb (fcrc k (u ++ [x]) / 16777216) :: rest = (u ++ [x ^^^ a]) ++ ([nb (fcrc k (u ++ [x])) ^^^ b, nb (fcrc k (u ++ [x]) / 256), nb (fcrc k (u ++ [x]) / 65536), nb (fcrc k (u ++ [x]) / 16777216)] ++ rest) := by simp
          rw [e] at h5
          rw [List.take_append, List.take_of_length_le (by simp)] at h5
          obtain ⟨hg, hc⟩ := List.append_inj h5 (by rw [hlen]; simp)
          rw [show (u ++ [x]).length + 4 - (u ++ [x ^^^ a]).length = 4 from by simp, List.take_append_of_le_length (by simp), List.take_of_length_le (by simp)] at hc
          have h6 := le4_head (c := fcrc k (u ++ [x])) (b := b) (crc_lt _) (crc_lt _) hc.symm
          rw [← hg] at h6
          unfold fcrc at h6
          rw [← List.append_assoc, ← List.append_assoc] at h6
          exact crc_edge ha h6
      · -- in the sum
        obtain ⟨j, rfl⟩ : ∃ j, m = s.length + j := ⟨m - s.length, by omega⟩
        rw [spoil_right, List.take_append, List.take_of_length_le (by omega)] at h5
        have hg := congrArg (List.take s.length) h5
        rw [List.take_left' rfl, List.take_left' hlen] at hg
        have hc := congrArg (List.drop s.length) h5
        rw [List.drop_left' rfl, List.drop_left' hlen, Nat.add_sub_cancel_left, ← hg] at hc
        have hj : j = 0 ∨ j = 1 ∨ j = 2 ∨ j = 3 := by omega
        rcases hj with rfl | rfl | rfl | rfl
        all_goals
          cases rest <;> simp only [le4, List.cons_append, List.nil_append, spoil, List.take_succ_cons, List.take_zero, List.cons.injEq] at hc
          all_goals
            first
              | exact ha (xor_self_of hc.1)
              | exact ha (xor_self_of hc.2.1)
              | exact ha (xor_self_of hc.2.2.1)
              | exact ha (xor_self_of hc.2.2.2.1)
theorem recAll_spoilt (a b : UInt8) (ha : a ≠ 0) : ∀ (l : List (List UInt8)) (k n : Nat), (∀ s ∈ l, s.length ≤ 1000) → n < (writeL k l).length → recAll k (spoil (writeL k l) n a b) = (l.take (whole k l n).1, (whole k l n).2)
  | [], k, n, _, hn => by simp [writeL] at hn
  | s :: l, k, n, h, hn => by
    rw [writeL, whole]
    by_cases hf : n < (frame k s).length
    · rw [if_pos hf, recAll_none (rec1_spoilt k s _ n a b (h s (by simp)) ha hf)]
      simp
    · obtain ⟨m, rfl⟩ : ∃ m, n = (frame k s).length + m := ⟨n - (frame k s).length, by omega⟩
      rw [writeL, List.length_append] at hn
      rw [if_neg hf, spoil_right, recAll_cons k s _ (h s (by simp)), Nat.add_sub_cancel_left, recAll_spoilt a b ha l (k + 1) m (fun x hx => h x (by simp [hx])) (by omega)]
      simp
end Lg
end Go.Proofs.Ytemknajlmocfeaa
namespace Go.Proofs.Ytemknajlmocfeaa
set_option maxRecDepth 20000
open Go.RowKit
namespace Bk
abbrev Vals := ByteArray → Option ByteArray
inductive Rec
  | set (k v : ByteArray)
  | del (k : ByteArray)
def enc : Rec → List UInt8
  | .set k v => 1 :: Lg.nb k.size :: (sl k ++ sl v)
  | .del k => 2 :: Lg.nb k.size :: sl k
def vput (f : Vals) (k v : ByteArray) : Vals := fun x => if x = k then some v else f x
def vdel (f : Vals) (k : ByteArray) : Vals := fun x => if x = k then none else f x
abbrev St := Vals × Nat
def s0 : St := (fun _ => none, 0)
def setE (s : St) (k v : ByteArray) : Int := if k.size = 0 ∨ 50 < k.size then 1 else if 900 < v.size then 2 else if s.1 k = none ∧ s.2 = 100 then 6 else 0
def delE (s : St) (k : ByteArray) : Int := if s.1 k = none then 4 else 0
def setS (s : St) (k v : ByteArray) : St := (vput s.1 k v, if (s.1 k).isSome then s.2 else s.2 + 1)
def delS (s : St) (k : ByteArray) : St := (vdel s.1 k, s.2 - 1)
def doR (s : St) : Rec → Option St
  | .set k v => if setE s k v = 0 then some (setS s k v) else none
  | .del k => if delE s k = 0 then some (delS s k) else none
def playFrom (s : St) : List Rec → Option St
  | [] => some s
  | r :: rs => match doR s r with | none => none | some s' => playFrom s' rs
def play (rs : List Rec) : Option St := playFrom s0 rs
def imgL (rs : List Rec) : List UInt8 := Lg.writeL 0 (rs.map enc)
theorem playFrom_cons (s : St) (r : Rec) (rs : List Rec) : playFrom s (r :: rs) = (doR s r).bind fun s' => playFrom s' rs := by
  show (match doR s r with | none => none | some s' => playFrom s' rs) = _
  cases doR s r <;> rfl
theorem playFrom_app : ∀ (a b : List Rec) (s : St), playFrom s (a ++ b) = (playFrom s a).bind fun s' => playFrom s' b
  | [], b, s => rfl
  | r :: a, b, s => by
    rw [List.cons_append, playFrom_cons, playFrom_cons]
    cases doR s r with
    | none => rfl
    | some s' => exact playFrom_app a b s'
theorem doR_set {s s' : St} {k v : ByteArray} (h : doR s (.set k v) = some s') : setE s k v = 0 ∧ s' = setS s k v := by
  have h1 : (if setE s k v = 0 then some (setS s k v) else none) = some s' := h
  split at h1
  · rename_i he; injection h1 with h1; exact ⟨he, h1.symm⟩
  · cases h1
theorem doR_del {s s' : St} {k : ByteArray} (h : doR s (.del k) = some s') : delE s k = 0 ∧ s' = delS s k := by
  have h1 : (if delE s k = 0 then some (delS s k) else none) = some s' := h
  split at h1
  · rename_i he; injection h1 with h1; exact ⟨he, h1.symm⟩
  · cases h1
theorem doR_set_of {s : St} {k v : ByteArray} (h : setE s k v = 0) : doR s (.set k v) = some (setS s k v) := by
  show (if setE s k v = 0 then some (setS s k v) else none) = _
  rw [if_pos h]
theorem doR_del_of {s : St} {k : ByteArray} (h : delE s k = 0) : doR s (.del k) = some (delS s k) := by
  show (if delE s k = 0 then some (delS s k) else none) = _
  rw [if_pos h]
theorem play_snoc (a : List Rec) (r : Rec) : play (a ++ [r]) = (play a).bind fun s => doR s r := by
  unfold play
  rw [playFrom_app]
  congr 1
  funext s
  rw [playFrom_cons]
  cases doR s r <;> rfl
theorem play_take {rs : List Rec} {s : St} (h : play rs = some s) (j : Nat) : ∃ s', play (rs.take j) = some s' := by
  rw [← List.take_append_drop j rs] at h
  unfold play at h ⊢
  rw [playFrom_app] at h
  cases hq : playFrom s0 (rs.take j) with
  | none => rw [hq] at h; cases h
  | some s' => exact ⟨s', rfl⟩
/-- What every state that was reached obeys. -/
structure Inv (s : St) : Prop where
  key : ∀ k v, s.1 k = some v → 1 ≤ k.size ∧ k.size ≤ 50 ∧ v.size ≤ 900
  many : s.2 ≤ 100
theorem Inv.start : Inv s0 := ⟨fun _ _ h => (by cases h), by decide⟩
theorem setE_ok {s : St} {k v : ByteArray} (h : setE s k v = 0) : 1 ≤ k.size ∧ k.size ≤ 50 ∧ v.size ≤ 900 ∧ ¬ (s.1 k = none ∧ s.2 = 100) := by
  unfold setE at h
  split at h
  · cases h
  · split at h
    · cases h
    · split at h
      · cases h
      · rename_i h1 h2 h3
        exact ⟨by omega, by omega, by omega, h3⟩
theorem delE_ok {s : St} {k : ByteArray} (h : delE s k = 0) : ∃ v, s.1 k = some v := by
  unfold delE at h
  split at h
  · cases h
  · rename_i h1
    cases hq : s.1 k with
    | none => exact absurd hq h1
    | some v => exact ⟨v, rfl⟩
theorem Inv.step {s s' : St} {r : Rec} (h : Inv s) (hd : doR s r = some s') : Inv s' := by
  cases r with
  | set k v =>
    obtain ⟨he, rfl⟩ := doR_set hd
    obtain ⟨h1, h2, h3, h4⟩ := setE_ok he
    refine ⟨fun k' v' hk => ?_, ?_⟩
    · unfold setS vput at hk
      simp only at hk
      split at hk
      · rename_i e
        injection hk with hk
        subst hk e
        exact ⟨h1, h2, h3⟩
      · exact h.key k' v' hk
    · show (if (s.1 k).isSome then s.2 else s.2 + 1) ≤ 100
      have := h.many
      split
      · exact this
      · rename_i hn
        have : s.1 k = none := by cases hq : s.1 k <;> simp_all
        have : s.2 ≠ 100 := fun e => h4 ⟨this, e⟩
        omega
  | del k =>
    obtain ⟨he, rfl⟩ := doR_del hd
    refine ⟨fun k' v' hk => ?_, ?_⟩
    · unfold delS vdel at hk
      simp only at hk
      split at hk
      · cases hk
      · exact h.key k' v' hk
    · show s.2 - 1 ≤ 100
      have := h.many
      omega
theorem Inv.of_play : ∀ {rs : List Rec} {a s : St}, Inv a → playFrom a rs = some s → Inv s
  | [], a, s, h, hp => by
    have hp' : some a = some s := hp
    injection hp' with hp'
    subst hp'
    exact h
  | r :: rs, a, s, h, hp => by
    rw [playFrom_cons] at hp
    cases hd : doR a r with
    | none => rw [hd] at hp; cases hp
    | some s' => rw [hd] at hp; exact Inv.of_play (h.step hd) hp
theorem inv_play {rs : List Rec} {s : St} (h : play rs = some s) : Inv s := Inv.of_play Inv.start h
theorem enc_len_set (k v : ByteArray) : (enc (.set k v)).length = 2 + k.size + v.size := by simp [enc, sl_len]; omega
theorem enc_len_del (k : ByteArray) : (enc (.del k)).length = 2 + k.size := by simp [enc, sl_len]; omega
theorem enc_le {s s' : St} {r : Rec} (h : Inv s) (hd : doR s r = some s') : (enc r).length ≤ 952 := by
  cases r with
  | set k v =>
    obtain ⟨he, rfl⟩ := doR_set hd
    obtain ⟨h1, h2, h3, h4⟩ := setE_ok he
    rw [enc_len_set]; omega
  | del k =>
    obtain ⟨he, rfl⟩ := doR_del hd
    obtain ⟨v, hv⟩ := delE_ok he
    have := h.key k v hv
    rw [enc_len_del]; omega
theorem encs_from : ∀ {rs : List Rec} {a s : St}, Inv a → playFrom a rs = some s → ∀ r ∈ rs, (enc r).length ≤ 952
  | [], a, s, h, hp, r, hr => by cases hr
  | q :: rs, a, s, h, hp, r, hr => by
    rw [playFrom_cons] at hp
    cases hd : doR a q with
    | none => rw [hd] at hp; cases hp
    | some s' =>
      rw [hd] at hp
      rcases List.mem_cons.1 hr with rfl | hr
      · exact enc_le h hd
      · exact encs_from (h.step hd) hp r hr
theorem encs_le {rs : List Rec} {s : St} (h : play rs = some s) : ∀ l ∈ rs.map enc, l.length ≤ 1000 := by
  intro l hl
  obtain ⟨r, hr, rfl⟩ := List.mem_map.1 hl
  have := encs_from Inv.start h r hr
  omega
theorem writeL_snoc : ∀ (l : List (List UInt8)) (k : Nat) (s : List UInt8), Lg.writeL k (l ++ [s]) = Lg.writeL k l ++ Lg.frame (k + l.length) s
  | [], k, s => by simp [Lg.writeL]
  | x :: l, k, s => by
    rw [List.cons_append]
    unfold Lg.writeL
    rw [writeL_snoc l (k + 1) s, List.append_assoc, List.length_cons, show k + 1 + l.length = k + (l.length + 1) by omega]
theorem imgL_snoc (rs : List Rec) (r : Rec) : imgL (rs ++ [r]) = imgL rs ++ Lg.frame rs.length (enc r) := by
  unfold imgL
  rw [List.map_append, List.map_singleton, writeL_snoc, List.length_map, Nat.zero_add]
theorem imgL_len {rs : List Rec} (h : ∀ r ∈ rs, (enc r).length ≤ 1000) : (imgL rs).length ≤ 1008 * rs.length := by
  have key : ∀ (rs : List Rec) (k : Nat), (∀ r ∈ rs, (enc r).length ≤ 1000) → (Lg.writeL k (rs.map enc)).length ≤ 1008 * rs.length := by
    intro rs
    induction rs with
    | nil => intro k _; simp [Lg.writeL]
    | cons r l ih =>
      intro k hr
      have h1 := ih (k + 1) (fun q hq => hr q (List.mem_cons_of_mem _ hq))
      have h2 := hr r (by simp)
      rw [List.map_cons]
      unfold Lg.writeL
      rw [List.length_append, Lg.frame_len, List.length_cons]
      omega
  exact key rs 0 h
end Bk
end Go.Proofs.Ytemknajlmocfeaa
