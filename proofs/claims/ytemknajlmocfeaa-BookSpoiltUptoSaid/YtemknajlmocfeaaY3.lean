/- Rows of structs of two cells: a list that is read, one that is the call's own; an element stored, a rest cleared, a prefix taken. -/
import Derived.Test.YtemknajlmocfeaaChecked
import Derived.Test.YtemknajlmocfeaaY0
import Derived.Deep.RegionHeld
import Derived.Laws.CopyRow
import Derived.Test.YtemknajlmocfeaaY2
import Derived.Test.YtemknajlmocfeaaY1
import Derived.OrdersIn
namespace Go.Proofs.Ytemknajlmocfeaa
open Go.RowKit
theorem flat2 {α : Type} {en : α → List Value} (hen : ∀ x, (en x).length = 2) : ∀ (xs : List α) (k i : Nat) (x : α) (u : Value), xs[k]? = some x → i < 2 → (en x)[i]? = some u → (xs.flatMap en)[k * 2 + i]? = some u
  | [], k, i, x, u, h, _, _ => by simp at h
  | y :: ys, 0, i, x, u, h, hi, hu => by
    simp at h; subst h
    rw [List.flatMap_cons, Nat.zero_mul, Nat.zero_add, List.getElem?_append_left (by rw [hen]; exact hi)]; exact hu
  | y :: ys, k + 1, i, x, u, h, hi, hu => by
    rw [List.flatMap_cons, List.getElem?_append_right (by rw [hen]; omega), hen, show (k + 1) * 2 + i - 2 = k * 2 + i from by omega]
    exact flat2 hen ys k i x u (by simpa using h) hi hu
/-- The cells of an element of a list that is read, of two cells. -/
theorem SlR.two {α : Type} {en : α → List Value} {w : World} {v : Value} {xs : List α} (hen : ∀ x, (en x).length = 2) (h : SlR w en v xs) (hn : 0 < xs.length) :
    ∃ b off c, v = .slice (some ⟨b, off, none⟩) xs.length c ∧ b < w.heap.size ∧ ∀ k (hk : k < xs.length) (u0 u1 : Value), (en xs[k])[0]? = some u0 → (en xs[k])[1]? = some u1 → w.cell? ⟨b, off + k * 2, none⟩ = some u0 ∧ w.cell? ⟨b, off + k * 2 + 1, none⟩ = some u1 := by
  obtain ⟨A, c, hv, hc, hx⟩ := h
  obtain ⟨b, off, rfl, hb, hcell⟩ := hx hn
  exact ⟨b, off, c, hv, hb, fun k hk u0 u1 h0 h1 => ⟨hcell (k * 2 + 0) u0 (flat2 hen xs k 0 _ u0 (List.getElem?_eq_getElem hk) (by omega) h0), hcell (k * 2 + 1) u1 (flat2 hen xs k 1 _ u1 (List.getElem?_eq_getElem hk) (by omega) h1)⟩⟩
section
variable {α : Type} {w : World} {base : Nat} {e : TypeId} {en : α → List Value} {g cap n : Nat} {xs : List α}
/-- What one's own row with a block is. -/
theorem Owns.row {size : Nat} (h : Owns w base e size en (.slice (some ⟨g, 0, none⟩) n cap) xs) : base ≤ g ∧ n = xs.length ∧ n ≤ cap ∧ cap ≤ maxLen ∧ ∃ cur, Blk w g e cur ∧ cur.size = cap * size ∧ cur.toList.take (n * size) = xs.flatMap en := by
  obtain ⟨h1, h2⟩ := h
  rcases h2 with ⟨h3, _⟩ | ⟨g', cap', cur, hv, hb, hh, hn, hm, hs, ht⟩
  · cases h3
  · injection hv with e1 e2 e3
    injection e1 with e1
    injection e1 with e1
    subst e1 e2 e3
    exact ⟨hb, rfl, hn, hm, cur, hh, hs, ht⟩
theorem Owns.of_row {size : Nat} {cur : Array Value} (hen : ∀ x, (en x).length = size) (hb : base ≤ g) (hn : xs.length ≤ cap) (hm : cap ≤ maxLen) (hh : Blk w g e cur) (hs : cur.size = cap * size) (ht : cur.toList.take (xs.length * size) = xs.flatMap en) :
    Owns w base e size en (.slice (some ⟨g, 0, none⟩) xs.length cap) xs :=
  ⟨flat_len hen xs, .inr ⟨g, cap, cur, rfl, hb, hh, hn, hm, hs, ht⟩⟩
/-- The first k elements. -/
theorem Owns.pre {size : Nat} (hen : ∀ x, (en x).length = size) (h : Owns w base e size en (.slice (some ⟨g, 0, none⟩) n cap) xs) (k : Nat) (hk : k ≤ xs.length) : Owns w base e size en (.slice (some ⟨g, 0, none⟩) k cap) (xs.take k) := by
  obtain ⟨hb, rfl, hn, hm, cur, hh, hs, ht⟩ := h.row
  have hl : (xs.take k).length = k := by simp; omega
  have := Owns.of_row (w := w) (e := e) (xs := xs.take k) (cap := cap) hen hb (by omega) hm hh hs (by
    have h1 : cur.toList.take (k * size) = (xs.flatMap en).take (k * size) := by
      rw [← ht, List.take_take, Nat.min_eq_left (Nat.mul_le_mul_right _ hk)]
    rw [hl, h1]
    conv => lhs; rw [← List.take_append_drop k xs, List.flatMap_append]
    rw [List.take_append_of_le_length (by rw [flat_len hen, hl]; exact Nat.le_refl _), List.take_of_length_le (by rw [flat_len hen, hl]; exact Nat.le_refl _)])
  rwa [hl] at this
theorem flat2_set (hen : ∀ x, (en x).length = 2) : ∀ (xs : List α) (i : Nat) (x : α) (u0 u1 : Value), en x = [u0, u1] → i < xs.length → ((xs.flatMap en).set (i * 2) u0).set (i * 2 + 1) u1 = (xs.set i x).flatMap en
  | [], i, x, u0, u1, _, h => by simp at h
  | y :: ys, 0, x, u0, u1, hx, _ => by
    have hy := hen y
    obtain ⟨a, b, hab⟩ : ∃ a b, en y = [a, b] := by
      match hq : en y, hy with
      | [a, b], _ => exact ⟨a, b, rfl⟩
    simp [List.flatMap_cons, hab, hx]
  | y :: ys, i + 1, x, u0, u1, hx, h => by
    have hy := hen y
    obtain ⟨a, b, hab⟩ : ∃ a b, en y = [a, b] := by
      match hq : en y, hy with
      | [a, b], _ => exact ⟨a, b, rfl⟩
    have := flat2_set hen ys i x u0 u1 hx (by simpa using h)
    rw [show (i + 1) * 2 = i * 2 + 1 + 1 from by omega]
    simp only [List.flatMap_cons, hab, List.cons_append, List.nil_append, List.set_cons_succ, this]
/-- An element stored. -/
theorem Owns.put2 (hen : ∀ x, (en x).length = 2) (h : Owns w base e 2 en (.slice (some ⟨g, 0, none⟩) n cap) xs) (i : Nat) (hi : i < xs.length) (x : α) (u0 u1 : Value) (hx : en x = [u0, u1]) :
    Owns ((w.setCell ⟨g, i * 2, none⟩ u0).setCell ⟨g, i * 2 + 1, none⟩ u1) base e 2 en (.slice (some ⟨g, 0, none⟩) n cap) (xs.set i x) := by
  obtain ⟨hb, rfl, hn, hm, cur, hh, hs, ht⟩ := h.row
  have := Owns.of_row (w := (w.setCell ⟨g, i * 2, none⟩ u0).setCell ⟨g, i * 2 + 1, none⟩ u1) (e := e) (xs := xs.set i x) (cap := cap) hen hb (by rw [List.length_set]; exact hn) hm ((hh.set_ (i * 2) u0).set_ (i * 2 + 1) u1) (by simpa using hs) (by
    rw [← flat2_set hen xs i x u0 u1 hx hi, ← ht]
    simp only [Array.toList_setIfInBounds, List.length_set]
    rw [List.take_set, List.take_set])
  rwa [List.length_set] at this
theorem zeroCells_get (zc : Array Value) (n : Nat) : (Builtin.zeroCells zc n).size = n * zc.size ∧ ∀ v ∈ (Builtin.zeroCells zc n).toList, 0 < zc.size → v ∈ zc.toList := by
  refine ⟨by simp [Builtin.zeroCells], fun v hv h0 => ?_⟩
  simp only [Builtin.zeroCells, Array.toList_map, List.mem_map] at hv
  obtain ⟨i, _, rfl⟩ := hv
  have hlt : i % zc.size < zc.size := Nat.mod_lt _ h0
  rw [getElem!_pos zc (i % zc.size) hlt]
  simp
/-- clear of the rest of one's own row. -/
theorem wpList_clear_owns {P : Program} {size : Nat} {ops : Array Oper} {rest : List Oper} {o : Oper} {a : Act} {Q : Exit → Act → World → Prop} (hgd : o.guard = none) (x : Operand) (t : TypeId)
    (ho : o.op = .call { callee := .builtin .clear, args := #[x], argTypes := #[t] }) (z : Value) (ht : P.underlying t = some (.slice e)) (hv : ∀ w, (zeroValue e).run P w = .ok z w) (hz : z.cells.size = size) (h0 : 0 < size) (h1 : ∀ v ∈ z.cells.toList, v.oneCell' = true)
    (hen : ∀ y, (en y).length = size) (hown : Owns w base e size en (.slice (some ⟨g, 0, none⟩) n cap) xs) (k m c : Nat) (hk : k + m = xs.length) (hx : a.eval x = .slice (some ⟨g, k * size, none⟩) m c)
    (h : ∀ w', Owns w' base e size en (.slice (some ⟨g, 0, none⟩) k cap) (xs.take k) → w.grownBy w' (some g) → wpList P ops Q rest (a.put o.dst (.tuple #[])) w') : wpList P ops Q (o :: rest) a w := by
  refine wpList_plain hgd fun K hK => ?_
  obtain ⟨hb, rfl, hn, hm, cur, hh, hs, hcur⟩ := hown.row
  obtain ⟨hzs, hz1⟩ := zeroCells_get z.cells m
  have hrun : ∃ w', (Builtin.clear_ #[t] o.type #[.slice (some ⟨g, k * size, none⟩) m c]).run P w = .ok (.tuple #[]) w' ∧ Owns w' base e size en (.slice (some ⟨g, 0, none⟩) k cap) (xs.take k) ∧ w.grownBy w' (some g) := by
    rcases Nat.eq_zero_or_pos m with rfl | hm0
    · refine ⟨w, by simp [Builtin.clear_, run_underlying ht], ?_, World.grownBy.refl w _⟩
      exact hown.pre hen k (by omega)
    · have hlen : k * size + m * size ≤ cur.size := by rw [hs, ← Nat.add_mul]; exact Nat.mul_le_mul_right _ (by omega)
      have hst := run_storeCells_at (P := P) g (k * size) e (Builtin.zeroCells z.cells m).toList 0 cur w hh (by simp only [Array.length_toList, hzs, hz]; omega) (fun v hv => h1 v (hz1 v hv (by omega)))
      refine ⟨w.setRow g (cur.toList.take (k * size + 0) ++ (Builtin.zeroCells z.cells m).toList ++ cur.toList.drop (k * size + 0 + (Builtin.zeroCells z.cells m).toList.length)).toArray, ?_, ?_, ?_⟩
      · obtain ⟨m', rfl⟩ : ∃ m', m = m' + 1 := ⟨m - 1, by omega⟩
        simp only [Builtin.clear_, List.getElem?_toArray, List.getElem?_cons_zero, Sem.run_bind, Sem.run_pure, Result.andThen_ok, run_underlying ht, hv, hst]
      · have hl : (xs.take k).length = k := by simp; omega
        have := Owns.of_row (w := w.setRow g (cur.toList.take (k * size + 0) ++ (Builtin.zeroCells z.cells m).toList ++ cur.toList.drop (k * size + 0 + (Builtin.zeroCells z.cells m).toList.length)).toArray) (e := e) (xs := xs.take k) (cap := cap) hen hb (by omega) hm (setRow_heap w g cur _ e (0, 0) hh) (by
            simp only [List.size_toArray, List.length_append, List.length_take, List.length_drop, Array.length_toList, hzs, hz]; omega) (by
            rw [hl]
            simp only [Nat.add_zero, List.append_assoc]
            have hpre := hown.pre hen k (by omega)
            obtain ⟨_, _, _, _, cur2, hh2, _, hcur2⟩ := hpre.row
            obtain rfl : cur2 = cur := by
              have := hh2.symm.trans hh
              injection this with this; injection this
            rw [List.take_append_of_le_length (by simp only [List.length_take, Array.length_toList]; omega), List.take_take, Nat.min_self, hcur2])
        rwa [hl] at this
      · exact ⟨rfl, rfl, rfl, by simp [World.setRow], fun j _ hj => setRow_other w g j _ (fun e => hj (by rw [e]))⟩
  obtain ⟨w', hr, h2, h3⟩ := hrun
  unfold Oper.wp execOp
  simp only [ho, resolve, invoke, builtin, Sem.run_bind, Sem.run_pure, Result.andThen_ok, List.map_toArray, List.map_cons, List.map_nil, hx, hr]
  exact hK _ _ (h w' h2 h3)
end
/-- A block of another type is not the row's. -/
theorem Owns.ne_blk {α : Type} {w : World} {base : Nat} {e t : TypeId} {size g : Nat} {en : α → List Value} {v : Value} {xs : List α} {cs : Array Value} (h : Owns w base e size en v xs) (hb : Blk w g t cs) (ht : t ≠ e) : v.ownBlock ≠ some g := by
  intro hv
  rcases h.form with ⟨rfl, _⟩ | ⟨g', cc, rfl⟩
  · cases hv
  · obtain rfl : g' = g := by simpa [Value.ownBlock] using hv
    obtain ⟨_, _, _, _, cur, hh, _, _⟩ := h.row
    have := hh.symm.trans hb
    injection this with this
    injection this with _ h2
    exact ht h2.symm
/-- A store into another block. -/
theorem Owns.setFar {α : Type} {w : World} {base : Nat} {e : TypeId} {size : Nat} {en : α → List Value} {v : Value} {xs : List α} (h : Owns w base e size en v xs) (p : Addr) (u : Value) (hne : v.ownBlock ≠ some p.block) : Owns (w.setCell p u) base e size en v xs := by
  refine World.ownsRow.kept h (row := some p.block) ⟨rfl, rfl, rfl, by simp, fun k hk hr => Below.heap_setCell w p u k (fun e => hr (by rw [e]))⟩ ?_
  cases hv : v.ownBlock with
  | none => exact .inl rfl
  | some k => exact .inr (by rw [← hv]; exact hne)
end Go.Proofs.Ytemknajlmocfeaa
namespace Go.Proofs.Ytemknajlmocfeaa
open Go.RowKit
/-- Lists of two types lie in two blocks. -/
theorem Owns.apart {α β : Type} {w : World} {b1 b2 : Nat} {e1 e2 : TypeId} {s1 s2 : Nat} {en1 : α → List Value} {en2 : β → List Value} {v1 v2 : Value} {xs1 : List α} {xs2 : List β} (h1 : Owns w b1 e1 s1 en1 v1 xs1) (h2 : Owns w b2 e2 s2 en2 v2 xs2) (he : e1 ≠ e2) : v1.ownBlock = none ∨ v1.ownBlock ≠ v2.ownBlock := by
  rcases h1.form with ⟨rfl, _⟩ | ⟨g, cc, rfl⟩
  · exact .inl rfl
  · right
    obtain ⟨_, _, _, _, cur, hh, _, _⟩ := h1.row
    have := h2.ne_blk hh he
    exact fun e => this (by rw [← e]; rfl)
theorem Owns.grownOther {α : Type} {w w' : World} {b : Nat} {e : TypeId} {s : Nat} {en : α → List Value} {v : Value} {xs : List α} {row : Option Nat} (h : Owns w b e s en v xs) (hg : w.grownBy w' row) (hne : v.ownBlock = none ∨ v.ownBlock ≠ row) : Owns w' b e s en v xs := World.ownsRow.kept h hg hne
theorem SlR.grown {α : Type} {w w' : World} {en : α → List Value} {b o n c : Nat} {xs : List α} {row : Option Nat} (h : SlR w en (.slice (some ⟨b, o, none⟩) n c) xs) (hg : w.grownBy w' row) (hne : some b ≠ row) : SlR w' en (.slice (some ⟨b, o, none⟩) n c) xs := by
  obtain ⟨A, c', hv, hc, hx⟩ := h
  refine ⟨A, c', hv, hc, fun hn => ?_⟩
  obtain ⟨b', off, hA, hb, hcell⟩ := hx hn
  obtain ⟨rfl, rfl⟩ : b = b' ∧ o = off := by
    subst hA; injection hv with h1 h2 h3; injection h1 with h1; injection h1 with h1 h2; exact ⟨h1, h2⟩
  exact ⟨b, o, hA, Nat.lt_of_lt_of_le hb hg.size, fun j u hu => hg.cell (hcell j u hu) hne⟩
/-- What a region keeps: all below, and two cells of a block. -/
structure KS (W : World) (g : Nat) (x y : Value) (w : World) : Prop where
  bel : Below W.heap.size W w
  lt : g < w.heap.size
  c0 : w.cell? ⟨g, 0, none⟩ = some x
  c1 : w.cell? ⟨g, 1, none⟩ = some y
theorem KS.alloc {W : World} {g : Nat} {x y : Value} {w : World} (h : KS W g x y w) (o : Obj) : KS W g x y (w.alloc o) := by
  have hb : Below w.heap.size w (w.alloc o) := (Below.refl _ _).alloc (Nat.le_refl _) _
  exact ⟨h.bel.trans (hb.mono h.bel.size), Nat.lt_of_lt_of_le h.lt hb.size, (hb.cell h.lt).trans h.c0, (hb.cell h.lt).trans h.c1⟩
theorem KS.grown {W : World} {g : Nat} {x y : Value} {w w' : World} {row : Option Nat} (h : KS W g x y w) (hg : w.grownBy w' row) (hr : ∀ k, row = some k → W.heap.size ≤ k) (hne : some g ≠ row) : KS W g x y w' :=
  ⟨h.bel.grown hg h.bel.size hr, Nat.lt_of_lt_of_le h.lt hg.size, hg.cell h.c0 hne, hg.cell h.c1 hne⟩
theorem KS.drew {W : World} {g : Nat} {x y : Value} {w : World} (h : KS W g x y w) : KS W g x y w.drew := ⟨h.bel.drew, h.lt, h.c0, h.c1⟩
end Go.Proofs.Ytemknajlmocfeaa
namespace Go.Proofs.Ytemknajlmocfeaa
set_option maxRecDepth 20000
open Go.RowKit Go.Shelf
attribute [local go_sem] Oper.semAt_some
/-- What lies in the loop's frame: the list that grows, the loop's record. -/
structure OL (B D : Nat) (rec : Loop) (pre : List ByteArray) (W : World) : Prop where
  out : ∃ o, Blk W B 42 #[o] ∧ Owns W (D + 2) 9 1 es o pre
  ld : W.heap[D]? = some (.deferred (some []))
  lr : W.heap[D + 1]? = some (.loop rec)
  sz : D + 2 ≤ W.heap.size
  lt : B < D
def lenAt (W : World) (B : Nat) : Nat := match W.cell? ⟨B, 0, none⟩ with | some (.slice _ n _) => n | _ => 0
theorem gput (w : World) (l : Nat) (o : Obj) : w.grownBy (w.putObj l o) (some l) :=
  ⟨rfl, rfl, rfl, by simp [World.putObj], fun k hk hne => World.putObj_heap_other (by intro e; exact hne (by rw [e]))⟩
section
variable {B D : Nat} {rec rec' : Loop} {pre : List ByteArray} {W W' : World}
theorem OL.len (h : OL B D rec pre W) : lenAt W B = pre.length := by
  obtain ⟨o, h1, h2⟩ := h.out
  unfold lenAt
  rw [h1.cell 0]
  rcases h2.form with ⟨rfl, rfl⟩ | ⟨g, c, rfl⟩ <;> rfl
theorem OL.put (h : OL B D rec pre W) : OL B D rec' pre (W.putObj (D + 1) (.loop rec')) := by
  have hg := gput W (D + 1) (.loop rec')
  obtain ⟨o, h1, h2⟩ := h.out
  refine ⟨⟨o, Blk.keptR h1 hg (by intro e; injection e with e; have := h.lt; omega), h2.grownOther hg ?_⟩, (hg.block _ (heap_lt' h.ld) (by simp)).trans h.ld, World.putObj_heap_same (heap_lt' h.lr), Nat.le_trans h.sz hg.size, h.lt⟩
  cases hv : o.ownBlock with
  | none => exact .inl rfl
  | some k => exact .inr fun e => by injection e with e; have := (h2.lt k hv).1; omega
theorem OL.rf {ex : List TypeId} {n0 : Nat} (h : OL B D rec pre W) (hr : RF ex n0 W W') (h1 : ex.contains 42 = false) (h2 : ex.contains 9 = false) : OL B D rec pre W' := by
  obtain ⟨o, g1, g2⟩ := h.out
  exact ⟨⟨o, g1.rf hr h1, g2.rf hr h2⟩, hr.fr _ _ h.ld rfl, hr.fr _ _ h.lr rfl, Nat.le_trans h.sz hr.size, h.lt⟩
theorem OL.drew (h : OL B D rec pre W) : OL B D rec pre W.drew := ⟨h.out, h.ld, h.lr, h.sz, h.lt⟩
theorem OL.grow {o v' : Value} {w1 : World} {p : ByteArray} (h : OL B D rec pre W) (ho1 : Blk W B 42 #[o]) (ho2 : Owns W (D + 2) 9 1 es o pre)
    (hg : W.grownBy w1 o.ownBlock) (hv : Owns w1 (D + 2) 9 1 es v' (pre ++ [p])) : OL B D rec (pre ++ [p]) (w1.setCell ⟨B, 0, none⟩ v') := by
  have hl := h.lt
  have far : ∀ k, k < D + 2 → some k ≠ o.ownBlock := fun k hk e => by have := (ho2.lt k e.symm).1; omega
  have hb1 : Blk w1 B 42 #[o] := Blk.keptR ho1 hg (far _ (by omega))
  have hg2 : w1.grownBy (w1.setCell ⟨B, 0, none⟩ v') (some B) := ⟨rfl, rfl, rfl, by simp [World.setCell], fun k _ hne => Below.heap_setCell _ _ _ _ (fun e => hne (by rw [e]))⟩
  have s1 : ∀ {a b : Nat}, a ≠ b → some a ≠ some b := fun h e => h (by injection e)
  have d1 := (hg.block _ (heap_lt' h.ld) (far _ (by omega))).trans h.ld
  have l1 := (hg.block _ (heap_lt' h.lr) (far _ (by omega))).trans h.lr
  refine ⟨⟨v', hb1.set_ 0 v', hv.grownOther hg2 ?_⟩, (hg2.block _ (heap_lt' d1) (s1 (by omega))).trans d1, (hg2.block _ (heap_lt' l1) (s1 (by omega))).trans l1, Nat.le_trans (Nat.le_trans h.sz hg.size) hg2.size, hl⟩
  cases hv' : v'.ownBlock with
  | none => exact .inl rfl
  | some k => exact .inr (s1 (by have := (hv.lt k hv').1; omega))
theorem OL.alloc (h : OL B D rec pre W) (o : Obj) : OL B D rec pre (W.alloc o) := h.rf (ex := []) (n0 := 0) ((RF.refl _ _ _).alloc (Nat.zero_le _) o) rfl rfl
end
theorem RowS.keptO {w w' : World} {n0 p c mb : Nat} {room : Int} {ns : List Nd} {row : Option Nat} (h : RowS w n0 p room c mb ns) (hg : w.grownBy w' row) (hrow : ∀ k, row = some k → ∃ o, w.heap[k]? = some o ∧ okObj RY o = true) : RowS w' n0 p room c mb ns := by
  have ne : ∀ {k : Nat} {t : TypeId} {cs : Array Value}, Blk w k t cs → RY.contains t = true → some k ≠ row := fun {k t cs} hb ht e => by
    obtain ⟨o, ho, hk⟩ := hrow k e.symm
    unfold Blk at hb
    rw [hb] at ho
    cases ho
    simp only [okObj, ht] at hk
    cases hk
  refine ⟨Blk.keptR h.blk hg (ne h.blk (by decide)), h.p0, h.ch.kept hg ?_ ?_ ?_, h.rm, h.sz, h.us, h.ks⟩
  · obtain ⟨_, _, hb⟩ := h.ch.root
    exact ne hb (by decide)
  · intro e
    obtain ⟨o, ho, hk⟩ := hrow mb e.symm
    obtain ⟨es, ck, hm⟩ := h.ch.mp.isMapObj
    rw [hm] at ho
    cases ho
    cases hk
  · intro x hx
    obtain ⟨_, _, hb⟩ := h.ch.node x hx
    exact ne hb (by decide)
theorem ring_first {w : World} {n0 c mb : Nat} {ns : List Nd} (h : Chn w n0 c mb ns) : w.cell? ⟨c, 3, none⟩ = some (ptr (hdB ns c)) := by
  have := h.ring
  cases ns with
  | nil => exact this.1.1
  | cons x ns => exact this.1.1
/-- What follows one in the chain. -/
theorem ring_next {w : World} {n0 c mb : Nat} {l r : List Nd} {x : Nd} (h : Chn w n0 c mb (l ++ x :: r)) : w.cell? ⟨x.1, 3, none⟩ = some (ptr (hdB r c)) := by
  have hr := h.ring
  rw [show c :: ((l ++ x :: r).map (·.1) ++ [c]) = (c :: l.map (·.1)) ++ x.1 :: (r.map (·.1) ++ [c]) by rw [List.map_append, List.map_cons, List.append_assoc]; rfl] at hr
  cases r with
  | nil => exact (links_next (xs := c :: l.map (·.1)) (ys := []) hr).1
  | cons y r => exact (links_next (xs := c :: l.map (·.1)) (ys := r.map (·.1) ++ [c]) hr).1
set_option maxHeartbeats 2000000 in
theorem keys_any (n0 p c mb : Nat) (room : Int) (ns : List Nd) (w : World) (h : RowS w n0 p room c mb ns) :
    Calls Try.prog 32 #[ptr p] w fun e w' => ∃ v, e = .returned v ∧ Owns w' w.heap.size 9 1 es v (ns.map (·.2.1)) ∧ Below w.heap.size w w' := by
  have hlen := h.len
  have p2 : (w.alloc (.cells #[.slice none 0 0] 42)).cell? ⟨p, 2, none⟩ = some (ptr c) := (h.alloc _).blk.cell 2
  have H := Lib.hid h
  clear h
  refine (callsIn_wide (n := 4)).1 ?_
  refine callsIn_of_wp_marks Try.func32 rfl trivial ?_ rfl
  simp only [Try.ntmps32, List.size_toArray, List.length_cons, List.length_nil, Nat.reduceAdd, Nat.reduceSub, Array.replicate_succ, Array.replicate_zero, List.push_toArray, List.append_toArray, List.nil_append, List.cons_append]
  have hmf : ∀ (fn : Fn) (first cap : Array Value) (w : World), (Instr.makeFunc fn first cap).run Try.prog w = .ok (.func fn first cap) w := fun _ _ _ _ => rfl
  have hB0 : Blk (w.alloc (.cells #[.slice none 0 0] 42)) w.heap.size 42 #[.slice none 0 0] := Blk.new w _ _
  have hb0 : Below w.heap.size w (w.alloc (.cells #[.slice none 0 0] 42)) := (Below.refl _ w).alloc (Nat.le_refl _) _
  have hz0 : (w.alloc (.cells #[.slice none 0 0] 42)).heap.size = w.heap.size + 1 := by simp
  gi_wp2
  generalize w.alloc (.cells #[.slice none 0 0] 42) = W0 at *
  refine wpIn_rangeFunc_out (n := 4) rfl (by decide) (gf := 72) (fs := #[ptr c]) (lb := #[]) rfl trivial (enters_of Try.func72 (by kernel_rfl) rfl) ?_
  intro rec hF hst hpe htm hpa has hbo
  have hl1 : ((W0.alloc (.deferred (some []))).alloc (.loop rec)).heap[W0.heap.size + 1]? = some (.loop rec) := by
    have := World.alloc_heap_new (W0.alloc (.deferred (some []))) (.loop rec); rwa [World.size_alloc] at this
  have hd1 : ((W0.alloc (.deferred (some []))).alloc (.loop rec)).heap[W0.heap.size]? = some (.deferred (some [])) :=
    (Below.heap_alloc _ _ _ (by simp)).trans (World.alloc_heap_new W0 _)
  have hol1 : OL w.heap.size W0.heap.size rec [] ((W0.alloc (.deferred (some []))).alloc (.loop rec)) :=
    ⟨⟨_, (hB0.alloc _).alloc _, Owns.nil ..⟩, hd1, hl1, by simp, by omega⟩
  have hb1 : Below w.heap.size w ((W0.alloc (.deferred (some []))).alloc (.loop rec)) := (hb0.alloc hb0.size _).alloc (Nat.le_trans hb0.size (le_alloc _ _)) _
  have HZ := Lib.hid hz0
  refine (all_in 3 c (W0.heap.size + 1) (fun rest W => ∃ pre, ns = pre ++ rest ∧ OL w.heap.size W0.heap.size rec (pre.map (·.2.1)) W ∧ Below w.heap.size w W)
    (fun W => OL w.heap.size W0.heap.size rec (ns.map (·.2.1)) W ∧ Below w.heap.size w W) (fun W => ns.length - lenAt W w.heap.size) (by decide) ?mu ?drew ?key ?round ?ends ns _ ⟨[], rfl, hol1, hb1⟩ ?first).mono ?_
  case mu =>
    rintro rest W ⟨pre, he, ho, _⟩
    show ns.length - lenAt W w.heap.size = _
    rw [ho.len, he]
    simp
  case drew =>
    rintro rest W ⟨pre, he, ho, hb⟩
    exact ⟨pre, he, ho.drew, hb.drew⟩
  case key =>
    rintro x rest W ⟨pre, he, ho, hb⟩
    have hR := (H.out.below hb).ch
    exact ⟨hR.node x (by rw [he]; simp), hR.ne_root x (by rw [he]; simp), mb, hR.root⟩
  case ends =>
    rintro W ⟨pre, he, ho, hb⟩
    rw [List.append_nil] at he
    subst he
    exact ⟨ho, hb⟩
  case first => exact ring_first (H.out.below hb1).ch
  case round =>
    rintro x rest W ⟨pre, he, ho, hb⟩
    have hnx := ring_next (l := pre) (r := rest) (x := x) (by rw [← he]; exact H.out.ch)
    have hxl : x.1 < w.heap.size := (H.out.ch.node x (by rw [he]; simp)).lt
    refine yieldB_of { tmps := #[ptr p, undef, .slice none 0 0, ptr w.heap.size, .string x.2.1, ptr p, ptr p, .pointer (some ⟨p, 2, none⟩), ptr c, .func (.func 72) #[ptr c] #[], .string x.2.1, undef, undef, undef, undef, undef], defers := [] } hF ho.lr hst hpe (by rw [hpa]; rfl) ?_ ?_
    · intro K hK
      rw [has, htm, hpa]
      gi_wp2
      exact hK
    · have hob : OL w.heap.size W0.heap.size { rec with state := .busy } (pre.map (·.2.1)) (W.putObj (W0.heap.size + 1) (.loop { rec with state := .busy })) := ho.put
      have hbb : Below w.heap.size w (W.putObj (W0.heap.size + 1) (.loop { rec with state := .busy })) := hb.grown (gput _ _ _) (by have := ho.sz; omega) (fun k hk => by cases hk; omega)
      have hpl : pre.length + 1 ≤ 1000000 := by have := congrArg List.length he; simp only [List.length_append, List.length_cons] at this; omega
      generalize W.putObj (W0.heap.size + 1) (.loop { rec with state := .busy }) = Wb at *
      have HRB : Hid (∀ W3, OL w.heap.size W0.heap.size { rec with state := .busy } ((pre ++ [x]).map (·.2.1)) W3 → Below w.heap.size w W3 → W3.heap[W0.heap.size + 1]? = some (.loop { rec with state := .busy }) ∧ ((∃ pre', ns = pre' ++ rest ∧ OL w.heap.size W0.heap.size rec (pre'.map (·.2.1)) (W3.putObj (W0.heap.size + 1) (.loop rec)) ∧ Below w.heap.size w (W3.putObj (W0.heap.size + 1) (.loop rec))) ∧ (W3.putObj (W0.heap.size + 1) (.loop rec)).cell? ⟨x.1, 3, none⟩ = some (ptr (hdB rest c)))) := by
        intro W3 h1 h2
        have hb3 : Below w.heap.size w (W3.putObj (W0.heap.size + 1) (.loop rec)) := h2.grown (gput _ _ _) (by have := h1.sz; omega) (fun k hk => by cases hk; omega)
        exact ⟨h1.lr, ⟨pre ++ [x], by rw [he, List.append_assoc]; rfl, h1.put, hb3⟩, (hb3.cell (p := ⟨x.1, 3, none⟩) hxl).trans hnx⟩
      generalize ({ rec with state := .busy } : Loop) = recB at *
      rw [hbo]
      clear hst hpe htm hpa has hbo hl1 hd1 hol1 hb1 ho hb hz0 hB0 hb0 hnx hxl he
      obtain ⟨o, ho1, ho2⟩ := hob.out
      have b0 := ho1.cell 0
      obtain ⟨i0, hi, hi0, hi1, hi2⟩ := info_parts stringInfo
      have hrow : Wb.ownsRow (W0.heap.size + 2) 9 1 o (pre.map (·.2.1)).length ((pre.map (·.2.1)).flatMap es) := ho2
      have hml : (pre.map (·.2.1)).length = pre.length := List.length_map ..
      gi_wp2_with (gi_at_builtin; refine wpListIn_append_own _ rfl _ _ 42 rfl (W0.heap.size + 2) 9 i0 (.string ByteArray.empty) 1 16 Try.underlying42 hi hi0 hi1 hi2 rfl (by decide) _ _ _ rfl (hrow.alloc _) ⟨Wb.heap.size, 0, none⟩ 1 1 [.string x.2.1] rfl rfl (new_cells _ [.string x.2.1] _) (by simp [Value.oneCell']) (by rw [hml]; simp only [maxLen]; omega) (by rw [hml]; omega) (by have := hob.sz; simp; omega) ?_; intro v' w1 hown' hgrow _; obtain ⟨g', cap', rfl⟩ := ownsRow_succ hown'; have hv1 := Blk.keptR (ho1.alloc (.cells #[.string x.2.1] 9)) hgrow (by intro e; have := (ho2.lt _ e.symm).1; have := HZ.out; omega); have hc1 := hv1.cell 0; have hf1 := hv1.frozen 0)
      have hol3 := (OL.alloc hob (.cells #[.string x.2.1] 9)).grow (p := x.2.1) (ho1.alloc _) (ho2.alloc _) hgrow (v' := .slice (some ⟨g', 0, none⟩) (pre.length + 1) cap') (by
        have := hown'
        unfold Owns
        rw [List.length_append, List.flatMap_append]
        simp only [List.length_cons, List.length_nil, List.flatMap_cons, List.flatMap_nil, List.append_nil, es, Nat.zero_add, hml] at this ⊢
        exact this)
      have hbe3 : Below w.heap.size w (w1.setCell ⟨w.heap.size, 0, none⟩ (.slice (some ⟨g', 0, none⟩) (pre.length + 1) cap')) := ((hbb.alloc (by have := hob.sz; have := HZ.out; omega) _).grown hgrow (by have := hob.sz; have := HZ.out; simp; omega) (fun k hk => by have := (ho2.lt k hk).1; have := HZ.out; omega)).setCell (p := ⟨w.heap.size, 0, none⟩) (Nat.le_refl _) _
      rw [← List.map_singleton (f := fun x : Nd => x.2.1), ← List.map_append] at hol3
      exact HRB.out _ hol3 hbe3
  · rintro e W2 ⟨hv, ho2, hb2⟩
    refine ⟨hv, _, _, ho2.lr, by rw [hst]; decide, ?_⟩
    rw [hpe]
    show Exit.inBlock _ _ _ _ _
    have ho3 : OL w.heap.size W0.heap.size { rec with state := .exhausted, pending := none } (ns.map (·.2.1)) (W2.putObj (W0.heap.size + 1) (.loop { rec with state := .exhausted, pending := none })) := ho2.put
    have hb3 : Below w.heap.size w (W2.putObj (W0.heap.size + 1) (.loop { rec with state := .exhausted, pending := none })) := hb2.grown (gput _ _ _) (by have := ho2.sz; omega) (fun k hk => by cases hk; omega)
    clear hl1 hd1 hol1 hb1 hB0 hb0 hz0
    generalize W2.putObj (W0.heap.size + 1) (.loop { rec with state := .exhausted, pending := none }) = W3 at *
    generalize ({ rec with state := .exhausted, pending := none } : Loop) = recX at *
    obtain ⟨o, h1, h2⟩ := ho3.out
    have b1 := h1.cell 0
    have hK := ho3.ld
    gi_wp2
    refine ⟨by simp, .inl ⟨_, _, rfl, run_takeDeferred hK, ?_⟩⟩
    have hg4 := gput W3 W0.heap.size (.deferred none)
    refine ⟨_, results_tmp rfl _ _ _, o, rfl, ?_, hb3.grown hg4 (by have := ho3.sz; have := HZ.out; omega) (fun k hk => by cases hk; have := HZ.out; omega)⟩
    refine (h2.mono (by have := HZ.out; omega)).grownOther hg4 ?_
    cases hv : o.ownBlock with
    | none => exact .inl rfl
    | some k => exact .inr fun e => by injection e with e; have := (h2.lt k hv).1; omega
end Go.Proofs.Ytemknajlmocfeaa
namespace Go.Proofs.Ytemknajlmocfeaa
set_option maxRecDepth 20000
open Go.RowKit Go.Shelf
theorem rows_in {n D : Nat} {P : Program} {row : String} {args : Array Value} {w : World} {R : Value → World → Prop} (h : Rows P row args w R) : RowsIn (Fence.wide.inRound D) n P row args w R := by
  intro c cs _
  obtain ⟨v, w', hr, hs⟩ := h c cs
  exact ⟨v, w', hr, stepsIn_wide.2 hs⟩
theorem oper_in {n D : Nat} {P : Program} {o : Oper} {a : Act} {w : World} {K : Act → World → Prop} {Q : Exit → Act → World → Prop} (hd : ∀ c, o.op ≠ .defer c) (h : o.wp P a w K Q) : o.wpIn (Fence.wide.inRound D) n P a w K Q := by
  refine ⟨fun _ _ => trivial, ?_⟩
  rw [Fence.inRound_round, Oper.semAt_some D a.eval o hd]
  unfold Oper.wp at h
  generalize (execOp a.eval o).run P w = r at h
  cases r with
  | ok x w' =>
    cases x with
    | value v => exact h
    | skip => exact h
    | defer d => exact h
    | enter f args => exact ⟨fun hh => by simp [Fence.wide] at hh, CallsIn.inRound D (callsIn_wide.2 h)⟩
    | row row args => exact ⟨fun hh => by simp [Fence.wide] at hh, rows_in h⟩
    | _ => exact h.elim
  | halt x w' =>
    cases x with
    | panic v => exact h
    | _ => exact h.elim
def noDefer (ops : Array Oper) : Bool := ops.all fun o => match o.op with | .defer _ => false | _ => true
theorem any_in {n D : Nat} {P : Program} {ops : Array Oper} {Q : Exit → Act → World → Prop} {md : Region.Mode} (hd : noDefer ops = true) (hQ : ¬ LetsOut Q) :
    ∀ (fuel : Nat) (listed : Array Bool) (a : Act) (w : World), wpAny P md ops Q fuel listed a w → wpAnyIn (Fence.wide.inRound D) n P md ops Q fuel listed a w
  | 0, _, _, _, h => h
  | fuel + 1, listed, a, w, h => by
    refine ⟨h.1, fun i hi => ?_⟩
    have h2 := h.2 i hi
    unfold wpOp at h2
    unfold wpOpIn
    cases ho : ops[i]? with
    | none => rw [ho] at h2; exact any_in hd hQ fuel _ _ _ h2
    | some o =>
      rw [ho] at h2
      have hod : ∀ c, o.op ≠ .defer c := by
        intro c e
        have := Array.all_eq_true'.1 hd o (Array.mem_of_getElem? ho)
        rw [e] at this
        cases this
      dsimp only at h2 ⊢
      split
      · rename_i hw
        rw [if_pos hw] at h2
        rcases h2 with h2 | h2
        · exact Oper.wpIn_mono (fun a w h => any_in hd hQ fuel _ _ _ h) (oper_in hod h2)
        · exact absurd h2.2 hQ
      · rename_i hw
        rw [if_neg hw] at h2
        exact ⟨fun _ _ => trivial, any_in hd hQ fuel _ _ _ h2⟩
theorem wp_region_round {n D : Nat} {P : Program} {ops : Array Oper} {Q : Exit → Act → World → Prop} {S : World → Prop} {id : Nat} {a : Act} {w : World} (l : List (Bool × Nat)) (hm : P.follows .mixedOrders = true) (hs : Region.noSelect ops = true)
    (hQ : ∀ (d : Tmp) (v : Value) c (a : Act) w, Q (.panic c) { a with tmps := a.tmps.setIfInBounds d v } w → Q (.panic c) a w) (hL : ¬ LetsOut Q) (hd : noDefer ops = true) (hlen : decide (l.length ≤ ops.size) = true)
    (hok : okSeq ops l (Array.replicate ops.size false) = true) (hS : S w.drew) (h : seqH P ops Q S l a w.drew) : (Code.region id ops true).wpIn (Fence.wide.inRound D) n P Q a w :=
  wpIn_region_any hm (any_in hd hL _ _ _ _ (wpAny_of_held _ _ _ _ (seqH_sound hs (fun d v c a w h => by cases d with | none => exact h | some d => exact hQ d v c a w h) l ops.size _ a w.drew (of_decide_eq_true hlen) hok hS h)))
/-- The same, and no panic: for drawn regions in a function that holds a range over a function. -/
def noPanic (Q : Exit → Act → World → Prop) : Exit → Act → World → Prop
  | .panic _, _, _ => False
  | e, a, w => Q e a w
theorem noPanic_imp {Q : Exit → Act → World → Prop} : ∀ e a w, noPanic Q e a w → Q e a w := by
  intro e a w h
  cases e <;> first | exact h | exact h.elim
end Go.Proofs.Ytemknajlmocfeaa
