/- Rows of structs of two cells: a list that is read, one that is the call's own; an element stored, a rest cleared, a prefix taken. -/
import Derived.Test.YthhhlaoiampinaaDoorChecked
import Derived.Test.YthhhlaoiampinaaDoorBase
import Derived.Deep.RegionHeld
import Derived.Laws.CopyRow
namespace Go.Proofs.YthhhlaoiampinaaDoor
open Go.RowKit
theorem flat2 {α : Type} {en : α → List Value} (hen : ∀ x, (en x).length = 2) : ∀ (xs : List α) (k i : Nat) (x : α) (u : Value), xs[k]? = some x → i < 2 → (en x)[i]? = some u → (xs.flatMap en)[k * 2 + i]? = some u
  | [], k, i, x, u, h, _, _ => by simp at h
  | y :: ys, 0, i, x, u, h, hi, hu => by
    simp at h; subst h
    rw [List.flatMap_cons, Nat.zero_mul, Nat.zero_add, List.getElem?_append_left (by rw [hen]; exact hi)]; exact hu
  | y :: ys, k + 1, i, x, u, h, hi, hu => by
    rw [List.flatMap_cons, List.getElem?_append_right (by rw [hen]; omega), hen, show (k + 1) * 2 + i - 2 = k * 2 + i from by omega]
    exact flat2 hen ys k i x u (by simpa using h) hi hu
/-- The cells of an element of a list that is read, of two cells. -/
theorem SlR.two {α : Type} {en : α → List Value} {w : World} {v : Value} {xs : List α} (hen : ∀ x, (en x).length = 2) (h : SlR w en v xs) (hn : 0 < xs.length) :
    ∃ b off c, v = .slice (some ⟨b, off, none⟩) xs.length c ∧ b < w.heap.size ∧ ∀ k (hk : k < xs.length) (u0 u1 : Value), (en xs[k])[0]? = some u0 → (en xs[k])[1]? = some u1 → w.cell? ⟨b, off + k * 2, none⟩ = some u0 ∧ w.cell? ⟨b, off + k * 2 + 1, none⟩ = some u1 := by
  obtain ⟨A, c, hv, hc, hx⟩ := h
  obtain ⟨b, off, rfl, hb, hcell⟩ := hx hn
  exact ⟨b, off, c, hv, hb, fun k hk u0 u1 h0 h1 => ⟨hcell (k * 2 + 0) u0 (flat2 hen xs k 0 _ u0 (List.getElem?_eq_getElem hk) (by omega) h0), hcell (k * 2 + 1) u1 (flat2 hen xs k 1 _ u1 (List.getElem?_eq_getElem hk) (by omega) h1)⟩⟩
section
variable {α : Type} {w : World} {base : Nat} {e : TypeId} {en : α → List Value} {g cap n : Nat} {xs : List α}
/-- What one's own row with a block is. -/
theorem Owns.row {size : Nat} (h : Owns w base e size en (.slice (some ⟨g, 0, none⟩) n cap) xs) : base ≤ g ∧ n = xs.length ∧ n ≤ cap ∧ cap ≤ maxLen ∧ ∃ cur, Blk w g e cur ∧ cur.size = cap * size ∧ cur.toList.take (n * size) = xs.flatMap en := by
  obtain ⟨h1, h2⟩ := h
  rcases h2 with ⟨h3, _⟩ | ⟨g', cap', cur, hv, hb, hh, hn, hm, hs, ht⟩
  · cases h3
  · injection hv with e1 e2 e3
    injection e1 with e1
    injection e1 with e1
    subst e1 e2 e3
    exact ⟨hb, rfl, hn, hm, cur, hh, hs, ht⟩
theorem Owns.of_row {size : Nat} {cur : Array Value} (hen : ∀ x, (en x).length = size) (hb : base ≤ g) (hn : xs.length ≤ cap) (hm : cap ≤ maxLen) (hh : Blk w g e cur) (hs : cur.size = cap * size) (ht : cur.toList.take (xs.length * size) = xs.flatMap en) :
    Owns w base e size en (.slice (some ⟨g, 0, none⟩) xs.length cap) xs :=
  ⟨flat_len hen xs, .inr ⟨g, cap, cur, rfl, hb, hh, hn, hm, hs, ht⟩⟩
/-- The first k elements. -/
theorem Owns.pre {size : Nat} (hen : ∀ x, (en x).length = size) (h : Owns w base e size en (.slice (some ⟨g, 0, none⟩) n cap) xs) (k : Nat) (hk : k ≤ xs.length) : Owns w base e size en (.slice (some ⟨g, 0, none⟩) k cap) (xs.take k) := by
  obtain ⟨hb, rfl, hn, hm, cur, hh, hs, ht⟩ := h.row
  have hl : (xs.take k).length = k := by simp; omega
  have := Owns.of_row (w := w) (e := e) (xs := xs.take k) (cap := cap) hen hb (by omega) hm hh hs (by
    have h1 : cur.toList.take (k * size) = (xs.flatMap en).take (k * size) := by
      rw [← ht, List.take_take, Nat.min_eq_left (Nat.mul_le_mul_right _ hk)]
    rw [hl, h1]
    conv => lhs; rw [← List.take_append_drop k xs, List.flatMap_append]
    rw [List.take_append_of_le_length (by rw [flat_len hen, hl]; exact Nat.le_refl _), List.take_of_length_le (by rw [flat_len hen, hl]; exact Nat.le_refl _)])
  rwa [hl] at this
theorem flat2_set (hen : ∀ x, (en x).length = 2) : ∀ (xs : List α) (i : Nat) (x : α) (u0 u1 : Value), en x = [u0, u1] → i < xs.length → ((xs.flatMap en).set (i * 2) u0).set (i * 2 + 1) u1 = (xs.set i x).flatMap en
  | [], i, x, u0, u1, _, h => by simp at h
  | y :: ys, 0, x, u0, u1, hx, _ => by
    have hy := hen y
    obtain ⟨a, b, hab⟩ : ∃ a b, en y = [a, b] := by
      match hq : en y, hy with
      | [a, b], _ => exact ⟨a, b, rfl⟩
    simp [List.flatMap_cons, hab, hx]
  | y :: ys, i + 1, x, u0, u1, hx, h => by
    have hy := hen y
    obtain ⟨a, b, hab⟩ : ∃ a b, en y = [a, b] := by
      match hq : en y, hy with
      | [a, b], _ => exact ⟨a, b, rfl⟩
    have := flat2_set hen ys i x u0 u1 hx (by simpa using h)
    rw [show (i + 1) * 2 = i * 2 + 1 + 1 from by omega]
    simp only [List.flatMap_cons, hab, List.cons_append, List.nil_append, List.set_cons_succ, this]
/-- An element stored. -/
theorem Owns.put2 (hen : ∀ x, (en x).length = 2) (h : Owns w base e 2 en (.slice (some ⟨g, 0, none⟩) n cap) xs) (i : Nat) (hi : i < xs.length) (x : α) (u0 u1 : Value) (hx : en x = [u0, u1]) :
    Owns ((w.setCell ⟨g, i * 2, none⟩ u0).setCell ⟨g, i * 2 + 1, none⟩ u1) base e 2 en (.slice (some ⟨g, 0, none⟩) n cap) (xs.set i x) := by
  obtain ⟨hb, rfl, hn, hm, cur, hh, hs, ht⟩ := h.row
  have := Owns.of_row (w := (w.setCell ⟨g, i * 2, none⟩ u0).setCell ⟨g, i * 2 + 1, none⟩ u1) (e := e) (xs := xs.set i x) (cap := cap) hen hb (by rw [List.length_set]; exact hn) hm ((hh.set_ (i * 2) u0).set_ (i * 2 + 1) u1) (by simpa using hs) (by
    rw [← flat2_set hen xs i x u0 u1 hx hi, ← ht]
    simp only [Array.toList_setIfInBounds, List.length_set]
    rw [List.take_set, List.take_set])
  rwa [List.length_set] at this
theorem zeroCells_get (zc : Array Value) (n : Nat) : (Builtin.zeroCells zc n).size = n * zc.size ∧ ∀ v ∈ (Builtin.zeroCells zc n).toList, 0 < zc.size → v ∈ zc.toList := by
  refine ⟨by simp [Builtin.zeroCells], fun v hv h0 => ?_⟩
  simp only [Builtin.zeroCells, Array.toList_map, List.mem_map] at hv
  obtain ⟨i, _, rfl⟩ := hv
  have hlt : i % zc.size < zc.size := Nat.mod_lt _ h0
  rw [getElem!_pos zc (i % zc.size) hlt]
  simp
/-- clear of the rest of one's own row. -/
theorem wpList_clear_owns {P : Program} {size : Nat} {ops : Array Oper} {rest : List Oper} {o : Oper} {a : Act} {Q : Exit → Act → World → Prop} (hgd : o.guard = none) (x : Operand) (t : TypeId)
    (ho : o.op = .call { callee := .builtin .clear, args := #[x], argTypes := #[t] }) (z : Value) (ht : P.underlying t = some (.slice e)) (hv : ∀ w, (zeroValue e).run P w = .ok z w) (hz : z.cells.size = size) (h0 : 0 < size) (h1 : ∀ v ∈ z.cells.toList, v.oneCell' = true)
    (hen : ∀ y, (en y).length = size) (hown : Owns w base e size en (.slice (some ⟨g, 0, none⟩) n cap) xs) (k m c : Nat) (hk : k + m = xs.length) (hx : a.eval x = .slice (some ⟨g, k * size, none⟩) m c)
    (h : ∀ w', Owns w' base e size en (.slice (some ⟨g, 0, none⟩) k cap) (xs.take k) → w.grownBy w' (some g) → wpList P ops Q rest (a.put o.dst (.tuple #[])) w') : wpList P ops Q (o :: rest) a w := by
  refine wpList_plain hgd fun K hK => ?_
  obtain ⟨hb, rfl, hn, hm, cur, hh, hs, hcur⟩ := hown.row
  obtain ⟨hzs, hz1⟩ := zeroCells_get z.cells m
  have hrun : ∃ w', (Builtin.clear_ #[t] o.type #[.slice (some ⟨g, k * size, none⟩) m c]).run P w = .ok (.tuple #[]) w' ∧ Owns w' base e size en (.slice (some ⟨g, 0, none⟩) k cap) (xs.take k) ∧ w.grownBy w' (some g) := by
    rcases Nat.eq_zero_or_pos m with rfl | hm0
    · refine ⟨w, by simp [Builtin.clear_, run_underlying ht], ?_, World.grownBy.refl w _⟩
      exact hown.pre hen k (by omega)
    · have hlen : k * size + m * size ≤ cur.size := by rw [hs, ← Nat.add_mul]; exact Nat.mul_le_mul_right _ (by omega)
      have hst := run_storeCells_at (P := P) g (k * size) e (Builtin.zeroCells z.cells m).toList 0 cur w hh (by simp only [Array.length_toList, hzs, hz]; omega) (fun v hv => h1 v (hz1 v hv (by omega)))
      refine ⟨w.setRow g (cur.toList.take (k * size + 0) ++ (Builtin.zeroCells z.cells m).toList ++ cur.toList.drop (k * size + 0 + (Builtin.zeroCells z.cells m).toList.length)).toArray, ?_, ?_, ?_⟩
      · obtain ⟨m', rfl⟩ : ∃ m', m = m' + 1 := ⟨m - 1, by omega⟩
        simp only [Builtin.clear_, List.getElem?_toArray, List.getElem?_cons_zero, Sem.run_bind, Sem.run_pure, Result.andThen_ok, run_underlying ht, hv, hst]
      · have hl : (xs.take k).length = k := by simp; omega
        have := Owns.of_row (w := w.setRow g (cur.toList.take (k * size + 0) ++ (Builtin.zeroCells z.cells m).toList ++ cur.toList.drop (k * size + 0 + (Builtin.zeroCells z.cells m).toList.length)).toArray) (e := e) (xs := xs.take k) (cap := cap) hen hb (by omega) hm (setRow_heap w g cur _ e (0, 0) hh) (by
            simp only [List.size_toArray, List.length_append, List.length_take, List.length_drop, Array.length_toList, hzs, hz]; omega) (by
            rw [hl]
            simp only [Nat.add_zero, List.append_assoc]
            have hpre := hown.pre hen k (by omega)
            obtain ⟨_, _, _, _, cur2, hh2, _, hcur2⟩ := hpre.row
            obtain rfl : cur2 = cur := by
              have := hh2.symm.trans hh
              injection this with this; injection this
            rw [List.take_append_of_le_length (by simp only [List.length_take, Array.length_toList]; omega), List.take_take, Nat.min_self, hcur2])
        rwa [hl] at this
      · exact ⟨rfl, rfl, rfl, by simp [World.setRow], fun j _ hj => setRow_other w g j _ (fun e => hj (by rw [e]))⟩
  obtain ⟨w', hr, h2, h3⟩ := hrun
  unfold Oper.wp execOp
  simp only [ho, resolve, invoke, builtin, Sem.run_bind, Sem.run_pure, Result.andThen_ok, List.map_toArray, List.map_cons, List.map_nil, hx, hr]
  exact hK _ _ (h w' h2 h3)
end
/-- A block of another type is not the row's. -/
theorem Owns.ne_blk {α : Type} {w : World} {base : Nat} {e t : TypeId} {size g : Nat} {en : α → List Value} {v : Value} {xs : List α} {cs : Array Value} (h : Owns w base e size en v xs) (hb : Blk w g t cs) (ht : t ≠ e) : v.ownBlock ≠ some g := by
  intro hv
  rcases h.form with ⟨rfl, _⟩ | ⟨g', cc, rfl⟩
  · cases hv
  · obtain rfl : g' = g := by simpa [Value.ownBlock] using hv
    obtain ⟨_, _, _, _, cur, hh, _, _⟩ := h.row
    have := hh.symm.trans hb
    injection this with this
    injection this with _ h2
    exact ht h2.symm
/-- A store into another block. -/
theorem Owns.setFar {α : Type} {w : World} {base : Nat} {e : TypeId} {size : Nat} {en : α → List Value} {v : Value} {xs : List α} (h : Owns w base e size en v xs) (p : Addr) (u : Value) (hne : v.ownBlock ≠ some p.block) : Owns (w.setCell p u) base e size en v xs := by
  refine World.ownsRow.kept h (row := some p.block) ⟨rfl, rfl, rfl, by simp, fun k hk hr => Below.heap_setCell w p u k (fun e => hr (by rw [e]))⟩ ?_
  cases hv : v.ownBlock with
  | none => exact .inl rfl
  | some k => exact .inr (by rw [← hv]; exact hne)
end Go.Proofs.YthhhlaoiampinaaDoor
