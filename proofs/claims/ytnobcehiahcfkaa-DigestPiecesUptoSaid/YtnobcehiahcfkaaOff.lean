/- Bytes of one's own that begin somewhere in their block (rest = rest[64:]), and a text appended to them. -/
import Derived.Test.YtnobcehiahcfkaaBytes
import Derived.Lib.AppendStr
import Derived.Laws.CopyRow
namespace Go.Proofs.Ytnobcehiahcfkaa
set_option maxRecDepth 20000
open Go.RowKit
/-- 'v' is a slice of the call's own (from block 'base' on) that holds the bytes l, wherever in its block it begins. -/
def OwnB (w : World) (base : Nat) (e : TypeId) (v : Value) (l : List UInt8) : Prop :=
  (v = .slice none 0 0 ∧ l = []) ∨ ∃ g off cap cur, v = .slice (some ⟨g, off, none⟩) l.length cap ∧ base ≤ g ∧ w.heap[g]? = some (.cells cur e (0, 0)) ∧ l.length ≤ cap ∧ off + cap ≤ maxLen ∧ cur.size = off + cap ∧ (cur.toList.drop off).take l.length = l.map bv
section
variable {P : Program} {w w' : World} {base : Nat} {e : TypeId} {v : Value} {l : List UInt8}
theorem OwnB.nil (w : World) (base : Nat) (e : TypeId) : OwnB w base e (.slice none 0 0) [] := .inl ⟨rfl, rfl⟩
theorem OwnB.of_owns (h : Owns w base e 1 eb v l) : OwnB w base e v l := by
  rcases h.2 with ⟨rfl, h0⟩ | ⟨g, cap, cur, hv, hb, hg, hn, hc, hs, ht⟩
  · exact .inl ⟨rfl, List.eq_nil_of_length_eq_zero h0⟩
  · refine .inr ⟨g, 0, cap, cur, hv, hb, hg, hn, by omega, by omega, ?_⟩
    rw [List.drop_zero, ← eb_map, ← ht, Nat.mul_one]
theorem OwnB.lt (h : OwnB w base e v l) : ∀ k, v.ownBlock = some k → base ≤ k ∧ k < w.heap.size := by
  intro k hk
  rcases h with ⟨rfl, _⟩ | ⟨g, off, cap, cur, rfl, hb, hg, _⟩
  · cases hk
  · simp only [Value.ownBlock, Option.some.injEq] at hk
    subst hk
    exact ⟨hb, (Array.getElem?_eq_some_iff.1 hg).1⟩
theorem OwnB.kept {row : Option Nat} (h : OwnB w base e v l) (hg : w.grownBy w' row) (hne : v.ownBlock = none ∨ v.ownBlock ≠ row) : OwnB w' base e v l := by
  have hlt := h.lt
  rcases h with h | ⟨g, off, cap, cur, rfl, hb, hh, rest⟩
  · exact .inl h
  · refine .inr ⟨g, off, cap, cur, rfl, hb, ?_, rest⟩
    rcases hne with hne | hne
    · cases hne
    · exact (hg.block g (hlt g rfl).2 hne).trans hh
theorem OwnB.drew (h : OwnB w base e v l) : OwnB w.drew base e v l := h
theorem OwnB.alloc (h : OwnB w base e v l) (o : Obj) : OwnB (w.alloc o) base e v l :=
  h.kept (World.grownBy_alloc w o none) (by cases hv : v.ownBlock with | none => exact .inl rfl | some k => exact .inr (by simp))
theorem OwnB.below (h : OwnB w base e v l) (hb : Below w.heap.size w w') : OwnB w' base e v l :=
  h.kept (row := none) ⟨hb.os, hb.tape, hb.output, hb.size, fun k hk _ => hb.block k hk⟩ (by cases hv : v.ownBlock with | none => exact .inl rfl | some k => exact .inr (by simp))
theorem OwnB.form (h : OwnB w base e v l) : (v = .slice none 0 0 ∧ l = []) ∨ ∃ g off cap, v = .slice (some ⟨g, off, none⟩) l.length cap ∧ l.length ≤ cap := by
  rcases h with h | ⟨g, off, cap, cur, hv, _, _, hn, _⟩
  · exact .inl h
  · exact .inr ⟨g, off, cap, hv, hn⟩
/-- The cells. -/
theorem OwnB.cells {g off n cap : Nat} (h : OwnB w base e (.slice (some ⟨g, off, none⟩) n cap) l) : ∀ j c, l[j]? = some c → w.cell? ⟨g, off + j, none⟩ = some (bv c) := by
  intro j c hj
  rcases h with ⟨h, _⟩ | ⟨g', off', cap', cur, hv, _, hh, hn, _, hs, ht⟩
  · cases h
  · obtain ⟨rfl, rfl⟩ : g = g' ∧ off = off' := by injection hv with h1; injection h1 with h1; injection h1 with h1 h2; exact ⟨h1, h2⟩
    have hjl := (List.getElem?_eq_some_iff.1 hj).1
    simp only [World.cell?, hh]
    have := congrArg (fun l => l[j]?) ht
    simp only [List.getElem?_take, hjl, if_true, List.getElem?_drop, List.getElem?_map, hj, Option.map_some] at this
    simpa using this
/-- The bytes from the k-th on. -/
theorem OwnB.drop {g off n cap : Nat} (h : OwnB w base e (.slice (some ⟨g, off, none⟩) n cap) l) {k : Nat} (hk : k ≤ l.length) : OwnB w base e (.slice (some ⟨g, off + k, none⟩) (n - k) (cap - k)) (l.drop k) := by
  rcases h with ⟨h, _⟩ | ⟨g', off', cap', cur, hv, hb, hh, hn, hc, hs, ht⟩
  · cases h
  · obtain ⟨rfl, rfl, rfl, rfl⟩ : g = g' ∧ off = off' ∧ n = l.length ∧ cap = cap' := by injection hv with h1 h2 h3; injection h1 with h1; injection h1 with h1 h4; exact ⟨h1, h4, h2, h3⟩
    refine .inr ⟨g, off + k, cap - k, cur, by rw [List.length_drop], hb, hh, by rw [List.length_drop]; omega, by omega, by omega, ?_⟩
    rw [List.length_drop, List.map_drop, ← ht, List.drop_take, List.drop_drop]
/-- A block beside what has grown. -/
theorem Blk.keptO {w w1 : World} {g : Nat} {t : TypeId} {cs : Array Value} {v : Value} (h : Blk w g t cs) (hg : w.grownBy w1 v.ownBlock) (hne : v.ownBlock = none ∨ v.ownBlock ≠ some g) : Blk w1 g t cs :=
  (hg.block g h.lt (by rcases hne with h | h; · rw [h]; simp
                       · exact fun e => h e.symm)).trans h
theorem run_append_text_off (t u ty : TypeId) (ht : P.underlying t = some (.slice e)) (hu : P.underlying u = some .string) (hie : ElemInfo P e (.int .u8 0) 1 1) (hown : OwnB w base e v l) (s : ByteArray)
    (hb : l.length + s.size ≤ 140737488355328) (hbase : base ≤ w.heap.size) :
    ∃ v' w', (Builtin.append_ #[t, u] ty #[v, .string s]).run P w = .ok v' w' ∧ OwnB w' base e v' (l ++ sl s) ∧ w.grownBy w' v.ownBlock := by
  obtain ⟨i, hi, hz, hsize, hby⟩ := info_parts hie
  rcases hown with ⟨rfl, rfl⟩ | ⟨g, off, cap, cur, rfl, hbg, hg, hnc, hcm, hcs, htake⟩
  · obtain ⟨v', w', hr, h2, h3, _⟩ := Lib.run_append_own_string (P := P) w base t u ty e i ht hu hi hz hsize hby (.slice none 0 0) 0 [] (World.ownsRow_nil w base e 1) s (by simp only [maxLen]; simp at hb; omega) (by simpa using hb) hbase
    refine ⟨v', w', hr, OwnB.of_owns (?_ : Owns w' base e 1 eb v' ([] ++ sl s)), h3⟩
    unfold Owns
    rw [List.nil_append, sl_len, ← strCells_eb]
    simpa using h2
  · have hsc : Lib.strCells s = (sl s).map bv := by rw [strCells_eb, eb_map]
    by_cases hroom : l.length + s.size ≤ cap
    · have hf := Lib.run_firstCells_string (P := P) w 1 s
      have hst := run_storeCells_at P g (off + l.length) e (Lib.strCells s) 0 cur w hg (by rw [Lib.strCells_length]; omega) (Lib.strCells_oneCell s)
      simp only [Nat.add_zero, Lib.strCells_length] at hst
      have hr : (Builtin.append_ #[t, u] ty #[.slice (some ⟨g, off, none⟩) l.length cap, .string s]).run P w =
          .ok (.slice (some ⟨g, off, none⟩) (l.length + s.size) cap) (w.setRow g (cur.toList.take (off + l.length) ++ Lib.strCells s ++ cur.toList.drop (off + l.length + s.size)).toArray) := by
        simp [Builtin.append_, run_underlying ht, run_underlying hu, sizeOf, typeInfo, hi, hsize, Builtin.lenOf, hroom, hf, Addr.add_lit, hst]
      refine ⟨_, _, hr, .inr ⟨g, off, cap, _, by rw [List.length_append, sl_len], hbg, setRow_heap w g cur _ e _ hg, by rw [List.length_append, sl_len]; exact hroom, hcm, ?_, ?_⟩, ⟨rfl, rfl, rfl, by simp, fun k _ hk => setRow_other w g k _ (fun e => hk (by simp [Value.ownBlock, e]))⟩⟩
      · simp only [List.size_toArray, List.length_append, List.length_take, List.length_drop, Array.length_toList, Lib.strCells_length]
        omega
      · have h1 : (cur.toList.take (off + l.length)).length = off + l.length := by
          rw [List.length_take, show cur.toList.length = cur.size from Array.length_toList]
          exact Nat.min_eq_left (by rw [hcs]; exact Nat.add_le_add_left hnc _)
        simp only [List.append_assoc]
        rw [List.drop_append_of_le_length (l₁ := cur.toList.take (off + l.length)) (by rw [h1]; omega), List.drop_take, show off + l.length - off = l.length by omega, htake, hsc, ← List.append_assoc, ← List.map_append, List.take_left' (by rw [List.length_map])]
    · have holds : ∀ j u, (l.map bv)[j]? = some u → w.cell? ((⟨g, off, none⟩ : Addr).add j) = some u := by
        intro j u hj
        rw [List.getElem?_map] at hj
        cases hc : l[j]? with
        | none => rw [hc] at hj; cases hj
        | some c =>
          rw [hc] at hj
          cases hj
          rw [Addr.add_lit]
          exact OwnB.cells (.inr ⟨g, off, cap, cur, rfl, hbg, hg, hnc, hcm, hcs, htake⟩ : OwnB w base e _ l) j c hc
      have hr := Lib.run_append_grow_string (P := P) w t u ty e i (.int .u8 0) ht hu hi hz ⟨g, off, none⟩ l.length cap (l.map bv) (by rw [hsize]; simp) holds s (by omega) (by omega) (by rw [hby]; exact growslice_fits (by omega) (by omega))
      have hge := grownCap_ge w (l.length + s.size) cap e
      have hcm' : grownCap w (l.length + s.size) cap e ≤ maxLen := grownCap_le_maxLen w (l.length + s.size) cap e (by simp only [maxLen]; omega)
      refine ⟨_, _, hr, .inr ⟨w.heap.size, 0, _, _, by rw [List.length_append, sl_len], hbase, heap_alloc_new w.drew _, by rw [List.length_append, sl_len]; exact hge, by omega, ?_, ?_⟩, ⟨rfl, rfl, rfl, by simp, fun k hk _ => Below.heap_alloc w.drew _ k hk⟩⟩
      · have hz1 : (Value.int IntKind.u8 0).cells.size = 1 := rfl
        simp only [Array.size_append, List.size_toArray, size_zeroCells, hz1, Lib.strCells_length, List.length_map]
        omega
      · simp only [Array.toList_append, List.append_assoc, List.drop_zero]
        rw [← List.append_assoc, hsc, ← List.map_append, List.take_left' (by rw [List.length_map])]
theorem wpList_append_text_off {ops : Array Oper} {rest : List Oper} {o : Oper} {a : Act} {Q : Exit → Act → World → Prop} (hgd : o.guard = none) (x y : Operand) (t u : TypeId)
    (ho : o.op = .call { callee := .builtin .append, args := #[x, y], argTypes := #[t, u] })
    (base : Nat) (e : TypeId) (ht : P.underlying t = some (.slice e)) (hu : P.underlying u = some .string) (hi : ElemInfo P e (.int .u8 0) 1 1)
    (v : Value) (l : List UInt8) (hs : a.eval x = v) (hown : OwnB w base e v l) (s : ByteArray) (hx : a.eval y = .string s)
    (hb : l.length + s.size ≤ 140737488355328) (hbase : base ≤ w.heap.size)
    (h : ∀ v' w', OwnB w' base e v' (l ++ sl s) → w.grownBy w' v.ownBlock → wpList P ops Q rest (a.put o.dst v') w') : wpList P ops Q (o :: rest) a w := by
  refine wpList_plain hgd fun K hK => ?_
  obtain ⟨v', w', hr, h2, h3⟩ := run_append_text_off (P := P) t u o.type ht hu hi hown s hb hbase
  unfold Oper.wp execOp
  simp only [ho, resolve, invoke, builtin, Sem.run_bind, Sem.run_pure, Result.andThen_ok, List.map_toArray, List.map_cons, List.map_nil, hs, hx, hr]
  exact hK _ _ (h v' w' h2 h3)
end
/-- Cells of one block written one behind the other. -/
def setsW (w : World) (p : Nat) : Nat → List Value → World
  | _, [] => w
  | i, x :: xs => setsW (w.setCell ⟨p, i, none⟩ x) p (i + 1) xs
theorem OwnB.ne_blk {w : World} {base g : Nat} {e t : TypeId} {v : Value} {l : List UInt8} {cs : Array Value} (h : OwnB w base e v l) (hb : Blk w g t cs) (he : e ≠ t) : v.ownBlock = none ∨ v.ownBlock ≠ some g := by
  rcases h with ⟨rfl, _⟩ | ⟨g', off, cap, cur, rfl, _, hh, _⟩
  · exact .inl rfl
  · refine .inr fun e' => ?_
    simp only [Value.ownBlock, Option.some.injEq] at e'
    subst e'
    unfold Blk at hb
    rw [hh] at hb
    injection hb with hb
    injection hb with _ h2
    exact he h2
theorem OwnB.set_ {w : World} {base g : Nat} {e t : TypeId} {v : Value} {l : List UInt8} {cs : Array Value} (h : OwnB w base e v l) (hb : Blk w g t cs) (he : e ≠ t) (i : Nat) (u : Value) : OwnB (w.setCell ⟨g, i, none⟩ u) base e v l :=
  h.kept (row := some g) ⟨rfl, rfl, rfl, by simp [World.setCell], fun k _ hne => Below.heap_setCell _ _ _ _ (fun e => hne (by rw [e]))⟩ (h.ne_blk hb he)
theorem OwnB.sets {base g : Nat} {e t : TypeId} {v : Value} {l : List UInt8} (he : e ≠ t) : ∀ (xs : List Value) (i : Nat) (w : World) (cs : Array Value), Blk w g t cs → OwnB w base e v l → OwnB (setsW w g i xs) base e v l
  | [], _, _, _, _, h => h
  | x :: xs, i, w, cs, hb, h => OwnB.sets he xs (i + 1) _ _ (hb.set_ i x) (h.set_ hb he i x)
theorem below_sets {B g : Nat} {a : World} (hB : B ≤ g) : ∀ (xs : List Value) (i : Nat) (w : World), Below B a w → Below B a (setsW w g i xs)
  | [], _, _, h => h
  | x :: xs, i, _, h => below_sets hB xs (i + 1) _ (h.setCell (p := ⟨g, i, none⟩) hB x)
end Go.Proofs.Ytnobcehiahcfkaa
