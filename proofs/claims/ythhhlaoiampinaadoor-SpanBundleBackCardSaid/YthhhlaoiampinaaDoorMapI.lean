/- A map with numbers for keys, told by a function: what stands at each key, and how many there are. -/
import Derived.Test.YthhhlaoiampinaaDoorBase
import Derived.Maps.RangeWalk
import Derived.StringKeys
namespace Go.Proofs.YthhhlaoiampinaaDoor
set_option maxRecDepth 20000
open Go.RowKit
open Go.Maps (Keyed)
namespace MI
/-- Every value reads as itself. -/
def heldR (v : Value) : Option (DataW Value × List MemPlace) := some (.held v, [])
/-- A number as a key. -/
def kl (n : Int) : Lit := .int .i64 n
theorem kl_inj {s t : Int} (h : kl s = kl t) : s = t := by
  unfold kl at h
  injection h
theorem kl_ne {s t : Int} (h : s ≠ t) : kl s ≠ kl t := fun e => h (kl_inj e)
theorem kl_key (s : Int) : WideAt.IsKeyLit (kl s) := trivial
def fput (f : Int → Option Value) (k : Int) (v : Value) : Int → Option Value := fun x => if x = k then some v else f x
def fdel (f : Int → Option Value) (k : Int) : Int → Option Value := fun x => if x = k then none else f x
/-- Block b of w is a map in which f k stands at k; c keys have something. -/
def MapI (P : Program) (w : World) (kt : TypeId) (b : Nat) (f : Int → Option Value) (c : Nat) : Prop :=
  ∃ D, w.ownsMap P kt heldR b c D ∧ Maps.size D = c ∧ (∀ k z, D.atKey (kl k) z = (match f k with | some v => .held v | none => z)) ∧ ∀ k, Maps.has D (kl k) = (f k).isSome
section
variable {P : Program} {w w' : World} {kt : TypeId} {b c : Nat} {f : Int → Option Value}
theorem owns_size {H : Type} {R : Value → Option (DataW H × List MemPlace)} {n : Nat} {D : DataW H} (h : w.ownsMap P kt R b n D) : w.ownsMap P kt R b (Maps.size D) D := by
  obtain ⟨es, clock, hb, F, hs, rfl⟩ := h
  exact ⟨es, clock, hb, F, by simp [Maps.size, length_sorted], rfl⟩
theorem MapI.lt (h : MapI P w kt b f c) : b < w.heap.size := by
  obtain ⟨D, h, _⟩ := h; exact h.lt
theorem MapI.isMapObj (h : MapI P w kt b f c) : ∃ es clock, w.heap[b]? = some (.map es clock) := by
  obtain ⟨D, ⟨es, clock, hb, _⟩, _⟩ := h; exact ⟨es, clock, hb⟩
theorem MapI.ne_blk (h : MapI P w kt b f c) {g : Nat} {t : TypeId} {cs : Array Value} (hb : Blk w g t cs) : b ≠ g := by
  obtain ⟨es, clock, hm⟩ := h.isMapObj
  intro e
  subst e
  unfold Blk at hb
  rw [hm] at hb
  cases hb
theorem MapI.kept {row : Option Nat} (h : MapI P w kt b f c) (hg : w.grownBy w' row) (hne : some b ≠ row) : MapI P w' kt b f c := by
  obtain ⟨D, h, r⟩ := h; exact ⟨D, h.kept hg hne, r⟩
theorem MapI.alloc (h : MapI P w kt b f c) (o : Obj) : MapI P (w.alloc o) kt b f c := by
  obtain ⟨D, h, r⟩ := h; exact ⟨D, h.alloc o, r⟩
theorem MapI.drew (h : MapI P w kt b f c) : MapI P w.drew kt b f c := h
theorem MapI.drewN (h : MapI P w kt b f c) (n : Nat) : MapI P (w.drewN n) kt b f c := h
theorem MapI.below (h : MapI P w kt b f c) (hb : Below w.heap.size w w') : MapI P w' kt b f c :=
  h.kept (row := none) ⟨hb.os, hb.tape, hb.output, hb.size, fun k hk _ => hb.block k hk⟩ (by simp)
theorem MapI.setCell (h : MapI P w kt b f c) {g i : Nat} {t : TypeId} {cs : Array Value} (hb : Blk w g t cs) (u : Value) : MapI P (w.setCell ⟨g, i, none⟩ u) kt b f c := by
  have hne := h.ne_blk hb
  obtain ⟨D, h, r⟩ := h; exact ⟨D, h.setCell hne u, r⟩
theorem MapI.made (w : World) (P : Program) (kt : TypeId) : MapI P (w.alloc (.map #[] 0)) kt w.heap.size (fun _ => none) 0 :=
  ⟨_, World.ownsMap_made w P kt heldR, rfl, fun _ _ => rfl, fun _ => rfl⟩
theorem MapI.congr {g : Int → Option Value} {d : Nat} (h : MapI P w kt b f c) (hf : ∀ k, f k = g k) (hc : c = d) : MapI P w kt b g d := by
  subst hc
  obtain ⟨D, h, r1, r2, r3⟩ := h
  exact ⟨D, h, r1, fun k z => by rw [r2 k z, hf k], fun k => by rw [r3 k, hf k]⟩
variable {t e : TypeId}
theorem MapI.look (h : MapI P w kt b f c) (hk : P.underlying kt = some (.int .i64)) (ht : P.underlying t = some (.map kt e)) {z : Value} (hz : (zeroValue e).run P w = .ok z w) {k : Int} (hks : (Lit.int .i64 k).wf = true) :
    (Instr.lookup t (.map (some b)) (.int .i64 k) false).run P w = .ok ((f k).getD z) w := by
  obtain ⟨D, h, _, hat, _⟩ := h
  obtain ⟨v, ps, hrun, hv⟩ := h.lookup (Maps.int_keyed hk) ht hz (zd := .held z) (zp := []) rfl (Maps.keyOf_int_mk hk hks)
  have h1 : (DataW.held v : DataW Value) = D.atKey (kl k) (.held z) := by
    unfold heldR at hv
    injection hv with hv
    exact (Prod.mk.inj hv).1
  rw [hat] at h1
  rw [hrun]
  cases hf : f k with
  | none => rw [hf] at h1; injection h1 with h1; rw [h1]; rfl
  | some u => rw [hf] at h1; injection h1 with h1; rw [h1]; rfl
theorem MapI.look_ok (h : MapI P w kt b f c) (hk : P.underlying kt = some (.int .i64)) (ht : P.underlying t = some (.map kt e)) {z : Value} (hz : (zeroValue e).run P w = .ok z w) {k : Int} (hks : (Lit.int .i64 k).wf = true) :
    (Instr.lookup t (.map (some b)) (.int .i64 k) true).run P w = .ok (.tuple #[(f k).getD z, .bool (f k).isSome]) w := by
  obtain ⟨D, h, _, hat, hh⟩ := h
  obtain ⟨v, ps, hrun, hv⟩ := h.look_ok (Maps.int_keyed hk) ht hz (zd := .held z) (zp := []) rfl (Maps.keyOf_int_mk hk hks)
  have h1 : (DataW.held v : DataW Value) = D.atKey (kl k) (.held z) := by
    unfold heldR at hv
    injection hv with hv
    exact (Prod.mk.inj hv).1
  rw [hat] at h1
  rw [hrun, show Maps.has D (Lit.int .i64 k) = (f k).isSome from hh k]
  cases hf : f k with
  | none => rw [hf] at h1; injection h1 with h1; rw [h1]; rfl
  | some u => rw [hf] at h1; injection h1 with h1; rw [h1]; rfl
theorem MapI.len_ (h : MapI P w kt b f c) (ht : P.underlying t = some (.map kt e)) (ty : TypeId) : (Builtin.len_ #[t] ty #[.map (some b)]).run P w = .ok (.int .i64 (c : Int)) w := by
  obtain ⟨D, h, hc, _⟩ := h
  rw [h.len ht ty, hc]
theorem MapI.upd (h : MapI P w kt b f c) (hk : P.underlying kt = some (.int .i64)) (ht : P.underlying t = some (.map kt e)) {k : Int} (hks : (Lit.int .i64 k).wf = true) (v : Value) (hc : c < maxLen) :
    ∃ w', (Instr.mapUpdate t (.map (some b)) (.int .i64 k) v).run P w = .ok () w' ∧ MapI P w' kt b (fput f k v) (if (f k).isSome then c else c + 1) ∧ w.mapTurned w' b := by
  obtain ⟨D, h, hs, hat, hh⟩ := h
  obtain ⟨w', hrun, r1, r2⟩ := h.store (Maps.int_keyed hk) ht hc (Maps.keyOf_int_mk hk hks) (val := v) (d := .held v) (ps := []) rfl
  have hT := h.tidy (Maps.int_keyed hk)
  have hsz : Maps.size (D.put (kl k) (.held v)) = if (f k).isSome then c else c + 1 := by
    rw [Maps.size_put hT, hh k, hs]
  refine ⟨w', hrun, ⟨D.put (kl k) (.held v), hsz ▸ owns_size r1, hsz, fun x z => ?_, fun x => ?_⟩, r2⟩
  · unfold fput
    by_cases hx : x = k
    · subst hx
      rw [Maps.atKey_put_same hT.isMap (kl_key x), if_pos rfl]
    · rw [Maps.atKey_put_other (kl_ne hx), if_neg hx, hat]
  · unfold fput
    by_cases hx : x = k
    · subst hx
      rw [Maps.has_put_same hT.isMap (kl_key x), if_pos rfl]
      rfl
    · rw [Maps.has_put_other (kl_ne hx), if_neg hx, hh]
/-- 'm[k] = v' at the operation. -/
theorem wpList_upd {ops : Array Oper} {rest : List Oper} {o : Oper} {a : Act} {Q : Exit → Act → World → Prop} (hg : o.guard = none) (m x v : Operand) (hop : o.op = Op.mapUpdate t m x v)
    (hm : a.eval m = .map (some b)) (h : MapI P w kt b f c) (hk : P.underlying kt = some (.int .i64)) (ht : P.underlying t = some (.map kt e)) (k : Int) (u : Value) (hx : a.eval x = .int .i64 k) (hv : a.eval v = u) (hks : (Lit.int .i64 k).wf = true) (hc : c < maxLen)
    (hK : ∀ w', MapI P w' kt b (fput f k u) (if (f k).isSome then c else c + 1) → w.grownBy w' (some b) → wpList P ops Q rest (a.put o.dst undef) w') : wpList P ops Q (o :: rest) a w := by
  refine wpList_plain hg fun K' hK' => ?_
  obtain ⟨w', hrun, r1, r2⟩ := h.upd hk ht hks u hc
  unfold Oper.wp
  simp [execOp, hop, hm, hx, hv, hrun, Result.andThen]
  exact hK' _ _ (hK w' r1 r2.grown)
end
end MI
end Go.Proofs.YthhhlaoiampinaaDoor
