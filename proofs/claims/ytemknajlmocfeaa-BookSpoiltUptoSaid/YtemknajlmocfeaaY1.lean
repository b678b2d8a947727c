/- strings.Builder of a call's own: what copyCheck and WriteString leave, on lists of bytes; String. -/
import Derived.Test.YtemknajlmocfeaaY0
import Derived.Laws.Externs
import Derived.Lib.UnsafeStr
import Derived.Maps.RangeWalk
import Derived.StringKeys
import Derived.Laws.Tables
import Derived.OrdersHeld
import Derived.Below
import Derived.Deep.RegionWith
namespace Go.Proofs.Ytemknajlmocfeaa
open Go.RowKit
/-- The builder in block b holds these bytes. -/
abbrev Bld (B b : Nat) (l : List UInt8) (w : World) : Prop := Lib.IsBuilder 128 5 B b (Lib.byteCells l) w
abbrev BX : Go.Proofs.Builder.Extra Try.prog Try.lays169_ren := Try.Builder_Extra_169
theorem bx_size : (Try.prog.info? 128).map (·.size) = some 2 := by kernel_rfl
theorem bx_lies : liesAt Try.prog Try.prog.depth 128 (2 / Try.prog.cellsOf 128) 0 128 1 = true := by kernel_rfl
set_option maxRecDepth 100000 in
theorem copyCheck_used (b : Nat) (w : World) (h0 : w.cell? ⟨b, 0, none⟩ = some (.pointer (some ⟨b, 0, none⟩))) :
    Calls Try.prog 118 #[.pointer (some ⟨b, 0, none⟩)] w fun e w' => e = .returned (.tuple #[]) ∧ w' = w := by
  obtain ⟨j, hj, _⟩ := Option.map_eq_some_iff.1 bx_size
  go_enter Try.func118, Try.ntmps118
  go_wp2
  rw [Lib.run_neq_ptr_same w _ Try.underlying126 hj]
  go_wp2
  go_end0
  exact ⟨rfl, rfl⟩
set_option maxHeartbeats 1000000 in
set_option maxRecDepth 100000 in
theorem copyCheck_fresh (b : Nat) (w : World) (h0 : w.cell? ⟨b, 0, none⟩ = some (.pointer none)) (hsh : w.shape? b = some (128, 2)) (hfz : w.frozen? ⟨b, 0, none⟩ = false) :
    Calls Try.prog 118 #[.pointer (some ⟨b, 0, none⟩)] w fun e w' => e = .returned (.tuple #[]) ∧ w' = w.setCell ⟨b, 0, none⟩ (.pointer (some ⟨b, 0, none⟩)) := by
  obtain ⟨j, hj, hjs⟩ := Option.map_eq_some_iff.1 bx_size
  go_enter Try.func118, Try.ntmps118
  go_wp2
  rw [Lib.run_to_unsafe w ⟨b, 0, none⟩ Try.underlying126 Try.underlying198 hj (by rw [hjs]; decide) hsh (Nat.zero_lt_succ 1)]
  simp only [Result.andThen]
  rw [Oper.upon_value]
  go_wp2
  rw [run_callFunc_extern Try.func134 (by kernel_rfl) (by kernel_rfl) (by kernel_rfl) (e := Extern.AbiNoEscape.same) (by kernel_rfl)]
  rw [Lib.run_noEscape]
  simp only [Result.andThen]
  rw [Oper.upon_value]
  go_wp2
  rw [Lib.run_from_unsafe w ⟨b, 0, none⟩ Try.underlying198 Try.underlying126 hj hsh bx_lies]
  simp only [Result.andThen]
  rw [Oper.upon_value]
  go_wp2
  go_end0
  exact ⟨rfl, rfl⟩
theorem copyCheck_any (B b : Nat) (l : List UInt8) (w : World) (h : Bld B b l w) :
    Calls Try.prog 118 #[.pointer (some ⟨b, 0, none⟩)] w fun e w' => e = .returned (.tuple #[]) ∧ Lib.BuilderAt 128 5 B b (.pointer (some ⟨b, 0, none⟩)) (Lib.byteCells l) w' ∧ Below B w w' := by
  rcases h with h | h
  · refine (copyCheck_fresh b w h.cell0 h.shape h.frozen0).mono ?_
    rintro e w' ⟨rfl, rfl⟩
    exact ⟨rfl, h.used _, (Below.refl B w).setCell (p := ⟨b, 0, none⟩) h.1 _⟩
  · refine (copyCheck_used b w h.cell0).mono ?_
    rintro e w' ⟨rfl, rfl⟩
    exact ⟨rfl, h, Below.refl B _⟩
theorem byteCells_eb (l : List UInt8) : Lib.byteCells l = l.flatMap eb := by rw [eb_map]; rfl
theorem byteCells_len (l : List UInt8) : (Lib.byteCells l).length = l.length := by rw [byteCells_eb, eb_len]; omega
set_option maxHeartbeats 1000000 in
set_option maxRecDepth 100000 in
theorem writeString_any (B b : Nat) (l : List UInt8) (s : ByteArray) (w : World) (h : Bld B b l w) (hlen : l.length + s.size ≤ 140737488355328) (hBw : B ≤ w.heap.size) :
    Calls Try.prog 93 #[.pointer (some ⟨b, 0, none⟩), .string s] w fun e w' => e = .returned (.tuple #[.int .i64 s.size, .nilIface]) ∧ Bld B b (l ++ sl s) w' ∧ Below B w w' := by
  go_enter Try.func93, Try.ntmps93
  go_wp2_with fail
  refine (copyCheck_any B b l _ h).mono ?_
  rintro e w1 ⟨rfl, h1, hb1⟩
  obtain ⟨hB, v, hbk, hown, hne⟩ := h1
  have hO : Owns w1 B 5 1 eb v l := by unfold Owns; rw [← byteCells_eb, ← byteCells_len]; exact hown
  clear hown
  have c0 : w1.cell? ⟨b, 0, none⟩ = some (.pointer (some ⟨b, 0, none⟩)) := by rw [Lib.cell_of_heap hbk]; rfl
  have c1 : w1.cell? ⟨b, 1, none⟩ = some v := by rw [Lib.cell_of_heap hbk]; rfl
  have HO := Lib.hid hO
  have HK := Lib.hid hbk
  have hlt : b < w1.heap.size := Blk.lt hbk
  clear hO hbk
  go_wp2_with (at_builtin; go_must (refine wpList_append_text rfl (.tmp 12) (.tmp 13) _ _ rfl B 5 Try.underlying83 Try.underlying9 byteInfo _ l rfl HO.out s rfl hlen (by have := hb1.size; omega) ?_))
  intro v' w2 hown' hgrow
  have hb2 : w2.heap[b]? = some (.cells #[.pointer (some ⟨b, 0, none⟩), v] 128 (0, 0)) := by
    rw [hgrow.block b hlt (fun e => hne e.symm)]
    exact HK.out
  have d0 : w2.cell? ⟨b, 0, none⟩ = some (.pointer (some ⟨b, 0, none⟩)) := by rw [Lib.cell_of_heap hb2]; rfl
  have d1 : w2.cell? ⟨b, 1, none⟩ = some v := by rw [Lib.cell_of_heap hb2]; rfl
  have f1 : w2.frozen? ⟨b, 1, none⟩ = false := Lib.frozen_of_heap hb2 1
  obtain ⟨ao, n', cap, rfl⟩ : ∃ ao n' cap, v' = .slice ao n' cap := by
    rcases hown'.form with ⟨hv, _⟩ | ⟨g, cap, hv⟩
    · exact ⟨_, _, _, hv⟩
    · exact ⟨_, _, _, hv⟩
  have H2 := Lib.hid hb2
  clear hb2
  go_wp2
  go_ret2
  have ho : w2.ownsRow B 5 1 (.slice ao n' cap) (Lib.byteCells (l ++ sl s)).length (Lib.byteCells (l ++ sl s)) := by rw [byteCells_len, byteCells_eb]; exact hown'
  exact ⟨rfl, .inr (Lib.BuilderAt.put (T := 128) (e := 5) hB H2.out (bs' := Lib.byteCells (l ++ sl s)) ho (by decide)), (hb1.grown hgrow (by have := hb1.size; omega) (fun k hk => (HO.out.lt k hk).1)).setCell (p := ⟨b, 1, none⟩) hB _⟩
theorem Bld.below {B b : Nat} {l : List UInt8} {w w' : World} (h : Bld B b l w) (hb : Below w.heap.size w w') : Bld B b l w' := by
  have key : ∀ p, Lib.BuilderAt 128 5 B b p (Lib.byteCells l) w → Lib.BuilderAt 128 5 B b p (Lib.byteCells l) w' := by
    rintro p ⟨hB, v, hk, ho, hne⟩
    have ho' : Owns w B 5 1 eb v l := by unfold Owns; rw [← byteCells_eb, ← byteCells_len]; exact ho
    have ho2 := ho'.below hb
    unfold Owns at ho2; rw [← byteCells_eb, ← byteCells_len] at ho2
    exact ⟨hB, v, (hb.block b (Blk.lt hk)).trans hk, ho2, hne⟩
  exact h.elim (fun x => .inl (key _ x)) (fun x => .inr (key _ x))
theorem Bld.drew {B b : Nat} {l : List UInt8} {w : World} (h : Bld B b l w) : Bld B b l w.drew := h
/-- A builder just laid. -/
theorem bld_new (B : Nat) (w : World) (hB : B ≤ w.heap.size) : Bld B w.heap.size [] (w.alloc (.cells #[.pointer none, .slice none 0 0] 128)) :=
  .inl ⟨hB, .slice none 0 0, heap_alloc_new w _, World.ownsRow_nil _ _ _ _, by simp [Value.ownBlock]⟩
theorem string_any (B b : Nat) (l : List UInt8) (w : World) (h : Bld B b l w) (hBw : B ≤ w.heap.size) :
    Calls Try.prog 80 #[.pointer (some ⟨b, 0, none⟩)] w fun e w' => e = .returned (.string (mkS l)) ∧ Below B w w' := Try.Builder_String_any B b l w h hBw
end Go.Proofs.Ytemknajlmocfeaa
namespace Go.Proofs.Ytemknajlmocfeaa
set_option maxRecDepth 20000
open Go.RowKit
open Go.Maps (Keyed)
/-- Every value reads as itself. -/
def heldR (v : Value) : Option (DataW Value × List MemPlace) := some (.held v, [])
/-- A text as a key. -/
def kl (s : ByteArray) : Lit := .string s.data.toList
theorem kl_inj {s t : ByteArray} (h : kl s = kl t) : s = t := by
  unfold kl at h
  injection h with h
  exact sl_inj h
theorem kl_ne {s t : ByteArray} (h : s ≠ t) : kl s ≠ kl t := fun e => h (kl_inj e)
theorem kl_key (s : ByteArray) : WideAt.IsKeyLit (kl s) := trivial
def fput (f : ByteArray → Option Value) (k : ByteArray) (v : Value) : ByteArray → Option Value := fun x => if x = k then some v else f x
def fdel (f : ByteArray → Option Value) (k : ByteArray) : ByteArray → Option Value := fun x => if x = k then none else f x
/-- Block b of w is a map in which f k stands at k; c keys have something. -/
def MapS (P : Program) (w : World) (kt : TypeId) (b : Nat) (f : ByteArray → Option Value) (c : Nat) : Prop :=
  ∃ D, w.ownsMap P kt heldR b c D ∧ Maps.size D = c ∧ (∀ k z, D.atKey (kl k) z = (match f k with | some v => .held v | none => z)) ∧ ∀ k, Maps.has D (kl k) = (f k).isSome
section
variable {P : Program} {w w' : World} {kt : TypeId} {b c : Nat} {f : ByteArray → Option Value}
theorem owns_size {H : Type} {R : Value → Option (DataW H × List MemPlace)} {n : Nat} {D : DataW H} (h : w.ownsMap P kt R b n D) : w.ownsMap P kt R b (Maps.size D) D := by
  obtain ⟨es, clock, hb, F, hs, rfl⟩ := h
  exact ⟨es, clock, hb, F, by simp [Maps.size, length_sorted], rfl⟩
theorem MapS.lt (h : MapS P w kt b f c) : b < w.heap.size := by
  obtain ⟨D, h, _⟩ := h; exact h.lt
theorem MapS.isMapObj (h : MapS P w kt b f c) : ∃ es clock, w.heap[b]? = some (.map es clock) := by
  obtain ⟨D, ⟨es, clock, hb, _⟩, _⟩ := h; exact ⟨es, clock, hb⟩
theorem MapS.ne_blk (h : MapS P w kt b f c) {g : Nat} {t : TypeId} {cs : Array Value} (hb : Blk w g t cs) : b ≠ g := by
  obtain ⟨es, clock, hm⟩ := h.isMapObj
  intro e
  subst e
  unfold Blk at hb
  rw [hm] at hb
  cases hb
theorem MapS.kept {row : Option Nat} (h : MapS P w kt b f c) (hg : w.grownBy w' row) (hne : some b ≠ row) : MapS P w' kt b f c := by
  obtain ⟨D, h, r⟩ := h; exact ⟨D, h.kept hg hne, r⟩
theorem MapS.alloc (h : MapS P w kt b f c) (o : Obj) : MapS P (w.alloc o) kt b f c := by
  obtain ⟨D, h, r⟩ := h; exact ⟨D, h.alloc o, r⟩
theorem MapS.drew (h : MapS P w kt b f c) : MapS P w.drew kt b f c := h
theorem MapS.drewN (h : MapS P w kt b f c) (n : Nat) : MapS P (w.drewN n) kt b f c := h
theorem MapS.below (h : MapS P w kt b f c) (hb : Below w.heap.size w w') : MapS P w' kt b f c :=
  h.kept (row := none) ⟨hb.os, hb.tape, hb.output, hb.size, fun k hk _ => hb.block k hk⟩ (by simp)
theorem MapS.setCell (h : MapS P w kt b f c) {g i : Nat} {t : TypeId} {cs : Array Value} (hb : Blk w g t cs) (u : Value) : MapS P (w.setCell ⟨g, i, none⟩ u) kt b f c := by
  have hne := h.ne_blk hb
  obtain ⟨D, h, r⟩ := h; exact ⟨D, h.setCell hne u, r⟩
theorem MapS.made (w : World) (P : Program) (kt : TypeId) : MapS P (w.alloc (.map #[] 0)) kt w.heap.size (fun _ => none) 0 :=
  ⟨_, World.ownsMap_made w P kt heldR, rfl, fun _ _ => rfl, fun _ => rfl⟩
theorem MapS.congr {g : ByteArray → Option Value} {d : Nat} (h : MapS P w kt b f c) (hf : ∀ k, f k = g k) (hc : c = d) : MapS P w kt b g d := by
  subst hc
  obtain ⟨D, h, r1, r2, r3⟩ := h
  exact ⟨D, h, r1, fun k z => by rw [r2 k z, hf k], fun k => by rw [r3 k, hf k]⟩
variable {t e : TypeId}
theorem MapS.look (h : MapS P w kt b f c) (hk : P.underlying kt = some .string) (ht : P.underlying t = some (.map kt e)) {z : Value} (hz : (zeroValue e).run P w = .ok z w) {k : ByteArray} (hks : k.size ≤ maxLen) :
    (Instr.lookup t (.map (some b)) (.string k) false).run P w = .ok ((f k).getD z) w := by
  obtain ⟨D, h, _, hat, _⟩ := h
  obtain ⟨v, ps, hrun, hv⟩ := h.lookup (Maps.string_keyed hk) ht hz (zd := .held z) (zp := []) rfl (Go.WideMaps.keyOf_string_mk hk hks)
  have h1 : (DataW.held v : DataW Value) = D.atKey (kl k) (.held z) := by
    unfold heldR at hv
    injection hv with hv
    exact (Prod.mk.inj hv).1
  rw [hat] at h1
  rw [hrun]
  cases hf : f k with
  | none => rw [hf] at h1; injection h1 with h1; rw [h1]; rfl
  | some u => rw [hf] at h1; injection h1 with h1; rw [h1]; rfl
theorem MapS.look_ok (h : MapS P w kt b f c) (hk : P.underlying kt = some .string) (ht : P.underlying t = some (.map kt e)) {z : Value} (hz : (zeroValue e).run P w = .ok z w) {k : ByteArray} (hks : k.size ≤ maxLen) :
    (Instr.lookup t (.map (some b)) (.string k) true).run P w = .ok (.tuple #[(f k).getD z, .bool (f k).isSome]) w := by
  obtain ⟨D, h, _, hat, hh⟩ := h
  obtain ⟨v, ps, hrun, hv⟩ := h.look_ok (Maps.string_keyed hk) ht hz (zd := .held z) (zp := []) rfl (Go.WideMaps.keyOf_string_mk hk hks)
  have h1 : (DataW.held v : DataW Value) = D.atKey (kl k) (.held z) := by
    unfold heldR at hv
    injection hv with hv
    exact (Prod.mk.inj hv).1
  rw [hat] at h1
  rw [hrun, show Maps.has D (Lit.string k.data.toList) = (f k).isSome from hh k]
  cases hf : f k with
  | none => rw [hf] at h1; injection h1 with h1; rw [h1]; rfl
  | some u => rw [hf] at h1; injection h1 with h1; rw [h1]; rfl
theorem MapS.len_ (h : MapS P w kt b f c) (ht : P.underlying t = some (.map kt e)) (ty : TypeId) : (Builtin.len_ #[t] ty #[.map (some b)]).run P w = .ok (.int .i64 (c : Int)) w := by
  obtain ⟨D, h, hc, _⟩ := h
  rw [h.len ht ty, hc]
theorem MapS.upd (h : MapS P w kt b f c) (hk : P.underlying kt = some .string) (ht : P.underlying t = some (.map kt e)) {k : ByteArray} (hks : k.size ≤ maxLen) (v : Value) (hc : c < maxLen) :
    ∃ w', (Instr.mapUpdate t (.map (some b)) (.string k) v).run P w = .ok () w' ∧ MapS P w' kt b (fput f k v) (if (f k).isSome then c else c + 1) ∧ w.mapTurned w' b := by
  obtain ⟨D, h, hs, hat, hh⟩ := h
  obtain ⟨w', hrun, r1, r2⟩ := h.store (Maps.string_keyed hk) ht hc (Go.WideMaps.keyOf_string_mk hk hks) (val := v) (d := .held v) (ps := []) rfl
  have hT := h.tidy (Maps.string_keyed hk)
  have hsz : Maps.size (D.put (kl k) (.held v)) = if (f k).isSome then c else c + 1 := by
    rw [Maps.size_put hT, hh k, hs]
  refine ⟨w', hrun, ⟨D.put (kl k) (.held v), hsz ▸ owns_size r1, hsz, fun x z => ?_, fun x => ?_⟩, r2⟩
  · unfold fput
    by_cases hx : x = k
    · subst hx
      rw [Maps.atKey_put_same hT.isMap (kl_key x), if_pos rfl]
    · rw [Maps.atKey_put_other (kl_ne hx), if_neg hx, hat]
  · unfold fput
    by_cases hx : x = k
    · subst hx
      rw [Maps.has_put_same hT.isMap (kl_key x), if_pos rfl]
      rfl
    · rw [Maps.has_put_other (kl_ne hx), if_neg hx, hh]
theorem MapS.del_ (h : MapS P w kt b f c) (hk : P.underlying kt = some .string) (ht : P.underlying t = some (.map kt e)) {k : ByteArray} (hks : k.size ≤ maxLen) (ty : TypeId) :
    ∃ w', (Builtin.delete_ #[t, kt] ty #[.map (some b), .string k]).run P w = .ok (.tuple #[]) w' ∧ MapS P w' kt b (fdel f k) (if (f k).isSome then c - 1 else c) ∧ w.mapTurned w' b := by
  obtain ⟨D, h, hs, hat, hh⟩ := h
  obtain ⟨w', hrun, r1, r2⟩ := h.drop (Maps.string_keyed hk) ht (Go.WideMaps.keyOf_string_mk hk hks) ty
  have hT := h.tidy (Maps.string_keyed hk)
  have hsz : Maps.size (D.del (kl k)) = if (f k).isSome then c - 1 else c := by
    have := Maps.size_del hT (k := kl k)
    rw [hh k, hs] at this
    split at this <;> split <;> simp_all <;> omega
  refine ⟨w', hrun, ⟨D.del (kl k), hsz ▸ owns_size r1, hsz, fun x z => ?_, fun x => ?_⟩, r2⟩
  · unfold fdel
    by_cases hx : x = k
    · subst hx
      rw [Maps.atKey_del_same, if_pos rfl]
    · rw [Maps.atKey_del_other (kl_ne hx), if_neg hx, hat]
  · unfold fdel
    by_cases hx : x = k
    · subst hx
      rw [Maps.has_del_same, if_pos rfl]
      rfl
    · rw [Maps.has_del_other (kl_ne hx), if_neg hx, hh]
/-- 'm[k] = v' at the operation. -/
theorem wpList_upd {ops : Array Oper} {rest : List Oper} {o : Oper} {a : Act} {Q : Exit → Act → World → Prop} (hg : o.guard = none) (m x v : Operand) (hop : o.op = Op.mapUpdate t m x v)
    (hm : a.eval m = .map (some b)) (h : MapS P w kt b f c) (hk : P.underlying kt = some .string) (ht : P.underlying t = some (.map kt e)) (k : ByteArray) (u : Value) (hx : a.eval x = .string k) (hv : a.eval v = u) (hks : k.size ≤ maxLen) (hc : c < maxLen)
    (hK : ∀ w', MapS P w' kt b (fput f k u) (if (f k).isSome then c else c + 1) → w.grownBy w' (some b) → wpList P ops Q rest (a.put o.dst undef) w') : wpList P ops Q (o :: rest) a w := by
  refine wpList_plain hg fun K' hK' => ?_
  obtain ⟨w', hrun, r1, r2⟩ := h.upd hk ht hks u hc
  unfold Oper.wp
  simp [execOp, hop, hm, hx, hv, hrun, Result.andThen]
  exact hK' _ _ (hK w' r1 r2.grown)
/-- 'delete(m, k)' at the operation. -/
theorem wpList_del {ops : Array Oper} {rest : List Oper} {o : Oper} {a : Act} {Q : Exit → Act → World → Prop} (hg : o.guard = none) (m x : Operand) (hop : o.op = Op.call { callee := Callee.builtin Builtin.delete, args := #[m, x], argTypes := #[t, kt] })
    (hm : a.eval m = .map (some b)) (h : MapS P w kt b f c) (hk : P.underlying kt = some .string) (ht : P.underlying t = some (.map kt e)) (k : ByteArray) (hx : a.eval x = .string k) (hks : k.size ≤ maxLen)
    (hK : ∀ w', MapS P w' kt b (fdel f k) (if (f k).isSome then c - 1 else c) → w.grownBy w' (some b) → wpList P ops Q rest (a.put o.dst (.tuple #[])) w') : wpList P ops Q (o :: rest) a w := by
  refine wpList_plain hg fun K' hK' => ?_
  obtain ⟨w', hrun, r1, r2⟩ := h.del_ hk ht hks o.type
  unfold Oper.wp
  simp [execOp, hop, resolve, invoke, builtin, hm, hx, hrun, Result.andThen]
  exact hK' _ _ (hK w' r1 r2.grown)
/-- 'len(m)' at the operation. -/
theorem wpList_len_ {ops : Array Oper} {rest : List Oper} {o : Oper} {a : Act} {Q : Exit → Act → World → Prop} (hg : o.guard = none) (m : Operand) (hop : o.op = Op.call { callee := Callee.builtin Builtin.len, args := #[m], argTypes := #[t] })
    (hm : a.eval m = .map (some b)) (h : MapS P w kt b f c) (ht : P.underlying t = some (.map kt e))
    (hK : wpList P ops Q rest (a.put o.dst (.int .i64 (c : Int))) w) : wpList P ops Q (o :: rest) a w := by
  refine wpList_plain hg fun K' hK' => ?_
  unfold Oper.wp
  simp [execOp, hop, resolve, invoke, builtin, hm, h.len_ ht o.type, Result.andThen]
  exact hK' _ _ hK
end
end Go.Proofs.Ytemknajlmocfeaa
namespace Go.Proofs.Ytemknajlmocfeaa
set_option maxRecDepth 20000
open Go.RowKit
abbrev ptr (b : Nat) : Value := .pointer (some ⟨b, 0, none⟩)
/-! ### Frames by type. -/
/-- Not one of these types' cells, and no map. -/
def okObj (ex : List TypeId) : Obj → Bool
  | .cells _ t _ => !ex.contains t
  | .map _ _ => false
  | _ => true
/-- Below n0 nothing has turned, nor has anything that is of other types. -/
structure RF (ex : List TypeId) (n0 : Nat) (w w' : World) : Prop where
  bel : Below n0 w w'
  fr : ∀ (k : Nat) (o : Obj), w.heap[k]? = some o → okObj ex o = true → w'.heap[k]? = some o
section
variable {ex : List TypeId} {n0 : Nat} {w w' w'' : World}
theorem RF.refl (ex : List TypeId) (n0 : Nat) (w : World) : RF ex n0 w w := ⟨Below.refl _ _, fun _ _ h _ => h⟩
theorem RF.trans (h : RF ex n0 w w') (k : RF ex n0 w' w'') : RF ex n0 w w'' := ⟨h.bel.trans k.bel, fun i o hi ho => k.fr i o (h.fr i o hi ho) ho⟩
theorem RF.size (h : RF ex n0 w w') : w.heap.size ≤ w'.heap.size := h.bel.size
theorem RF.drew (h : RF ex n0 w w') : RF ex n0 w w'.drew := ⟨h.bel.drew, h.fr⟩
theorem RF.drewN (h : RF ex n0 w w') (n : Nat) : RF ex n0 w (w'.drewN n) := ⟨⟨h.bel.os, h.bel.tape, h.bel.output, h.bel.size, h.bel.block⟩, h.fr⟩
theorem heap_lt' {w : World} {k : Nat} {o : Obj} (h : w.heap[k]? = some o) : k < w.heap.size := (Array.getElem?_eq_some_iff.1 h).1
theorem RF.grown {row : Option Nat} (h : RF ex n0 w w') (hg : w'.grownBy w'' row) (hn : n0 ≤ w'.heap.size) (hrow : ∀ k, row = some k → n0 ≤ k ∧ ∃ o, w'.heap[k]? = some o ∧ okObj ex o = false) : RF ex n0 w w'' := by
  refine ⟨h.bel.grown hg hn (fun k hk => (hrow k hk).1), fun i o hi ho => ?_⟩
  have h1 := h.fr i o hi ho
  refine (hg.block i (heap_lt' h1) (fun e => ?_)).trans h1
  obtain ⟨_, o', ho', hf⟩ := hrow i e.symm
  rw [h1] at ho'
  cases ho'
  rw [ho] at hf
  cases hf
theorem RF.grownN {row : Option Nat} (h : RF ex n0 w w') (hg : w'.grownBy w'' row) (hn : n0 ≤ w'.heap.size) (hrow : ∀ k, row = some k → n0 ≤ k ∧ (w.heap.size ≤ k ∨ ∃ o, w'.heap[k]? = some o ∧ okObj ex o = false)) : RF ex n0 w w'' := by
  refine ⟨h.bel.grown hg hn (fun k hk => (hrow k hk).1), fun i o hi ho => ?_⟩
  have h1 := h.fr i o hi ho
  refine (hg.block i (heap_lt' h1) (fun e => ?_)).trans h1
  rcases (hrow i e.symm).2 with h2 | ⟨o', ho', hf⟩
  · have := heap_lt' hi
    omega
  · rw [h1] at ho'
    cases ho'
    rw [ho] at hf
    cases hf
theorem RF.alloc (h : RF ex n0 w w') (hn : n0 ≤ w'.heap.size) (o : Obj) : RF ex n0 w (w'.alloc o) := h.grown (World.grownBy_alloc w' o none) hn (fun _ e => by cases e)
theorem RF.set_ (h : RF ex n0 w w') {g i : Nat} {t : TypeId} {cs : Array Value} (hb : Blk w' g t cs) (hn : n0 ≤ g) (ht : ex.contains t = true) (u : Value) : RF ex n0 w (w'.setCell ⟨g, i, none⟩ u) :=
  h.grown (row := some g) ⟨rfl, rfl, rfl, by simp [World.setCell], fun k _ hne => Below.heap_setCell _ _ _ _ (fun e => hne (by rw [e]))⟩ (Nat.le_trans hn (Nat.le_of_lt hb.lt)) (fun k hk => by cases hk; exact ⟨hn, _, hb, by simp only [okObj, ht]; rfl⟩)
theorem RF.mono {ex' : List TypeId} (h : RF ex n0 w w') (he : ∀ t, ex.contains t = true → ex'.contains t = true) : RF ex' n0 w w' :=
  ⟨h.bel, fun k o hk ho => h.fr k o hk (by
    unfold okObj at ho ⊢
    split <;> simp_all
    exact fun hc => ho (he _ hc))⟩
theorem RF.of_below (h : Below w.heap.size w w') (hn : n0 ≤ w.heap.size) : RF ex n0 w w' := ⟨h.mono hn, fun k o hk _ => (h.block k (heap_lt' hk)).trans hk⟩
theorem RF.lower {n1 : Nat} (h : RF ex n0 w w') (hn : n1 ≤ n0) : RF ex n1 w w' := ⟨h.bel.mono hn, h.fr⟩
theorem Blk.rf {g : Nat} {t : TypeId} {cs : Array Value} (hb : Blk w g t cs) (h : RF ex n0 w w') (ht : ex.contains t = false) : Blk w' g t cs := h.fr g _ hb (by simp only [okObj, ht]; rfl)
theorem Owns.rf {α : Type} {base : Nat} {e : TypeId} {size : Nat} {enc : α → List Value} {v : Value} {xs : List α} (ho : Owns w base e size enc v xs) (h : RF ex n0 w w') (ht : ex.contains e = false) : Owns w' base e size enc v xs := by
  refine ⟨ho.1, ho.2.imp id ?_⟩
  rintro ⟨g, cap, cur, h1, h2, h3, h4⟩
  exact ⟨g, cap, cur, h1, h2, h.fr g _ h3 (by simp only [okObj, ht]; rfl), h4⟩
end
theorem Blk.keptR {w w' : World} {g : Nat} {t : TypeId} {cs : Array Value} {row : Option Nat} (h : Blk w g t cs) (hg : w.grownBy w' row) (hne : some g ≠ row) : Blk w' g t cs := (hg.block g h.lt hne).trans h
/-! ### Links. -/
def Lk (w : World) (a b : Nat) : Prop := w.cell? ⟨a, 3, none⟩ = some (ptr b) ∧ w.cell? ⟨b, 2, none⟩ = some (ptr a)
def Links (w : World) : List Nat → Prop
  | [] => True
  | [_] => True
  | a :: b :: l => Lk w a b ∧ Links w (b :: l)
theorem Links.keep {w w' : World} : ∀ {zs : List Nat}, Links w zs → (∀ a ∈ zs.dropLast, w'.cell? ⟨a, 3, none⟩ = w.cell? ⟨a, 3, none⟩) → (∀ b ∈ zs.tail, w'.cell? ⟨b, 2, none⟩ = w.cell? ⟨b, 2, none⟩) → Links w' zs
  | [], _, _, _ => trivial
  | [_], _, _, _ => trivial
  | a :: b :: l, h, h1, h2 => ⟨⟨(h1 a (by simp)).trans h.1.1, (h2 b (by simp)).trans h.1.2⟩, Links.keep h.2 (fun x hx => h1 x (by simp only [List.dropLast_cons_cons, List.mem_cons]; exact .inr hx)) (fun x hx => h2 x (by simp only [List.tail_cons] at hx ⊢; exact List.mem_cons_of_mem _ hx))⟩
theorem links_app {w : World} (a : Nat) (ys : List Nat) : ∀ xs : List Nat, Links w (xs ++ a :: ys) ↔ Links w (xs ++ [a]) ∧ Links w (a :: ys)
  | [] => by simp [Links]
  | [x] => by
    cases ys with
    | nil => simp [Links]
    | cons y ys => simp [Links, and_assoc]
  | x :: y :: xs => by
    have := links_app (w := w) a ys (y :: xs)
    simp only [List.cons_append, Links] at this ⊢
    rw [this]
    exact and_assoc.symm
theorem list_last (c : Nat) (l : List Nat) : ∃ xs p, c :: l = xs ++ [p] := by
  exact ⟨(c :: l).dropLast, (c :: l).getLast (by simp), (List.dropLast_concat_getLast (by simp)).symm⟩
theorem links_next {w : World} {a b : Nat} {xs ys : List Nat} (h : Links w (xs ++ a :: b :: ys)) : Lk w a b := ((links_app a (b :: ys) xs).1 h).2.1
/-- Two in a row are tied anew, past the one between them. -/
theorem links_cut {w w' : World} {xs ys : List Nat} {p b q : Nat} (h : Links w (xs ++ p :: b :: q :: ys)) (hp : p ∉ xs) (hpy : p ∉ (q :: ys).dropLast) (hqx : q ∉ (xs ++ [p]).tail) (hqy : q ∉ ys)
    (h1 : w'.cell? ⟨p, 3, none⟩ = some (ptr q)) (h2 : w'.cell? ⟨q, 2, none⟩ = some (ptr p)) (h3 : ∀ a, a ≠ p → w'.cell? ⟨a, 3, none⟩ = w.cell? ⟨a, 3, none⟩) (h4 : ∀ a, a ≠ q → w'.cell? ⟨a, 2, none⟩ = w.cell? ⟨a, 2, none⟩) : Links w' (xs ++ p :: q :: ys) := by
  obtain ⟨g1, g2⟩ := (links_app p (b :: q :: ys) xs).1 h
  refine (links_app p (q :: ys) xs).2 ⟨g1.keep (fun a ha => h3 a ?_) (fun a ha => h4 a ?_), ⟨h1, h2⟩, (g2.2.2 : Links w (q :: ys)).keep (fun a ha => h3 a ?_) (fun a ha => h4 a ?_)⟩
  · rintro rfl; rw [List.dropLast_concat] at ha; exact hp ha
  · rintro rfl; exact hqx ha
  · rintro rfl; exact hpy ha
  · rintro rfl; exact hqy ha
/-- One more between the last and the first. -/
theorem links_add {w w' : World} {xs : List Nat} {p b c : Nat} (h : Links w (xs ++ p :: [c])) (hp : p ∉ xs) (hc : c ∉ (xs ++ [p]).tail) (hb : b ∉ xs ++ [p])
    (h1 : Lk w' p b) (h2 : Lk w' b c) (h3 : ∀ a, a ≠ p → a ≠ b → w'.cell? ⟨a, 3, none⟩ = w.cell? ⟨a, 3, none⟩) (h4 : ∀ a, a ≠ c → a ≠ b → w'.cell? ⟨a, 2, none⟩ = w.cell? ⟨a, 2, none⟩) : Links w' (xs ++ p :: b :: [c]) := by
  obtain ⟨g1, g2⟩ := (links_app p [c] xs).1 h
  refine (links_app p (b :: [c]) xs).2 ⟨g1.keep (fun a ha => h3 a ?_ ?_) (fun a ha => h4 a ?_ ?_), h1, h2, trivial⟩
  · rintro rfl; rw [List.dropLast_concat] at ha; exact hp ha
  · rintro rfl; rw [List.dropLast_concat] at ha; exact hb (List.mem_append_left _ ha)
  · rintro rfl; exact hc ha
  · rintro rfl; exact hb (List.mem_of_mem_tail ha)
/-! ### The chain. -/
/-- A link of the chain: its block, its key, what it has. -/
abbrev Nd := Nat × ByteArray × Int
def atF (ns : List Nd) (k : ByteArray) : Option Value := (ns.find? (fun x => decide (x.2.1 = k))).map fun x => ptr x.1
def NodeB (w : World) (x : Nd) : Prop := ∃ pv nx, Blk w x.1 161 #[.string x.2.1, .int .i64 x.2.2, pv, nx]
def RootB (w : World) (c mb : Nat) : Prop := ∃ pv nx, Blk w c 164 #[.string ByteArray.empty, .int .i64 0, pv, nx, .map (some mb)]
theorem NodeB.set_ {w : World} {x : Nd} (h : NodeB w x) (g i : Nat) (hi : i = 2 ∨ i = 3) (u : Value) : NodeB (w.setCell ⟨g, i, none⟩ u) x := by
  obtain ⟨pv, nx, hb⟩ := h
  by_cases hg : x.1 = g
  · subst hg
    rcases hi with rfl | rfl
    · exact ⟨u, nx, hb.set_ 2 u⟩
    · exact ⟨pv, u, hb.set_ 3 u⟩
  · exact ⟨pv, nx, hb.far hg u⟩
theorem RootB.set_ {w : World} {c mb : Nat} (h : RootB w c mb) (g i : Nat) (hi : i = 2 ∨ i = 3) (u : Value) : RootB (w.setCell ⟨g, i, none⟩ u) c mb := by
  obtain ⟨pv, nx, hb⟩ := h
  by_cases hg : c = g
  · subst hg
    rcases hi with rfl | rfl
    · exact ⟨u, nx, hb.set_ 2 u⟩
    · exact ⟨pv, u, hb.set_ 3 u⟩
  · exact ⟨pv, nx, hb.far hg u⟩
theorem NodeB.lt {w : World} {x : Nd} (h : NodeB w x) : x.1 < w.heap.size := by obtain ⟨_, _, hb⟩ := h; exact hb.lt
structure Chn (w : World) (n0 c mb : Nat) (ns : List Nd) : Prop where
  root : RootB w c mb
  node : ∀ x ∈ ns, NodeB w x
  ring : Links w (c :: (ns.map (·.1) ++ [c]))
  nd : (ns.map (·.1)).Nodup
  kd : (ns.map (·.2.1)).Nodup
  mp : MapS Try.prog w 9 mb (atF ns) ns.length
  b0 : n0 ≤ c ∧ n0 ≤ mb ∧ ∀ x ∈ ns, n0 ≤ x.1
section
variable {w w' : World} {n0 c mb : Nat} {ns : List Nd}
theorem Chn.ne_root (h : Chn w n0 c mb ns) : ∀ x ∈ ns, x.1 ≠ c := by
  intro x hx e
  obtain ⟨_, _, hb⟩ := h.node x hx
  obtain ⟨_, _, hr⟩ := h.root
  rw [e] at hb
  unfold Blk at hb hr
  rw [hr] at hb
  injection hb with hb
  injection hb with _ hb
  revert hb
  decide
theorem Chn.kept {row : Option Nat} (h : Chn w n0 c mb ns) (hg : w.grownBy w' row) (hc : some c ≠ row) (hm : some mb ≠ row) (hn : ∀ x ∈ ns, some x.1 ≠ row) : Chn w' n0 c mb ns := by
  have hcell : ∀ (a : Nat) (i : Nat) (v : Value), (a = c ∨ ∃ x ∈ ns, x.1 = a) → w.cell? ⟨a, i, none⟩ = some v → w'.cell? ⟨a, i, none⟩ = w.cell? ⟨a, i, none⟩ := by
    intro a i v ha hv
    rw [hv]
    refine hg.cell hv ?_
    rcases ha with rfl | ⟨x, hx, rfl⟩
    · exact hc
    · exact hn x hx
  refine ⟨?_, fun x hx => ?_, ?_, h.nd, h.kd, h.mp.kept hg hm, h.b0⟩
  · obtain ⟨pv, nx, hb⟩ := h.root
    exact ⟨pv, nx, Blk.keptR hb hg hc⟩
  · obtain ⟨pv, nx, hb⟩ := h.node x hx
    exact ⟨pv, nx, Blk.keptR hb hg (hn x hx)⟩
  · refine h.ring.keep (fun a ha => ?_) (fun a ha => ?_)
    · have : a = c ∨ ∃ x ∈ ns, x.1 = a := by
        have := List.dropLast_subset _ ha
        simp only [List.mem_cons, List.mem_append, List.mem_map, List.not_mem_nil, or_false] at this
        rcases this with h | ⟨x, hx, h⟩ | h
        · exact .inl h
        · exact .inr ⟨x, hx, h⟩
        · exact .inl h
      rcases this with rfl | ⟨x, hx, rfl⟩
      · obtain ⟨pv, nx, hb⟩ := h.root
        exact hcell _ 3 nx (.inl rfl) (hb.cell 3)
      · obtain ⟨pv, nx, hb⟩ := h.node x hx
        exact hcell _ 3 nx (.inr ⟨x, hx, rfl⟩) (hb.cell 3)
    · have : a = c ∨ ∃ x ∈ ns, x.1 = a := by
        simp only [List.tail_cons, List.mem_append, List.mem_map, List.mem_cons, List.not_mem_nil, or_false] at ha
        rcases ha with ⟨x, hx, h⟩ | h
        · exact .inr ⟨x, hx, h⟩
        · exact .inl h
      rcases this with rfl | ⟨x, hx, rfl⟩
      · obtain ⟨pv, nx, hb⟩ := h.root
        exact hcell _ 2 pv (.inl rfl) (hb.cell 2)
      · obtain ⟨pv, nx, hb⟩ := h.node x hx
        exact hcell _ 2 pv (.inr ⟨x, hx, rfl⟩) (hb.cell 2)
theorem Chn.drew (h : Chn w n0 c mb ns) : Chn w.drew n0 c mb ns := ⟨h.root, h.node, h.ring.keep (fun _ _ => rfl) (fun _ _ => rfl), h.nd, h.kd, h.mp, h.b0⟩
theorem Chn.alloc (h : Chn w n0 c mb ns) (o : Obj) : Chn (w.alloc o) n0 c mb ns := h.kept (World.grownBy_alloc w o none) (by simp) (by simp) (fun _ _ => by simp)
theorem Chn.below (h : Chn w n0 c mb ns) (hb : Below w.heap.size w w') : Chn w' n0 c mb ns :=
  h.kept (row := none) ⟨hb.os, hb.tape, hb.output, hb.size, fun k hk _ => hb.block k hk⟩ (by simp) (by simp) (fun _ _ => by simp)
/-- What grows is of another type. -/
theorem Chn.keptT {row : Option Nat} (h : Chn w n0 c mb ns) (hg : w.grownBy w' row) (hrow : ∀ k, row = some k → ∃ cs t fr, w.heap[k]? = some (.cells cs t fr) ∧ t ≠ 164 ∧ t ≠ 161) : Chn w' n0 c mb ns := by
  refine h.kept hg ?_ ?_ ?_
  · intro e
    obtain ⟨cs, t, fr, hh, h1, _⟩ := hrow c e.symm
    obtain ⟨_, _, hb⟩ := h.root
    unfold Blk at hb
    rw [hh] at hb
    injection hb with hb
    injection hb with _ hb
    exact h1 hb
  · intro e
    obtain ⟨cs, t, fr, hh, _⟩ := hrow mb e.symm
    obtain ⟨es, ck, hm⟩ := h.mp.isMapObj
    rw [hm] at hh
    cases hh
  · intro x hx e
    obtain ⟨cs, t, fr, hh, _, h2⟩ := hrow x.1 e.symm
    obtain ⟨_, _, hb⟩ := h.node x hx
    unfold Blk at hb
    rw [hh] at hb
    injection hb with hb
    injection hb with _ hb
    exact h2 hb
theorem atF_mem {l r : List Nd} {x : Nd} (h : ((l ++ x :: r).map (·.2.1)).Nodup) : atF (l ++ x :: r) x.2.1 = some (ptr x.1) := by
  unfold atF
  have h0 : ∀ y ∈ l, ¬ y.2.1 = x.2.1 := by
    intro y hy
    rw [List.map_append, List.map_cons, List.nodup_append] at h
    exact h.2.2 y.2.1 (List.mem_map.2 ⟨y, hy, rfl⟩) x.2.1 (by simp)
  rw [List.find?_append, List.find?_eq_none.2 (fun y hy => by simp [h0 y hy])]
  simp
theorem atF_none {ns : List Nd} {k : ByteArray} (h : ∀ x ∈ ns, x.2.1 ≠ k) : atF ns k = none := by
  unfold atF
  rw [List.find?_eq_none.2 (fun y hy => by simp [h y hy])]
  rfl
theorem find_split (ns : List Nd) (k : ByteArray) : (∀ x ∈ ns, x.2.1 ≠ k) ∨ ∃ l b s r, ns = l ++ (b, k, s) :: r := by
  by_cases h : ∃ x ∈ ns, x.2.1 = k
  · obtain ⟨x, hx, rfl⟩ := h
    obtain ⟨l, r, rfl⟩ := List.append_of_mem hx
    exact .inr ⟨l, x.1, x.2.2, r, rfl⟩
  · exact .inl fun x hx e => h ⟨x, hx, e⟩
end
end Go.Proofs.Ytemknajlmocfeaa
namespace Go.Proofs.Ytemknajlmocfeaa
open Go.RowKit

section
variable {P : Program} {ops : Array Oper} {Q : Exit → Act → World → Prop} {S : World → Prop} {md : Region.Mode} {last : Nat}

/-- Whatever order is picked from here on, and S holds behind every operation that is carried out, but the last one. -/
def wpAnyL (P : Program) (md : Region.Mode) (ops : Array Oper) (Q : Exit → Act → World → Prop) (S : World → Prop) (last : Nat) : Nat → Array Bool → Act → World → Prop
  | 0, listed, a, w => Region.ready md ops listed = [] ∧ Q .normal a w
  | fuel + 1, listed, a, w =>
    (Region.ready md ops listed = [] → Q .normal a w) ∧
    ∀ i ∈ Region.ready md ops listed, wpOp P ops Q i (fun a' w' => (i ≠ last → S w') ∧ wpAnyL P md ops Q S last fuel (listed.setIfInBounds i true) a' w') a w

theorem wpAny_of_last : ∀ (fuel : Nat) (listed : Array Bool) (a : Act) (w : World), wpAnyL P md ops Q S last fuel listed a w → wpAny P md ops Q fuel listed a w
  | 0, _, _, _, h => h
  | fuel + 1, _, _, _, h => ⟨h.1, fun i hi => wpOp_mono (fun a' w' h' => wpAny_of_last fuel _ a' w' h'.2) (h.2 i hi)⟩

/-- What has come up, has come up behind what it waits for. -/
def Closed (md : Region.Mode) (ops : Array Oper) (listed : Array Bool) : Prop :=
  ∀ j oj, ops[j]? = some oj → listed.getD j false = true → ∀ e ∈ oj.after, Region.binds md e = true → listed.getD e.on false = true
theorem Closed.start (n : Nat) : Closed md ops (Array.replicate n false) := by
  intro j oj _ h
  exfalso
  simp only [Array.getD_eq_getD_getElem?, Array.getElem?_replicate] at h
  split at h <;> simp at h
theorem Closed.step {listed : Array Bool} {i : Nat} (h : Closed md ops listed) (hi : i ∈ Region.ready md ops listed) : Closed md ops (listed.setIfInBounds i true) := by
  intro j oj hj hl e he hb
  by_cases hij : i = j
  · subst hij
    obtain ⟨_, o, ho, hall⟩ := mem_ready.1 hi
    rw [hj] at ho
    cases ho
    exact getD_set_true (hall e he hb)
  · rw [getD_set_ne false hij] at hl
    exact getD_set_true (h j oj hj hl e he hb)
/-- Every operation but the last one is waited for by a later one. -/
def chainTo (md : Region.Mode) (ops : Array Oper) (last : Nat) : Bool :=
  (List.range ops.size).all fun i => i == last || (List.range ops.size).any fun j => decide (i < j) && match ops[j]? with
    | some oj => oj.after.any (fun e => Region.binds md e && e.on == i)
    | none => false
theorem all_listed {listed : Array Bool} (hc : chainTo md ops last = true) (h : Closed md ops listed) (hl : last ∈ Region.ready md ops listed) :
    ∀ (n i : Nat), ops.size - i ≤ n → i < ops.size → i ≠ last → listed.getD i false = true
  | 0, i, hn, hi, _ => by omega
  | n + 1, i, hn, hi, hne => by
    have h1 := List.all_eq_true.1 hc i (List.mem_range.2 hi)
    simp only [Bool.or_eq_true, beq_iff_eq, hne, false_or, List.any_eq_true, List.mem_range, Bool.and_eq_true, decide_eq_true_eq] at h1
    obtain ⟨j, hj, hij, hm⟩ := h1
    have hoj := Array.getElem?_eq_getElem hj
    rw [hoj] at hm
    obtain ⟨e, he, hb⟩ := Array.any_eq_true'.1 hm
    simp only [Bool.and_eq_true, beq_iff_eq] at hb
    by_cases hjl : j = last
    · subst hjl
      obtain ⟨_, o, ho, hall⟩ := mem_ready.1 hl
      rw [hoj] at ho
      cases ho
      have := hall e he hb.1
      rwa [hb.2] at this
    · have := h j _ hoj (all_listed hc h hl n j (by omega) hj hjl) e he hb.1
      rwa [hb.2] at this
theorem only_last {listed : Array Bool} (hc : chainTo md ops last = true) (h : Closed md ops listed) (hl : last ∈ Region.ready md ops listed) {i : Nat} (hi : i ∈ Region.ready md ops listed) : i = last := by
  by_cases hne : i = last
  · exact hne
  · exfalso
    obtain ⟨h0, o, ho, _⟩ := mem_ready.1 hi
    have hlt := (Array.getElem?_eq_some_iff.1 ho).1
    have h1 := all_listed hc h hl _ i (Nat.le_refl _) hlt hne
    rw [Array.getD_eq_getD_getElem?] at h0 h1
    cases hg : listed[i]? with
    | none => rw [hg] at h1; cases h1
    | some b => rw [hg] at h0 h1; simp at h0 h1; rw [h0] at h1; cases h1

theorem wpAnyL_first {i : Nat} {oi : Oper} {v : Value} (hi : ops[i]? = some oi) (hne : i ≠ last) (hch : chainTo md ops last = true) (hsel : ∀ (j : Nat) (o : Oper) cs b, ops[j]? = some o → o.op ≠ .select cs b)
    (hQ : ∀ c a w, Q (.panic c) (a.put oi.dst v) w → Q (.panic c) a w) :
    ∀ (fuel : Nat) (listed : Array Bool) (a : Act) (w : World), Closed md ops listed →
      (∀ j oj, ops[j]? = some oj → j ≠ i → listed.getD j true = false → (∀ e ∈ oj.after, Region.binds md e = true → e.on ≠ i) → oi.apart ops oj = true) →
      i ∈ Region.ready md ops listed → YieldsIf P ops S oi v a → S w →
      wpAnyL P md ops Q S last fuel (listed.setIfInBounds i true) (a.put oi.dst v) w → wpAnyL P md ops Q S last (fuel + 1) listed a w := by
  intro fuel
  induction fuel with
  | zero =>
    intro listed a w _ _ hr hy hS H
    refine ⟨fun h => (by rw [h] at hr; cases hr), fun j hj => ?_⟩
    by_cases hji : j = i
    · subst hji; exact hy.wpOp hi hS ⟨fun _ => hS, H⟩
    · have := ready_mono hj hji
      rw [H.1] at this
      cases this
  | succ fuel ih =>
    intro listed a w hcl hfree hr hy hS H
    refine ⟨fun h => (by rw [h] at hr; cases hr), fun j hj => ?_⟩
    by_cases hji : j = i
    · subst hji; exact hy.wpOp hi hS ⟨fun _ => hS, H⟩
    · have hjl : j ≠ last := fun e => by
        subst e
        exact hne (only_last hch hcl hj hr)
      have h1 := H.2 j (ready_mono hj hji)
      obtain ⟨hjun, oj, hoj, hall⟩ := mem_ready.1 hj
      have hnot : ∀ e ∈ oj.after, Region.binds md e = true → e.on ≠ i := fun e he hb heq => by
        have h1 := hall e he hb
        have h0 := (mem_ready.1 hr).1
        rw [heq] at h1
        rcases Nat.lt_or_ge i listed.size with h' | h'
        · simp [h'] at h0 h1; rw [h0] at h1; cases h1
        · simp [Array.getElem?_eq_none h'] at h1
      have h2 := wpOp_putIf hoj (hfree j oj hoj hji hjun hnot) (fun cs b => hsel i oi cs b hi) (fun cs b => hsel j oj cs b hoj) hQ hy h1
      have hfree' : ∀ k ok, ops[k]? = some ok → k ≠ i → (listed.setIfInBounds j true).getD k true = false →
          (∀ e ∈ ok.after, Region.binds md e = true → e.on ≠ i) → oi.apart ops ok = true := fun k ok hk hki hun hno => by
        refine hfree k ok hk hki ?_ hno
        by_cases hjk : j = k
        · subst hjk; exact hjun
        · rw [getD_set_ne true hjk] at hun; exact hun
      refine wpOp_mono (fun a' w' h3 => ⟨h3.2.1, ih (listed.setIfInBounds j true) a' w' (hcl.step hj) hfree' (ready_mono hr (Ne.symm hji)) h3.1 (h3.2.1 hjl) ?_⟩) h2
      rw [Array.setIfInBounds_comm _ _ hji]
      exact h3.2.2

/-- The walk in a given order. -/
def seqL (P : Program) (ops : Array Oper) (Q : Exit → Act → World → Prop) (S : World → Prop) (last : Nat) : List (Bool × Nat) → Act → World → Prop
  | [], a, w => Q .normal a w
  | (true, i) :: l, a, w => ∃ o v, ops[i]? = some o ∧ YieldsIf P ops S o v a ∧ seqL P ops Q S last l (a.put o.dst v) w
  | (false, i) :: l, a, w => wpOp P ops Q i (fun a' w' => (i ≠ last → S w') ∧ seqL P ops Q S last l a' w') a w
/-- The order is one in which everything may come up where it stands; the last operation stands last. -/
def okSeqL (ops : Array Oper) (last : Nat) : List (Bool × Nat) → Array Bool → Bool
  | [], listed => (Region.ready .any ops listed).isEmpty
  | (true, i) :: l, listed => i != last && (Region.ready .any ops listed).contains i && Region.free .any ops listed i && okSeqL ops last l (listed.setIfInBounds i true)
  | (false, i) :: l, listed => (Region.ready .any ops listed == [i]) && (i != last || l.isEmpty) && okSeqL ops last l (listed.setIfInBounds i true)

theorem seqL_sound (hch : chainTo .any ops last = true) (hs : Region.noSelect ops = true) (hQ : ∀ (d : Option Tmp) (v : Value) c a w, Q (.panic c) (a.put d v) w → Q (.panic c) a w) :
    ∀ (l : List (Bool × Nat)) (fuel : Nat) (listed : Array Bool) (a : Act) (w : World), Closed .any ops listed → l.length ≤ fuel → okSeqL ops last l listed = true → (l ≠ [] → S w) → seqL P ops Q S last l a w → wpAnyL P .any ops Q S last fuel listed a w
  | [], fuel, listed, a, w, _, _, hok, _, h => by
    have hr : Region.ready .any ops listed = [] := by simpa [okSeqL] using hok
    cases fuel with
    | zero => exact ⟨hr, h⟩
    | succ fuel => exact ⟨fun _ => h, by rw [hr]; simp⟩
  | (true, i) :: l, 0, listed, a, w, _, hl, _, _, _ => by simp at hl
  | (true, i) :: l, fuel + 1, listed, a, w, hcl, hl, hok, hS, h => by
    simp only [okSeqL, Bool.and_eq_true, bne_iff_ne] at hok
    obtain ⟨o, v, ho, hy, hr⟩ := h
    have hri : i ∈ Region.ready .any ops listed := by simpa using hok.1.1.2
    exact wpAnyL_first ho hok.1.1.1 hch (Region.noSelect_spec hs) (hQ _ _) fuel listed a w hcl (Region.free_spec ho hok.1.2) hri hy (hS (by simp))
      (seqL_sound hch hs hQ l fuel _ _ w (hcl.step hri) (by simp at hl; omega) hok.2 (fun _ => hS (by simp)) hr)
  | (false, i) :: l, 0, listed, a, w, _, hl, _, _, _ => by simp at hl
  | (false, i) :: l, fuel + 1, listed, a, w, hcl, hl, hok, hS, h => by
    simp only [okSeqL, Bool.and_eq_true, beq_iff_eq, Bool.or_eq_true, bne_iff_ne, List.isEmpty_iff] at hok
    have hri : i ∈ Region.ready .any ops listed := by rw [hok.1.1]; simp
    refine ⟨fun h0 => (by rw [h0] at hri; cases hri), fun j hj => ?_⟩
    obtain rfl : j = i := by rw [hok.1.1] at hj; simpa using hj
    refine wpOp_mono (fun a' w' ⟨h1, h2⟩ => ⟨h1, seqL_sound hch hs hQ l fuel _ a' w' (hcl.step hri) (by simp at hl; omega) hok.2 (fun hne => h1 ?_) h2⟩) h
    rcases hok.1.2 with h' | h'
    · exact h'
    · exact absurd h' hne

theorem wp_region_last {id : Nat} {a : Act} {w : World} (l : List (Bool × Nat)) (last : Nat) (S : World → Prop) (hm : P.follows .mixedOrders = true) (hch : chainTo .any ops last = true) (hs : Region.noSelect ops = true)
    (hQ : ∀ (d : Tmp) (v : Value) c (a : Act) w, Q (.panic c) { a with tmps := a.tmps.setIfInBounds d v } w → Q (.panic c) a w) (hlen : decide (l.length ≤ ops.size) = true)
    (hok : okSeqL ops last l (Array.replicate ops.size false) = true) (hS : S w.drew) (h : seqL P ops Q S last l a w.drew) : (Code.region id ops true).wp P Q a w :=
  wp_region_any hm (wpAny_of_last _ _ _ _ (seqL_sound hch hs (fun d v c a w h => by cases d with | none => exact h | some d => exact hQ d v c a w h) l ops.size _ a w.drew (Closed.start _) (of_decide_eq_true hlen) hok (fun _ => hS) h))

theorem seqL_nil {a : Act} {w : World} (h : Q .normal a w) : seqL P ops Q S last [] a w := h
theorem seqL_take {i : Nat} {o : Oper} {v : Value} {l : List (Bool × Nat)} {a : Act} {w : World} (ho : ops[i]? = some o) (hw : Region.wanted o (yielded ops a.tmps) = true)
    (hy : ∀ w', S w' → (execOp a.eval o).run P w' = .ok (.value v) w') (h : seqL P ops Q S last l (a.put o.dst v) w) : seqL P ops Q S last ((true, i) :: l) a w := ⟨o, v, ho, .inl ⟨hw, hy⟩, h⟩
theorem seqL_skip {i : Nat} {o : Oper} {l : List (Bool × Nat)} {a : Act} {w : World} (ho : ops[i]? = some o) (hw : Region.wanted o (yielded ops a.tmps) = false)
    (h : seqL P ops Q S last l (a.put o.dst undef) w) : seqL P ops Q S last ((true, i) :: l) a w := ⟨o, undef, ho, .inr ⟨hw, rfl⟩, h⟩
theorem seqL_eff {i : Nat} {o : Oper} {l : List (Bool × Nat)} {a : Act} {w : World} (ho : ops[i]? = some o) (hw : Region.wanted o (yielded ops a.tmps) = true)
    (h : ∀ K : Act → World → Prop, (∀ a' w', (i ≠ last → S w') ∧ seqL P ops Q S last l a' w' → K a' w') → o.wp P a w K Q) : seqL P ops Q S last ((false, i) :: l) a w := by
  show wpOp P ops Q i _ a w
  unfold wpOp
  simp only [ho, hw, if_true]
  exact .inl (h _ fun _ _ h => h)
end
attribute [irreducible] seqL
end Go.Proofs.Ytemknajlmocfeaa
namespace Go.Proofs.Ytemknajlmocfeaa
open Go.RowKit

section
variable {P : Program} {ops : Array Oper} {Q : Exit → Act → World → Prop} {S : World → Prop}

/-- The walk in a given order. -/
def seqH (P : Program) (ops : Array Oper) (Q : Exit → Act → World → Prop) (S : World → Prop) : List (Bool × Nat) → Act → World → Prop
  | [], a, w => Q .normal a w
  | (true, i) :: l, a, w => ∃ o v, ops[i]? = some o ∧ YieldsIf P ops S o v a ∧ seqH P ops Q S l (a.put o.dst v) w
  | (false, i) :: l, a, w => wpOp P ops Q i (fun a' w' => S w' ∧ seqH P ops Q S l a' w') a w

/-- The order is one in which everything may come up where it stands, and what does more than read stands alone. -/
def okSeq (ops : Array Oper) : List (Bool × Nat) → Array Bool → Bool
  | [], listed => (Region.ready .any ops listed).isEmpty
  | (true, i) :: l, listed => (Region.ready .any ops listed).contains i && Region.free .any ops listed i && okSeq ops l (listed.setIfInBounds i true)
  | (false, i) :: l, listed => (Region.ready .any ops listed == [i]) && okSeq ops l (listed.setIfInBounds i true)

theorem seqH_sound (hs : Region.noSelect ops = true) (hQ : ∀ (d : Option Tmp) (v : Value) c a w, Q (.panic c) (a.put d v) w → Q (.panic c) a w) :
    ∀ (l : List (Bool × Nat)) (fuel : Nat) (listed : Array Bool) (a : Act) (w : World), l.length ≤ fuel → okSeq ops l listed = true → S w → seqH P ops Q S l a w → wpAnyH P .any ops Q S fuel listed a w
  | [], fuel, listed, a, w, _, hok, _, h => by
    refine wpAnyH_done ?_ h fuel
    simpa [okSeq] using hok
  | (true, i) :: l, 0, listed, a, w, hl, _, _, _ => by simp at hl
  | (true, i) :: l, fuel + 1, listed, a, w, hl, hok, hS, h => by
    simp only [okSeq, Bool.and_eq_true] at hok
    obtain ⟨o, v, ho, hy, hr⟩ := h
    exact wpAnyH_take ho hs hok.1.2 hok.1.1 (hQ _ _) hy hS (seqH_sound hs hQ l fuel _ _ w (by simp at hl; omega) hok.2 hS hr)
  | (false, i) :: l, 0, listed, a, w, hl, _, _, _ => by simp at hl
  | (false, i) :: l, fuel + 1, listed, a, w, hl, hok, hS, h => by
    simp only [okSeq, Bool.and_eq_true, beq_iff_eq] at hok
    refine wpAnyH_all hok.1 (by simp) fun j hj => ?_
    obtain rfl : j = i := by simpa using hj
    exact wpOp_mono (fun a' w' ⟨h1, h2⟩ => ⟨h1, seqH_sound hs hQ l fuel _ a' w' (by simp at hl; omega) hok.2 h1 h2⟩) h

theorem wp_region_seq {id : Nat} {a : Act} {w : World} (l : List (Bool × Nat)) (S : World → Prop) (hm : P.follows .mixedOrders = true) (hs : Region.noSelect ops = true)
    (hQ : ∀ (d : Tmp) (v : Value) c (a : Act) w, Q (.panic c) { a with tmps := a.tmps.setIfInBounds d v } w → Q (.panic c) a w) (hlen : decide (l.length ≤ ops.size) = true)
    (hok : okSeq ops l (Array.replicate ops.size false) = true) (hS : S w.drew) (h : seqH P ops Q S l a w.drew) : (Code.region id ops true).wp P Q a w :=
  wp_region_held hm (seqH_sound hs (fun d v c a w h => by cases d with | none => exact h | some d => exact hQ d v c a w h) l ops.size _ a w.drew (of_decide_eq_true hlen) hok hS h)

theorem seqH_nil {a : Act} {w : World} (h : Q .normal a w) : seqH P ops Q S [] a w := h
/-- What reads, and is wanted. -/
theorem seqH_take {i : Nat} {o : Oper} {v : Value} {l : List (Bool × Nat)} {a : Act} {w : World} (ho : ops[i]? = some o) (hw : Region.wanted o (yielded ops a.tmps) = true)
    (hy : ∀ w', S w' → (execOp a.eval o).run P w' = .ok (.value v) w') (h : seqH P ops Q S l (a.put o.dst v) w) : seqH P ops Q S ((true, i) :: l) a w := ⟨o, v, ho, .inl ⟨hw, hy⟩, h⟩
/-- What is not wanted. -/
theorem seqH_skip {i : Nat} {o : Oper} {l : List (Bool × Nat)} {a : Act} {w : World} (ho : ops[i]? = some o) (hw : Region.wanted o (yielded ops a.tmps) = false)
    (h : seqH P ops Q S l (a.put o.dst undef) w) : seqH P ops Q S ((true, i) :: l) a w := ⟨o, undef, ho, .inr ⟨hw, rfl⟩, h⟩
/-- What does more, and is wanted. -/
theorem seqH_eff {i : Nat} {o : Oper} {l : List (Bool × Nat)} {a : Act} {w : World} (ho : ops[i]? = some o) (hw : Region.wanted o (yielded ops a.tmps) = true)
    (h : ∀ K : Act → World → Prop, (∀ a' w', S w' ∧ seqH P ops Q S l a' w' → K a' w') → o.wp P a w K Q) : seqH P ops Q S ((false, i) :: l) a w := by
  show wpOp P ops Q i _ a w
  unfold wpOp
  simp only [ho, hw, if_true]
  exact .inl (h _ fun _ _ h => h)
/-- What does more, and is not wanted. -/
theorem seqH_pass {i : Nat} {o : Oper} {l : List (Bool × Nat)} {a : Act} {w : World} (ho : ops[i]? = some o) (hw : Region.wanted o (yielded ops a.tmps) = false)
    (hS : S w) (h : seqH P ops Q S l (a.put o.dst undef) w) : seqH P ops Q S ((false, i) :: l) a w := by
  show wpOp P ops Q i _ a w
  unfold wpOp
  simp only [ho, hw, Bool.false_eq_true, if_false]
  exact ⟨hS, h⟩
/-- Behind a call that turned nothing that was there. -/
theorem seq_next {w0 wc wn : World} {X : Prop} (hc : Below w0.heap.size w0 wc) (hn : Below wc.heap.size wc wn) (h : Below w0.heap.size w0 wn → X) : Below w0.heap.size w0 wn ∧ X :=
  ⟨hc.trans (hn.mono hc.size), h (hc.trans (hn.mono hc.size))⟩
end
attribute [irreducible] seqH
end Go.Proofs.Ytemknajlmocfeaa
namespace Go.Proofs.Ytemknajlmocfeaa
open Go.RowKit
/-- take: what reads; eff: an effect that stands alone; two: either of two effects may be next. -/
inductive Plan where
  | nil
  | take (i : Nat) (p : Plan)
  | eff (i : Nat) (p : Plan)
  | two (i : Nat) (p : Plan) (j : Nat) (q : Plan)
def Plan.length : Plan → Nat
  | .nil => 0
  | .take _ p => p.length + 1
  | .eff _ p => p.length + 1
  | .two _ p _ q => max p.length q.length + 1
section
variable {P : Program} {ops : Array Oper} {Q : Exit → Act → World → Prop} {S : World → Prop}
def seqP (P : Program) (ops : Array Oper) (Q : Exit → Act → World → Prop) (S : World → Prop) : Plan → Act → World → Prop
  | .nil, a, w => Q .normal a w
  | .take i p, a, w => ∃ o v, ops[i]? = some o ∧ YieldsIf P ops S o v a ∧ seqP P ops Q S p (a.put o.dst v) w
  | .eff i p, a, w => wpOp P ops Q i (fun a' w' => S w' ∧ seqP P ops Q S p a' w') a w
  | .two i p j q, a, w => wpOp P ops Q i (fun a' w' => S w' ∧ seqP P ops Q S p a' w') a w ∧ wpOp P ops Q j (fun a' w' => S w' ∧ seqP P ops Q S q a' w') a w
def okPlan (ops : Array Oper) : Plan → Array Bool → Bool
  | .nil, listed => (Region.ready .any ops listed).isEmpty
  | .take i p, listed => (Region.ready .any ops listed).contains i && Region.free .any ops listed i && okPlan ops p (listed.setIfInBounds i true)
  | .eff i p, listed => (Region.ready .any ops listed == [i]) && okPlan ops p (listed.setIfInBounds i true)
  | .two i p j q, listed => (Region.ready .any ops listed == [i, j]) && okPlan ops p (listed.setIfInBounds i true) && okPlan ops q (listed.setIfInBounds j true)
theorem seqP_sound (hs : Region.noSelect ops = true) (hQ : ∀ (d : Option Tmp) (v : Value) c a w, Q (.panic c) (a.put d v) w → Q (.panic c) a w) :
    ∀ (l : Plan) (fuel : Nat) (listed : Array Bool) (a : Act) (w : World), l.length ≤ fuel → okPlan ops l listed = true → S w → seqP P ops Q S l a w → wpAnyH P .any ops Q S fuel listed a w
  | .nil, fuel, listed, a, w, _, hok, _, h => by
    refine wpAnyH_done ?_ h fuel
    simpa [okPlan] using hok
  | .take i l, 0, listed, a, w, hl, _, _, _ => by simp [Plan.length] at hl
  | .take i l, fuel + 1, listed, a, w, hl, hok, hS, h => by
    simp only [okPlan, Bool.and_eq_true] at hok
    obtain ⟨o, v, ho, hy, hr⟩ := h
    exact wpAnyH_take ho hs hok.1.2 hok.1.1 (hQ _ _) hy hS (seqP_sound hs hQ l fuel _ _ w (by simp [Plan.length] at hl; omega) hok.2 hS hr)
  | .eff i l, 0, listed, a, w, hl, _, _, _ => by simp [Plan.length] at hl
  | .eff i l, fuel + 1, listed, a, w, hl, hok, hS, h => by
    simp only [okPlan, Bool.and_eq_true, beq_iff_eq] at hok
    refine wpAnyH_all hok.1 (by simp) fun j hj => ?_
    obtain rfl : j = i := by simpa using hj
    exact wpOp_mono (fun a' w' ⟨h1, h2⟩ => ⟨h1, seqP_sound hs hQ l fuel _ a' w' (by simp [Plan.length] at hl; omega) hok.2 h1 h2⟩) h
  | .two i p j q, 0, listed, a, w, hl, _, _, _ => by simp [Plan.length] at hl
  | .two i p j q, fuel + 1, listed, a, w, hl, hok, hS, h => by
    simp only [okPlan, Bool.and_eq_true, beq_iff_eq] at hok
    refine wpAnyH_all hok.1.1 (by simp) fun k hk => ?_
    have hk' : k = i ∨ k = j := by simpa using hk
    rcases hk' with rfl | rfl
    · exact wpOp_mono (fun a' w' ⟨h1, h2⟩ => ⟨h1, seqP_sound hs hQ p fuel _ a' w' (by simp [Plan.length] at hl; omega) hok.1.2 h1 h2⟩) h.1
    · exact wpOp_mono (fun a' w' ⟨h1, h2⟩ => ⟨h1, seqP_sound hs hQ q fuel _ a' w' (by simp [Plan.length] at hl; omega) hok.2 h1 h2⟩) h.2
theorem wp_region_plan {id : Nat} {a : Act} {w : World} (l : Plan) (S : World → Prop) (hm : P.follows .mixedOrders = true) (hs : Region.noSelect ops = true)
    (hQ : ∀ (d : Tmp) (v : Value) c (a : Act) w, Q (.panic c) { a with tmps := a.tmps.setIfInBounds d v } w → Q (.panic c) a w) (hlen : decide (l.length ≤ ops.size) = true)
    (hok : okPlan ops l (Array.replicate ops.size false) = true) (hS : S w.drew) (h : seqP P ops Q S l a w.drew) : (Code.region id ops true).wp P Q a w :=
  wp_region_held hm (seqP_sound hs (fun d v c a w h => by cases d with | none => exact h | some d => exact hQ d v c a w h) l ops.size _ a w.drew (of_decide_eq_true hlen) hok hS h)
theorem seqP_nil {a : Act} {w : World} (h : Q .normal a w) : seqP P ops Q S .nil a w := h
theorem seqP_take {i : Nat} {o : Oper} {v : Value} {l : Plan} {a : Act} {w : World} (ho : ops[i]? = some o) (hw : Region.wanted o (yielded ops a.tmps) = true)
    (hy : ∀ w', S w' → (execOp a.eval o).run P w' = .ok (.value v) w') (h : seqP P ops Q S l (a.put o.dst v) w) : seqP P ops Q S (.take i l) a w := ⟨o, v, ho, .inl ⟨hw, hy⟩, h⟩
theorem seqP_skip {i : Nat} {o : Oper} {l : Plan} {a : Act} {w : World} (ho : ops[i]? = some o) (hw : Region.wanted o (yielded ops a.tmps) = false)
    (h : seqP P ops Q S l (a.put o.dst undef) w) : seqP P ops Q S (.take i l) a w := ⟨o, undef, ho, .inr ⟨hw, rfl⟩, h⟩
theorem wpOp_eff {i : Nat} {o : Oper} {l : Plan} {a : Act} {w : World} (ho : ops[i]? = some o) (hw : Region.wanted o (yielded ops a.tmps) = true)
    (h : ∀ K : Act → World → Prop, (∀ a' w', S w' ∧ seqP P ops Q S l a' w' → K a' w') → o.wp P a w K Q) : wpOp P ops Q i (fun a' w' => S w' ∧ seqP P ops Q S l a' w') a w := by
  unfold wpOp
  simp only [ho, hw, if_true]
  exact .inl (h _ fun _ _ h => h)
theorem wpOp_pass {i : Nat} {o : Oper} {l : Plan} {a : Act} {w : World} (ho : ops[i]? = some o) (hw : Region.wanted o (yielded ops a.tmps) = false)
    (hS : S w) (h : seqP P ops Q S l (a.put o.dst undef) w) : wpOp P ops Q i (fun a' w' => S w' ∧ seqP P ops Q S l a' w') a w := by
  unfold wpOp
  simp only [ho, hw, Bool.false_eq_true, if_false]
  exact ⟨hS, h⟩
theorem seqP_eff {i : Nat} {o : Oper} {l : Plan} {a : Act} {w : World} (ho : ops[i]? = some o) (hw : Region.wanted o (yielded ops a.tmps) = true)
    (h : ∀ K : Act → World → Prop, (∀ a' w', S w' ∧ seqP P ops Q S l a' w' → K a' w') → o.wp P a w K Q) : seqP P ops Q S (.eff i l) a w := wpOp_eff ho hw h
theorem seqP_pass {i : Nat} {o : Oper} {l : Plan} {a : Act} {w : World} (ho : ops[i]? = some o) (hw : Region.wanted o (yielded ops a.tmps) = false)
    (hS : S w) (h : seqP P ops Q S l (a.put o.dst undef) w) : seqP P ops Q S (.eff i l) a w := wpOp_pass ho hw hS h
theorem seqP_two {i j : Nat} {o o' : Oper} {p q : Plan} {a : Act} {w : World} (ho : ops[i]? = some o) (ho' : ops[j]? = some o') (hw : Region.wanted o (yielded ops a.tmps) = true) (hw' : Region.wanted o' (yielded ops a.tmps) = true)
    (h : ∀ K : Act → World → Prop, (∀ a' w', S w' ∧ seqP P ops Q S p a' w' → K a' w') → o.wp P a w K Q)
    (h' : ∀ K : Act → World → Prop, (∀ a' w', S w' ∧ seqP P ops Q S q a' w' → K a' w') → o'.wp P a w K Q) : seqP P ops Q S (.two i p j q) a w := ⟨wpOp_eff ho hw h, wpOp_eff ho' hw' h'⟩
/-- append as one operation: elements that lie somewhere, onto one's own. -/
theorem wp_append_owns {α : Type} {o : Oper} {a : Act} {w : World} {K : Act → World → Prop} {Q : Exit → Act → World → Prop} (s x : Operand) (t : TypeId)
    (ho : o.op = .call { callee := .builtin .append, args := #[s, x], argTypes := #[t, t] })
    (base : Nat) (e : TypeId) (z : Value) (size bytes : Nat) (enc : α → List Value) (ht : P.underlying t = some (.slice e)) (hi : ElemInfo P e z size bytes)
    (hzs : z.cells.size = size) (hsz : 0 < size) (hen : ∀ x, (enc x).length = size)
    (v : Value) (xs : List α) (hs : a.eval s = v) (hown : Owns w base e size enc v xs)
    (u : Value) (news : List α) (hx : a.eval x = u) (hr : SlR w enc u news) (h1 : ∀ u ∈ news.flatMap enc, u.oneCell' = true)
    (h63 : xs.length + news.length ≤ maxLen) (hbytes : (xs.length + news.length) * bytes ≤ 140737488355328) (hbase : base ≤ w.heap.size)
    (h : ∀ v' w', Owns w' base e size enc v' (xs ++ news) → w.grownBy w' v.ownBlock → K (a.put o.dst v') w') : o.wp P a w K Q := by
  obtain ⟨i, hi0, hz0, hz1, hz2⟩ := info_parts hi
  obtain ⟨A, c, rfl, hc, hA⟩ := hr
  cases A with
  | none =>
    have hn : news = [] := by
      cases news with
      | nil => rfl
      | cons y ys => obtain ⟨b, off, h, _⟩ := hA (by simp); cases h
    subst hn
    have hrun := run_append_nil (P := P) w base t o.type e i size ht hi0 v _ _ hown c
    unfold Oper.wp execOp
    simp only [List.length_nil] at hx
    simp only [ho, resolve, invoke, builtin, Sem.run_bind, Sem.run_pure, Result.andThen_ok, List.map_toArray, List.map_cons, List.map_nil, hs, hx, hrun]
    exact h v w (by simpa using hown) (World.grownBy.refl w _)
  | some ad =>
    refine wp_append_own w s x t ho base e i z size bytes ht hi0 hz0 hz1 hz2 hzs hsz v xs.length _ hs hown ad news.length c (news.flatMap enc) hx (flat_len hen news) (fun j u hu => ?_) h1 h63 hbytes hbase (fun v' w' h2 h3 _ => h v' w' ?_ h3)
    · have hlen : 0 < news.length := by
        cases news with
        | nil => simp at hu
        | cons y ys => simp
      obtain ⟨b, off, hh, _, hcell⟩ := hA hlen
      injection hh with hh
      subst hh
      have e : ((⟨b, off, none⟩ : Addr).add j) = ⟨b, off + j, none⟩ := by unfold Addr.add; split <;> simp_all
      rw [e]
      exact hcell j u hu
    · unfold Owns
      rw [List.length_append, List.flatMap_append]
      exact h2
end
attribute [irreducible] seqP
end Go.Proofs.Ytemknajlmocfeaa
