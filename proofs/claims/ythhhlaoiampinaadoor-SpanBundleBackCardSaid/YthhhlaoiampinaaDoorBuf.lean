/- A row of bytes of the call's own that is written in place: []byte(s), a store, string(b). -/
import Derived.Test.YthhhlaoiampinaaDoorBytes
namespace Go.Proofs.YthhhlaoiampinaaDoor
open Go.RowKit
/-- Block g holds these bytes at its head, and they may be written. -/
def Buf (w : World) (g : Nat) (l : List UInt8) : Prop := g < w.heap.size ∧ ∀ j (hj : j < l.length), w.cell? ⟨g, j, none⟩ = some (bv l[j]) ∧ w.frozen? ⟨g, j, none⟩ = false
theorem Buf.cell {w : World} {g : Nat} {l : List UInt8} (h : Buf w g l) (j : Nat) (hj : j < l.length) : w.cell? ⟨g, j, none⟩ = some (bv l[j]) := (h.2 j hj).1
theorem Buf.free {w : World} {g : Nat} {l : List UInt8} (h : Buf w g l) (j : Nat) (hj : j < l.length) : w.frozen? ⟨g, j, none⟩ = false := (h.2 j hj).2
theorem Buf.below {w w' : World} {g : Nat} {l : List UInt8} (h : Buf w g l) (hb : Below w.heap.size w w') : Buf w' g l :=
  ⟨Nat.lt_of_lt_of_le h.1 hb.size, fun j hj => ⟨(hb.cell (p := ⟨g, j, none⟩) h.1).trans (h.cell j hj), (hb.frozen (p := ⟨g, j, none⟩) h.1).trans (h.free j hj)⟩⟩
theorem Buf.drew {w : World} {g : Nat} {l : List UInt8} (h : Buf w g l) : Buf w.drew g l := h
theorem Buf.alloc {w : World} {g : Nat} {l : List UInt8} (h : Buf w g l) (o : Obj) : Buf (w.alloc o) g l := h.below ((Below.refl _ _).alloc (Nat.le_refl _) o)
theorem Buf.put {w : World} {g : Nat} {l : List UInt8} (h : Buf w g l) (i : Nat) (hi : i < l.length) (c : UInt8) : Buf (w.setCell ⟨g, i, none⟩ (bv c)) g (l.set i c) := by
  refine ⟨by simpa using h.1, fun j hj => ?_⟩
  rw [List.length_set] at hj
  refine ⟨?_, by rw [World.frozen?_setCell]; exact h.free j hj⟩
  by_cases e : i = j
  · subst e
    rw [World.cell?_setCell_same _ _ _ (h.cell i hi)]
    simp
  · rw [World.cell?_setCell_other _ _ _ _ (by intro h; injection h with _ h2 _; exact e h2), h.cell j hj]
    simp [e]
section
variable {P : Program}
theorem buf_new (w : World) (e : TypeId) (s : ByteArray) (cap : Nat) (fr : Nat × Nat) (h0 : s.size ≤ fr.1) : Buf (w.drew.alloc (.cells (bytesRow s cap) e fr)) w.heap.size (sl s) := by
  refine ⟨by simp, fun j hj => ?_⟩
  have hj' : j < s.size := by rwa [sl_len] at hj
  have hh : (w.drew.alloc (.cells (bytesRow s cap) e fr)).heap[w.heap.size]? = some (.cells (bytesRow s cap) e fr) := heap_alloc_new w.drew _
  constructor
  · rw [cell_of_row _ _ j _ _ _ hh]
    simp [bytesRow, sl, bv, Array.getElem?_append, hj']
  · simp only [World.frozen?, hh]
    simp
    omega
theorem wpList_to_bytes {ops : Array Oper} {rest : List Oper} {o : Oper} {a : Act} {Q : Exit → Act → World → Prop} {w : World} (hgd : o.guard = none) (x : Operand) (src dst e : TypeId)
    (ho : o.op = .convert src dst x) (hs : P.underlying src = some .string) (hd : P.underlying dst = some (.slice e)) (he : P.underlying e = some (.int .u8)) (s : ByteArray) (hx : a.eval x = .string s)
    (h : ∀ c w1, s.size ≤ c → Buf w1 w.heap.size (sl s) → Below w.heap.size w w1 → w1.heap.size = w.heap.size + 1 → wpList P ops Q rest (a.put o.dst (.slice (some ⟨w.heap.size, 0, none⟩) s.size c)) w1) : wpList P ops Q (o :: rest) a w := by
  refine wpList_plain hgd fun K hK => ?_
  unfold Oper.wp execOp
  simp only [ho, hx, Sem.run_bind, Result.andThen_ok, run_bytes_of_string w src dst e s hs hd he]
  have hc : s.size ≤ grownCap w s.size 0 e := grownCap_ge _ _ _ _
  refine hK _ _ (h _ _ hc (buf_new w e s _ _ ?_) ((Below.refl _ _).drew.alloc (by simp) _) (by simp))
  simp [bytesRow]
/-- 'string(b)'. -/
theorem run_string_buf {src dst e : TypeId} (hs : P.underlying src = some (.slice e)) (he : P.underlying e = some (.int .u8)) (hd : P.underlying dst = some .string) {w : World} {g : Nat} {l : List UInt8} (h : Buf w g l) (cap : Nat) :
    (convert src dst (.slice (some ⟨g, 0, none⟩) l.length cap)).run P w = .ok (.string (mkS l)) w := by
  refine run_convert_bytes_back w src dst e ⟨g, 0, none⟩ cap l hs he hd (fun j hj => ?_)
  have e : ((⟨g, 0, none⟩ : Addr).add j) = ⟨g, j, none⟩ := by unfold Addr.add; split <;> simp_all
  rw [e]; exact h.cell j hj
end
end Go.Proofs.YthhhlaoiampinaaDoor
