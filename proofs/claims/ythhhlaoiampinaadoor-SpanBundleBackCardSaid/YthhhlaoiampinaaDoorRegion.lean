/- A statement whose order Go leaves open, walked once, in one order: what only reads (in every world that meets S it yields the same) is taken as soon as it may come up; what does more stands alone when it comes up, and shows S anew. Also where guards say no. -/
import Derived.OrdersHeld
import Derived.Deep.RegionWith
import Derived.Below
namespace Go.Proofs.YthhhlaoiampinaaDoor
open Go.RowKit

section
variable {P : Program} {ops : Array Oper} {Q : Exit → Act → World → Prop} {S : World → Prop}

/-- The walk in a given order. -/
def seqH (P : Program) (ops : Array Oper) (Q : Exit → Act → World → Prop) (S : World → Prop) : List (Bool × Nat) → Act → World → Prop
  | [], a, w => Q .normal a w
  | (true, i) :: l, a, w => ∃ o v, ops[i]? = some o ∧ YieldsIf P ops S o v a ∧ seqH P ops Q S l (a.put o.dst v) w
  | (false, i) :: l, a, w => wpOp P ops Q i (fun a' w' => S w' ∧ seqH P ops Q S l a' w') a w

/-- The order is one in which everything may come up where it stands, and what does more than read stands alone. -/
def okSeq (ops : Array Oper) : List (Bool × Nat) → Array Bool → Bool
  | [], listed => (Region.ready .any ops listed).isEmpty
  | (true, i) :: l, listed => (Region.ready .any ops listed).contains i && Region.free .any ops listed i && okSeq ops l (listed.setIfInBounds i true)
  | (false, i) :: l, listed => (Region.ready .any ops listed == [i]) && okSeq ops l (listed.setIfInBounds i true)

theorem seqH_sound (hs : Region.noSelect ops = true) (hQ : ∀ (d : Option Tmp) (v : Value) c a w, Q (.panic c) (a.put d v) w → Q (.panic c) a w) :
    ∀ (l : List (Bool × Nat)) (fuel : Nat) (listed : Array Bool) (a : Act) (w : World), l.length ≤ fuel → okSeq ops l listed = true → S w → seqH P ops Q S l a w → wpAnyH P .any ops Q S fuel listed a w
  | [], fuel, listed, a, w, _, hok, _, h => by
    refine wpAnyH_done ?_ h fuel
    simpa [okSeq] using hok
  | (true, i) :: l, 0, listed, a, w, hl, _, _, _ => by simp at hl
  | (true, i) :: l, fuel + 1, listed, a, w, hl, hok, hS, h => by
    simp only [okSeq, Bool.and_eq_true] at hok
    obtain ⟨o, v, ho, hy, hr⟩ := h
    exact wpAnyH_take ho hs hok.1.2 hok.1.1 (hQ _ _) hy hS (seqH_sound hs hQ l fuel _ _ w (by simp at hl; omega) hok.2 hS hr)
  | (false, i) :: l, 0, listed, a, w, hl, _, _, _ => by simp at hl
  | (false, i) :: l, fuel + 1, listed, a, w, hl, hok, hS, h => by
    simp only [okSeq, Bool.and_eq_true, beq_iff_eq] at hok
    refine wpAnyH_all hok.1 (by simp) fun j hj => ?_
    obtain rfl : j = i := by simpa using hj
    exact wpOp_mono (fun a' w' ⟨h1, h2⟩ => ⟨h1, seqH_sound hs hQ l fuel _ a' w' (by simp at hl; omega) hok.2 h1 h2⟩) h

theorem wp_region_seq {id : Nat} {a : Act} {w : World} (l : List (Bool × Nat)) (S : World → Prop) (hm : P.follows .mixedOrders = true) (hs : Region.noSelect ops = true)
    (hQ : ∀ (d : Tmp) (v : Value) c (a : Act) w, Q (.panic c) { a with tmps := a.tmps.setIfInBounds d v } w → Q (.panic c) a w) (hlen : decide (l.length ≤ ops.size) = true)
    (hok : okSeq ops l (Array.replicate ops.size false) = true) (hS : S w.drew) (h : seqH P ops Q S l a w.drew) : (Code.region id ops true).wp P Q a w :=
  wp_region_held hm (seqH_sound hs (fun d v c a w h => by cases d with | none => exact h | some d => exact hQ d v c a w h) l ops.size _ a w.drew (of_decide_eq_true hlen) hok hS h)

theorem seqH_nil {a : Act} {w : World} (h : Q .normal a w) : seqH P ops Q S [] a w := h
/-- What reads, and is wanted. -/
theorem seqH_take {i : Nat} {o : Oper} {v : Value} {l : List (Bool × Nat)} {a : Act} {w : World} (ho : ops[i]? = some o) (hw : Region.wanted o (yielded ops a.tmps) = true)
    (hy : ∀ w', S w' → (execOp a.eval o).run P w' = .ok (.value v) w') (h : seqH P ops Q S l (a.put o.dst v) w) : seqH P ops Q S ((true, i) :: l) a w := ⟨o, v, ho, .inl ⟨hw, hy⟩, h⟩
/-- What is not wanted. -/
theorem seqH_skip {i : Nat} {o : Oper} {l : List (Bool × Nat)} {a : Act} {w : World} (ho : ops[i]? = some o) (hw : Region.wanted o (yielded ops a.tmps) = false)
    (h : seqH P ops Q S l (a.put o.dst undef) w) : seqH P ops Q S ((true, i) :: l) a w := ⟨o, undef, ho, .inr ⟨hw, rfl⟩, h⟩
/-- What does more, and is wanted. -/
theorem seqH_eff {i : Nat} {o : Oper} {l : List (Bool × Nat)} {a : Act} {w : World} (ho : ops[i]? = some o) (hw : Region.wanted o (yielded ops a.tmps) = true)
    (h : ∀ K : Act → World → Prop, (∀ a' w', S w' ∧ seqH P ops Q S l a' w' → K a' w') → o.wp P a w K Q) : seqH P ops Q S ((false, i) :: l) a w := by
  show wpOp P ops Q i _ a w
  unfold wpOp
  simp only [ho, hw, if_true]
  exact .inl (h _ fun _ _ h => h)
/-- What does more, and is not wanted. -/
theorem seqH_pass {i : Nat} {o : Oper} {l : List (Bool × Nat)} {a : Act} {w : World} (ho : ops[i]? = some o) (hw : Region.wanted o (yielded ops a.tmps) = false)
    (hS : S w) (h : seqH P ops Q S l (a.put o.dst undef) w) : seqH P ops Q S ((false, i) :: l) a w := by
  show wpOp P ops Q i _ a w
  unfold wpOp
  simp only [ho, hw, Bool.false_eq_true, if_false]
  exact ⟨hS, h⟩
/-- Behind a call that turned nothing that was there. -/
theorem seq_next {w0 wc wn : World} {X : Prop} (hc : Below w0.heap.size w0 wc) (hn : Below wc.heap.size wc wn) (h : Below w0.heap.size w0 wn → X) : Below w0.heap.size w0 wn ∧ X :=
  ⟨hc.trans (hn.mono hc.size), h (hc.trans (hn.mono hc.size))⟩
end
attribute [irreducible] seqH
end Go.Proofs.YthhhlaoiampinaaDoor
