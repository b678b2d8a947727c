import Derived.OrdersHeld
import Derived.Below
import Derived.Deep.RegionWith
import Derived.Test.YtgnblkmpoigejaaGreatDoorU0
import Derived.Great.Walk
import Derived.Maps.OwnSet
set_option linter.unusedVariables false
set_option linter.unusedSimpArgs false
namespace Go.Proofs.YtgnblkmpoigejaaGreatDoor
open Go.RowKit
section
variable {P : Program} {ops : Array Oper} {Q : Exit → Act → World → Prop} {S : World → Prop} {md : Region.Mode} {last : Nat}
def wpAnyL (P : Program) (md : Region.Mode) (ops : Array Oper) (Q : Exit → Act → World → Prop) (S : World → Prop) (last : Nat) : Nat → Array Bool → Act → World → Prop
 | 0, listed, a, w => Region.ready md ops listed = [] ∧ Q .normal a w
 | fuel + 1, listed, a, w =>
  (Region.ready md ops listed = [] → Q .normal a w) ∧
  ∀ i ∈ Region.ready md ops listed, wpOp P ops Q i (fun a' w' => (i ≠ last → S w') ∧ wpAnyL P md ops Q S last fuel (listed.setIfInBounds i true) a' w') a w
theorem wpAny_of_last : ∀ (fuel : Nat) (listed : Array Bool) (a : Act) (w : World), wpAnyL P md ops Q S last fuel listed a w → wpAny P md ops Q fuel listed a w
 | 0, _, _, _, h => h
 | fuel + 1, _, _, _, h => ⟨h.1, fun i hi => wpOp_mono (fun a' w' h' => wpAny_of_last fuel _ a' w' h'.2) (h.2 i hi)⟩
def Closed (md : Region.Mode) (ops : Array Oper) (listed : Array Bool) : Prop :=
 ∀ j oj, ops[j]? = some oj → listed.getD j false = true → ∀ e ∈ oj.after, Region.binds md e = true → listed.getD e.on false = true
theorem Closed.start (n : Nat) : Closed md ops (Array.replicate n false) := by
 intro j oj _ h
 exfalso
 simp only [Array.getD_eq_getD_getElem?, Array.getElem?_replicate] at h
 split at h <;> simp at h
theorem Closed.step {listed : Array Bool} {i : Nat} (h : Closed md ops listed) (hi : i ∈ Region.ready md ops listed) : Closed md ops (listed.setIfInBounds i true) := by
 intro j oj hj hl e he hb
 by_cases hij : i = j
 ·subst hij
  obtain ⟨_, o, ho, hall⟩ := mem_ready.1 hi
  rw [hj] at ho
  cases ho
  exact getD_set_true (hall e he hb)
 ·rw [getD_set_ne false hij] at hl
  exact getD_set_true (h j oj hj hl e he hb)
def chainTo (md : Region.Mode) (ops : Array Oper) (last : Nat) : Bool :=
 (List.range ops.size).all fun i => i == last || (List.range ops.size).any fun j => decide (i < j) && match ops[j]? with
  | some oj => oj.after.any (fun e => Region.binds md e && e.on == i)
  | none => false
theorem all_listed {listed : Array Bool} (hc : chainTo md ops last = true) (h : Closed md ops listed) (hl : last ∈ Region.ready md ops listed) :
  ∀ (n i : Nat), ops.size - i ≤ n → i < ops.size → i ≠ last → listed.getD i false = true
 | 0, i, hn, hi, _ => by omega
 | n + 1, i, hn, hi, hne => by
  have h1 := List.all_eq_true.1 hc i (List.mem_range.2 hi)
  simp only [Bool.or_eq_true, beq_iff_eq, hne, false_or, List.any_eq_true, List.mem_range, Bool.and_eq_true, decide_eq_true_eq] at h1
  obtain ⟨j, hj, hij, hm⟩ := h1
  have hoj := Array.getElem?_eq_getElem hj
  rw [hoj] at hm
  obtain ⟨e, he, hb⟩ := Array.any_eq_true'.1 hm
  simp only [Bool.and_eq_true, beq_iff_eq] at hb
  by_cases hjl : j = last
  ·subst hjl
   obtain ⟨_, o, ho, hall⟩ := mem_ready.1 hl
   rw [hoj] at ho
   cases ho
   have := hall e he hb.1
   rwa [hb.2] at this
  ·have := h j _ hoj (all_listed hc h hl n j (by omega) hj hjl) e he hb.1
   rwa [hb.2] at this
theorem only_last {listed : Array Bool} (hc : chainTo md ops last = true) (h : Closed md ops listed) (hl : last ∈ Region.ready md ops listed) {i : Nat} (hi : i ∈ Region.ready md ops listed) : i = last := by
 by_cases hne : i = last
 ·exact hne
 ·exfalso
  obtain ⟨h0, o, ho, _⟩ := mem_ready.1 hi
  have hlt := (Array.getElem?_eq_some_iff.1 ho).1
  have h1 := all_listed hc h hl _ i (Nat.le_refl _) hlt hne
  rw [Array.getD_eq_getD_getElem?] at h0 h1
  cases hg : listed[i]? with
  | none => rw [hg] at h1; cases h1
  | some b => rw [hg] at h0 h1; simp at h0 h1; rw [h0] at h1; cases h1
theorem wpAnyL_first {i : Nat} {oi : Oper} {v : Value} (hi : ops[i]? = some oi) (hne : i ≠ last) (hch : chainTo md ops last = true) (hsel : ∀ (j : Nat) (o : Oper) cs b, ops[j]? = some o → o.op ≠ .select cs b)
  (hQ : ∀ c a w, Q (.panic c) (a.put oi.dst v) w → Q (.panic c) a w) :
  ∀ (fuel : Nat) (listed : Array Bool) (a : Act) (w : World), Closed md ops listed →
   (∀ j oj, ops[j]? = some oj → j ≠ i → listed.getD j true = false → (∀ e ∈ oj.after, Region.binds md e = true → e.on ≠ i) → oi.apart ops oj = true) →
   i ∈ Region.ready md ops listed → YieldsIf P ops S oi v a → S w →
   wpAnyL P md ops Q S last fuel (listed.setIfInBounds i true) (a.put oi.dst v) w → wpAnyL P md ops Q S last (fuel + 1) listed a w := by
 intro fuel
 induction fuel with
 | zero =>
  intro listed a w _ _ hr hy hS H
  refine ⟨fun h => (by rw [h] at hr; cases hr), fun j hj => ?_⟩
  by_cases hji : j = i
  ·subst hji; exact hy.wpOp hi hS ⟨fun _ => hS, H⟩
  ·have := ready_mono hj hji
   rw [H.1] at this
   cases this
 | succ fuel ih =>
  intro listed a w hcl hfree hr hy hS H
  refine ⟨fun h => (by rw [h] at hr; cases hr), fun j hj => ?_⟩
  by_cases hji : j = i
  ·subst hji; exact hy.wpOp hi hS ⟨fun _ => hS, H⟩
  ·have hjl : j ≠ last := fun e => by
    subst e
    exact hne (only_last hch hcl hj hr)
   have h1 := H.2 j (ready_mono hj hji)
   obtain ⟨hjun, oj, hoj, hall⟩ := mem_ready.1 hj
   have hnot : ∀ e ∈ oj.after, Region.binds md e = true → e.on ≠ i := fun e he hb heq => by
    have h1 := hall e he hb
    have h0 := (mem_ready.1 hr).1
    rw [heq] at h1
    rcases Nat.lt_or_ge i listed.size with h' | h'
    ·simp [h'] at h0 h1; rw [h0] at h1; cases h1
    ·simp [Array.getElem?_eq_none h'] at h1
   have h2 := wpOp_putIf hoj (hfree j oj hoj hji hjun hnot) (fun cs b => hsel i oi cs b hi) (fun cs b => hsel j oj cs b hoj) hQ hy h1
   have hfree' : ∀ k ok, ops[k]? = some ok → k ≠ i → (listed.setIfInBounds j true).getD k true = false →
     (∀ e ∈ ok.after, Region.binds md e = true → e.on ≠ i) → oi.apart ops ok = true := fun k ok hk hki hun hno => by
    refine hfree k ok hk hki ?_ hno
    by_cases hjk : j = k
    ·subst hjk; exact hjun
    ·rw [getD_set_ne true hjk] at hun; exact hun
   refine wpOp_mono (fun a' w' h3 => ⟨h3.2.1, ih (listed.setIfInBounds j true) a' w' (hcl.step hj) hfree' (ready_mono hr (Ne.symm hji)) h3.1 (h3.2.1 hjl) ?_⟩) h2
   rw [Array.setIfInBounds_comm _ _ hji]
   exact h3.2.2
def seqL (P : Program) (ops : Array Oper) (Q : Exit → Act → World → Prop) (S : World → Prop) (last : Nat) : List (Bool × Nat) → Act → World → Prop
 | [], a, w => Q .normal a w
 | (true, i) :: l, a, w => ∃ o v, ops[i]? = some o ∧ YieldsIf P ops S o v a ∧ seqL P ops Q S last l (a.put o.dst v) w
 | (false, i) :: l, a, w => wpOp P ops Q i (fun a' w' => (i ≠ last → S w') ∧ seqL P ops Q S last l a' w') a w
def okSeqL (ops : Array Oper) (last : Nat) : List (Bool × Nat) → Array Bool → Bool
 | [], listed => (Region.ready .any ops listed).isEmpty
 | (true, i) :: l, listed => i != last && (Region.ready .any ops listed).contains i && Region.free .any ops listed i && okSeqL ops last l (listed.setIfInBounds i true)
 | (false, i) :: l, listed => (Region.ready .any ops listed == [i]) && (i != last || l.isEmpty) && okSeqL ops last l (listed.setIfInBounds i true)
theorem seqL_sound (hch : chainTo .any ops last = true) (hs : Region.noSelect ops = true) (hQ : ∀ (d : Option Tmp) (v : Value) c a w, Q (.panic c) (a.put d v) w → Q (.panic c) a w) :
  ∀ (l : List (Bool × Nat)) (fuel : Nat) (listed : Array Bool) (a : Act) (w : World), Closed .any ops listed → l.length ≤ fuel → okSeqL ops last l listed = true → (l ≠ [] → S w) → seqL P ops Q S last l a w → wpAnyL P .any ops Q S last fuel listed a w
 | [], fuel, listed, a, w, _, _, hok, _, h => by
  have hr : Region.ready .any ops listed = [] := by simpa [okSeqL] using hok
  cases fuel with
  | zero => exact ⟨hr, h⟩
  | succ fuel => exact ⟨fun _ => h, by rw [hr]; simp⟩
 | (true, i) :: l, 0, listed, a, w, _, hl, _, _, _ => by simp at hl
 | (true, i) :: l, fuel + 1, listed, a, w, hcl, hl, hok, hS, h => by
  simp only [okSeqL, Bool.and_eq_true, bne_iff_ne] at hok
  obtain ⟨o, v, ho, hy, hr⟩ := h
  have hri : i ∈ Region.ready .any ops listed := by simpa using hok.1.1.2
  exact wpAnyL_first ho hok.1.1.1 hch (Region.noSelect_spec hs) (hQ _ _) fuel listed a w hcl (Region.free_spec ho hok.1.2) hri hy (hS (by simp))
   (seqL_sound hch hs hQ l fuel _ _ w (hcl.step hri) (by simp at hl; omega) hok.2 (fun _ => hS (by simp)) hr)
 | (false, i) :: l, 0, listed, a, w, _, hl, _, _, _ => by simp at hl
 | (false, i) :: l, fuel + 1, listed, a, w, hcl, hl, hok, hS, h => by
  simp only [okSeqL, Bool.and_eq_true, beq_iff_eq, Bool.or_eq_true, bne_iff_ne, List.isEmpty_iff] at hok
  have hri : i ∈ Region.ready .any ops listed := by rw [hok.1.1]; simp
  refine ⟨fun h0 => (by rw [h0] at hri; cases hri), fun j hj => ?_⟩
  obtain rfl : j = i := by rw [hok.1.1] at hj; simpa using hj
  refine wpOp_mono (fun a' w' ⟨h1, h2⟩ => ⟨h1, seqL_sound hch hs hQ l fuel _ a' w' (hcl.step hri) (by simp at hl; omega) hok.2 (fun hne => h1 ?_) h2⟩) h
  rcases hok.1.2 with h' | h'
  ·exact h'
  ·exact absurd h' hne
theorem wp_region_last {id : Nat} {a : Act} {w : World} (l : List (Bool × Nat)) (last : Nat) (S : World → Prop) (hm : P.follows .mixedOrders = true) (hch : chainTo .any ops last = true) (hs : Region.noSelect ops = true)
  (hQ : ∀ (d : Tmp) (v : Value) c (a : Act) w, Q (.panic c) { a with tmps := a.tmps.setIfInBounds d v } w → Q (.panic c) a w) (hlen : decide (l.length ≤ ops.size) = true)
  (hok : okSeqL ops last l (Array.replicate ops.size false) = true) (hS : S w.drew) (h : seqL P ops Q S last l a w.drew) : (Code.region id ops true).wp P Q a w :=
 wp_region_any hm (wpAny_of_last _ _ _ _ (seqL_sound hch hs (fun d v c a w h => by cases d with | none => exact h | some d => exact hQ d v c a w h) l ops.size _ a w.drew (Closed.start _) (of_decide_eq_true hlen) hok (fun _ => hS) h))
theorem seqL_nil {a : Act} {w : World} (h : Q .normal a w) : seqL P ops Q S last [] a w := h
theorem seqL_take {i : Nat} {o : Oper} {v : Value} {l : List (Bool × Nat)} {a : Act} {w : World} (ho : ops[i]? = some o) (hw : Region.wanted o (yielded ops a.tmps) = true)
  (hy : ∀ w', S w' → (execOp a.eval o).run P w' = .ok (.value v) w') (h : seqL P ops Q S last l (a.put o.dst v) w) : seqL P ops Q S last ((true, i) :: l) a w := ⟨o, v, ho, .inl ⟨hw, hy⟩, h⟩
theorem seqL_skip {i : Nat} {o : Oper} {l : List (Bool × Nat)} {a : Act} {w : World} (ho : ops[i]? = some o) (hw : Region.wanted o (yielded ops a.tmps) = false)
  (h : seqL P ops Q S last l (a.put o.dst undef) w) : seqL P ops Q S last ((true, i) :: l) a w := ⟨o, undef, ho, .inr ⟨hw, rfl⟩, h⟩
theorem seqL_eff {i : Nat} {o : Oper} {l : List (Bool × Nat)} {a : Act} {w : World} (ho : ops[i]? = some o) (hw : Region.wanted o (yielded ops a.tmps) = true)
  (h : ∀ K : Act → World → Prop, (∀ a' w', (i ≠ last → S w') ∧ seqL P ops Q S last l a' w' → K a' w') → o.wp P a w K Q) : seqL P ops Q S last ((false, i) :: l) a w := by
 show wpOp P ops Q i _ a w
 unfold wpOp
 simp only [ho, hw, if_true]
 exact .inl (h _ fun _ _ h => h)
end
attribute [irreducible] seqL
section
variable {P : Program} {ops : Array Oper} {Q : Exit → Act → World → Prop} {S : World → Prop}
def seqH (P : Program) (ops : Array Oper) (Q : Exit → Act → World → Prop) (S : World → Prop) : List (Bool × Nat) → Act → World → Prop
 | [], a, w => Q .normal a w
 | (true, i) :: l, a, w => ∃ o v, ops[i]? = some o ∧ YieldsIf P ops S o v a ∧ seqH P ops Q S l (a.put o.dst v) w
 | (false, i) :: l, a, w => wpOp P ops Q i (fun a' w' => S w' ∧ seqH P ops Q S l a' w') a w
def okSeq (ops : Array Oper) : List (Bool × Nat) → Array Bool → Bool
 | [], listed => (Region.ready .any ops listed).isEmpty
 | (true, i) :: l, listed => (Region.ready .any ops listed).contains i && Region.free .any ops listed i && okSeq ops l (listed.setIfInBounds i true)
 | (false, i) :: l, listed => (Region.ready .any ops listed == [i]) && okSeq ops l (listed.setIfInBounds i true)
theorem seqH_sound (hs : Region.noSelect ops = true) (hQ : ∀ (d : Option Tmp) (v : Value) c a w, Q (.panic c) (a.put d v) w → Q (.panic c) a w) :
  ∀ (l : List (Bool × Nat)) (fuel : Nat) (listed : Array Bool) (a : Act) (w : World), l.length ≤ fuel → okSeq ops l listed = true → S w → seqH P ops Q S l a w → wpAnyH P .any ops Q S fuel listed a w
 | [], fuel, listed, a, w, _, hok, _, h => by
  refine wpAnyH_done ?_ h fuel
  simpa [okSeq] using hok
 | (true, i) :: l, 0, listed, a, w, hl, _, _, _ => by simp at hl
 | (true, i) :: l, fuel + 1, listed, a, w, hl, hok, hS, h => by
  simp only [okSeq, Bool.and_eq_true] at hok
  obtain ⟨o, v, ho, hy, hr⟩ := h
  exact wpAnyH_take ho hs hok.1.2 hok.1.1 (hQ _ _) hy hS (seqH_sound hs hQ l fuel _ _ w (by simp at hl; omega) hok.2 hS hr)
 | (false, i) :: l, 0, listed, a, w, hl, _, _, _ => by simp at hl
 | (false, i) :: l, fuel + 1, listed, a, w, hl, hok, hS, h => by
  simp only [okSeq, Bool.and_eq_true, beq_iff_eq] at hok
  refine wpAnyH_all hok.1 (by simp) fun j hj => ?_
  obtain rfl : j = i := by simpa using hj
  exact wpOp_mono (fun a' w' ⟨h1, h2⟩ => ⟨h1, seqH_sound hs hQ l fuel _ a' w' (by simp at hl; omega) hok.2 h1 h2⟩) h
theorem wp_region_seq {id : Nat} {a : Act} {w : World} (l : List (Bool × Nat)) (S : World → Prop) (hm : P.follows .mixedOrders = true) (hs : Region.noSelect ops = true)
  (hQ : ∀ (d : Tmp) (v : Value) c (a : Act) w, Q (.panic c) { a with tmps := a.tmps.setIfInBounds d v } w → Q (.panic c) a w) (hlen : decide (l.length ≤ ops.size) = true)
  (hok : okSeq ops l (Array.replicate ops.size false) = true) (hS : S w.drew) (h : seqH P ops Q S l a w.drew) : (Code.region id ops true).wp P Q a w :=
 wp_region_held hm (seqH_sound hs (fun d v c a w h => by cases d with | none => exact h | some d => exact hQ d v c a w h) l ops.size _ a w.drew (of_decide_eq_true hlen) hok hS h)
theorem seqH_nil {a : Act} {w : World} (h : Q .normal a w) : seqH P ops Q S [] a w := h
theorem seqH_take {i : Nat} {o : Oper} {v : Value} {l : List (Bool × Nat)} {a : Act} {w : World} (ho : ops[i]? = some o) (hw : Region.wanted o (yielded ops a.tmps) = true)
  (hy : ∀ w', S w' → (execOp a.eval o).run P w' = .ok (.value v) w') (h : seqH P ops Q S l (a.put o.dst v) w) : seqH P ops Q S ((true, i) :: l) a w := ⟨o, v, ho, .inl ⟨hw, hy⟩, h⟩
theorem seqH_skip {i : Nat} {o : Oper} {l : List (Bool × Nat)} {a : Act} {w : World} (ho : ops[i]? = some o) (hw : Region.wanted o (yielded ops a.tmps) = false)
  (h : seqH P ops Q S l (a.put o.dst undef) w) : seqH P ops Q S ((true, i) :: l) a w := ⟨o, undef, ho, .inr ⟨hw, rfl⟩, h⟩
theorem seqH_eff {i : Nat} {o : Oper} {l : List (Bool × Nat)} {a : Act} {w : World} (ho : ops[i]? = some o) (hw : Region.wanted o (yielded ops a.tmps) = true)
  (h : ∀ K : Act → World → Prop, (∀ a' w', S w' ∧ seqH P ops Q S l a' w' → K a' w') → o.wp P a w K Q) : seqH P ops Q S ((false, i) :: l) a w := by
 show wpOp P ops Q i _ a w
 unfold wpOp
 simp only [ho, hw, if_true]
 exact .inl (h _ fun _ _ h => h)
theorem seqH_pass {i : Nat} {o : Oper} {l : List (Bool × Nat)} {a : Act} {w : World} (ho : ops[i]? = some o) (hw : Region.wanted o (yielded ops a.tmps) = false)
  (hS : S w) (h : seqH P ops Q S l (a.put o.dst undef) w) : seqH P ops Q S ((false, i) :: l) a w := by
 show wpOp P ops Q i _ a w
 unfold wpOp
 simp only [ho, hw, Bool.false_eq_true, if_false]
 exact ⟨hS, h⟩
theorem seq_next {w0 wc wn : World} {X : Prop} (hc : Below w0.heap.size w0 wc) (hn : Below wc.heap.size wc wn) (h : Below w0.heap.size w0 wn → X) : Below w0.heap.size w0 wn ∧ X :=
 ⟨hc.trans (hn.mono hc.size), h (hc.trans (hn.mono hc.size))⟩
end
attribute [irreducible] seqH
inductive Plan where
 | nil
 | take (i : Nat) (p : Plan)
 | eff (i : Nat) (p : Plan)
 | two (i : Nat) (p : Plan) (j : Nat) (q : Plan)
def Plan.length : Plan → Nat
 | .nil => 0
 | .take _ p => p.length + 1
 | .eff _ p => p.length + 1
 | .two _ p _ q => max p.length q.length + 1
section
variable {P : Program} {ops : Array Oper} {Q : Exit → Act → World → Prop} {S : World → Prop}
def seqP (P : Program) (ops : Array Oper) (Q : Exit → Act → World → Prop) (S : World → Prop) : Plan → Act → World → Prop
 | .nil, a, w => Q .normal a w
 | .take i p, a, w => ∃ o v, ops[i]? = some o ∧ YieldsIf P ops S o v a ∧ seqP P ops Q S p (a.put o.dst v) w
 | .eff i p, a, w => wpOp P ops Q i (fun a' w' => S w' ∧ seqP P ops Q S p a' w') a w
 | .two i p j q, a, w => wpOp P ops Q i (fun a' w' => S w' ∧ seqP P ops Q S p a' w') a w ∧ wpOp P ops Q j (fun a' w' => S w' ∧ seqP P ops Q S q a' w') a w
def okPlan (ops : Array Oper) : Plan → Array Bool → Bool
 | .nil, listed => (Region.ready .any ops listed).isEmpty
 | .take i p, listed => (Region.ready .any ops listed).contains i && Region.free .any ops listed i && okPlan ops p (listed.setIfInBounds i true)
 | .eff i p, listed => (Region.ready .any ops listed == [i]) && okPlan ops p (listed.setIfInBounds i true)
 | .two i p j q, listed => (Region.ready .any ops listed == [i, j]) && okPlan ops p (listed.setIfInBounds i true) && okPlan ops q (listed.setIfInBounds j true)
theorem seqP_sound (hs : Region.noSelect ops = true) (hQ : ∀ (d : Option Tmp) (v : Value) c a w, Q (.panic c) (a.put d v) w → Q (.panic c) a w) :
  ∀ (l : Plan) (fuel : Nat) (listed : Array Bool) (a : Act) (w : World), l.length ≤ fuel → okPlan ops l listed = true → S w → seqP P ops Q S l a w → wpAnyH P .any ops Q S fuel listed a w
 | .nil, fuel, listed, a, w, _, hok, _, h => by
  refine wpAnyH_done ?_ h fuel
  simpa [okPlan] using hok
 | .take i l, 0, listed, a, w, hl, _, _, _ => by simp [Plan.length] at hl
 | .take i l, fuel + 1, listed, a, w, hl, hok, hS, h => by
  simp only [okPlan, Bool.and_eq_true] at hok
  obtain ⟨o, v, ho, hy, hr⟩ := h
  exact wpAnyH_take ho hs hok.1.2 hok.1.1 (hQ _ _) hy hS (seqP_sound hs hQ l fuel _ _ w (by simp [Plan.length] at hl; omega) hok.2 hS hr)
 | .eff i l, 0, listed, a, w, hl, _, _, _ => by simp [Plan.length] at hl
 | .eff i l, fuel + 1, listed, a, w, hl, hok, hS, h => by
  simp only [okPlan, Bool.and_eq_true, beq_iff_eq] at hok
  refine wpAnyH_all hok.1 (by simp) fun j hj => ?_
  obtain rfl : j = i := by simpa using hj
  exact wpOp_mono (fun a' w' ⟨h1, h2⟩ => ⟨h1, seqP_sound hs hQ l fuel _ a' w' (by simp [Plan.length] at hl; omega) hok.2 h1 h2⟩) h
 | .two i p j q, 0, listed, a, w, hl, _, _, _ => by simp [Plan.length] at hl
 | .two i p j q, fuel + 1, listed, a, w, hl, hok, hS, h => by
  simp only [okPlan, Bool.and_eq_true, beq_iff_eq] at hok
  refine wpAnyH_all hok.1.1 (by simp) fun k hk => ?_
  have hk' : k = i ∨ k = j := by simpa using hk
  rcases hk' with rfl | rfl
  ·exact wpOp_mono (fun a' w' ⟨h1, h2⟩ => ⟨h1, seqP_sound hs hQ p fuel _ a' w' (by simp [Plan.length] at hl; omega) hok.1.2 h1 h2⟩) h.1
  ·exact wpOp_mono (fun a' w' ⟨h1, h2⟩ => ⟨h1, seqP_sound hs hQ q fuel _ a' w' (by simp [Plan.length] at hl; omega) hok.2 h1 h2⟩) h.2
theorem wp_region_plan {id : Nat} {a : Act} {w : World} (l : Plan) (S : World → Prop) (hm : P.follows .mixedOrders = true) (hs : Region.noSelect ops = true)
  (hQ : ∀ (d : Tmp) (v : Value) c (a : Act) w, Q (.panic c) { a with tmps := a.tmps.setIfInBounds d v } w → Q (.panic c) a w) (hlen : decide (l.length ≤ ops.size) = true)
  (hok : okPlan ops l (Array.replicate ops.size false) = true) (hS : S w.drew) (h : seqP P ops Q S l a w.drew) : (Code.region id ops true).wp P Q a w :=
 wp_region_held hm (seqP_sound hs (fun d v c a w h => by cases d with | none => exact h | some d => exact hQ d v c a w h) l ops.size _ a w.drew (of_decide_eq_true hlen) hok hS h)
theorem seqP_nil {a : Act} {w : World} (h : Q .normal a w) : seqP P ops Q S .nil a w := h
theorem seqP_take {i : Nat} {o : Oper} {v : Value} {l : Plan} {a : Act} {w : World} (ho : ops[i]? = some o) (hw : Region.wanted o (yielded ops a.tmps) = true)
  (hy : ∀ w', S w' → (execOp a.eval o).run P w' = .ok (.value v) w') (h : seqP P ops Q S l (a.put o.dst v) w) : seqP P ops Q S (.take i l) a w := ⟨o, v, ho, .inl ⟨hw, hy⟩, h⟩
theorem seqP_skip {i : Nat} {o : Oper} {l : Plan} {a : Act} {w : World} (ho : ops[i]? = some o) (hw : Region.wanted o (yielded ops a.tmps) = false)
  (h : seqP P ops Q S l (a.put o.dst undef) w) : seqP P ops Q S (.take i l) a w := ⟨o, undef, ho, .inr ⟨hw, rfl⟩, h⟩
theorem wpOp_eff {i : Nat} {o : Oper} {l : Plan} {a : Act} {w : World} (ho : ops[i]? = some o) (hw : Region.wanted o (yielded ops a.tmps) = true)
  (h : ∀ K : Act → World → Prop, (∀ a' w', S w' ∧ seqP P ops Q S l a' w' → K a' w') → o.wp P a w K Q) : wpOp P ops Q i (fun a' w' => S w' ∧ seqP P ops Q S l a' w') a w := by
 unfold wpOp
 simp only [ho, hw, if_true]
 exact .inl (h _ fun _ _ h => h)
theorem seqP_eff {i : Nat} {o : Oper} {l : Plan} {a : Act} {w : World} (ho : ops[i]? = some o) (hw : Region.wanted o (yielded ops a.tmps) = true)
  (h : ∀ K : Act → World → Prop, (∀ a' w', S w' ∧ seqP P ops Q S l a' w' → K a' w') → o.wp P a w K Q) : seqP P ops Q S (.eff i l) a w := wpOp_eff ho hw h
theorem seqP_two {i j : Nat} {o o' : Oper} {p q : Plan} {a : Act} {w : World} (ho : ops[i]? = some o) (ho' : ops[j]? = some o') (hw : Region.wanted o (yielded ops a.tmps) = true) (hw' : Region.wanted o' (yielded ops a.tmps) = true)
  (h : ∀ K : Act → World → Prop, (∀ a' w', S w' ∧ seqP P ops Q S p a' w' → K a' w') → o.wp P a w K Q)
  (h' : ∀ K : Act → World → Prop, (∀ a' w', S w' ∧ seqP P ops Q S q a' w' → K a' w') → o'.wp P a w K Q) : seqP P ops Q S (.two i p j q) a w := ⟨wpOp_eff ho hw h, wpOp_eff ho' hw' h'⟩
theorem wp_append_owns {α : Type} {o : Oper} {a : Act} {w : World} {K : Act → World → Prop} {Q : Exit → Act → World → Prop} (s x : Operand) (t : TypeId)
  (ho : o.op = .call { callee := .builtin .append, args := #[s, x], argTypes := #[t, t] })
  (base : Nat) (e : TypeId) (z : Value) (size bytes : Nat) (enc : α → List Value) (ht : P.underlying t = some (.slice e)) (hi : ElemInfo P e z size bytes)
  (hzs : z.cells.size = size) (hsz : 0 < size) (hen : ∀ x, (enc x).length = size)
  (v : Value) (xs : List α) (hs : a.eval s = v) (hown : Owns w base e size enc v xs)
  (u : Value) (news : List α) (hx : a.eval x = u) (hr : SlR w enc u news) (h1 : ∀ u ∈ news.flatMap enc, u.oneCell' = true)
  (h63 : xs.length + news.length ≤ maxLen) (hbytes : (xs.length + news.length) * bytes ≤ 140737488355328) (hbase : base ≤ w.heap.size)
  (h : ∀ v' w', Owns w' base e size enc v' (xs ++ news) → w.grownBy w' v.ownBlock → K (a.put o.dst v') w') : o.wp P a w K Q := by
 obtain ⟨i, hi0, hz0, hz1, hz2⟩ := info_parts hi
 obtain ⟨A, c, rfl, hc, hA⟩ := hr
 cases A with
 | none =>
  have hn : news = [] := by
   cases news with
   | nil => rfl
   | cons y ys => obtain ⟨b, off, h, _⟩ := hA (by simp); cases h
  subst hn
  have hrun := run_append_nil (P := P) w base t o.type e i size ht hi0 v _ _ hown c
  unfold Oper.wp execOp
  simp only [List.length_nil] at hx
  simp only [ho, resolve, invoke, builtin, Sem.run_bind, Sem.run_pure, Result.andThen_ok, List.map_toArray, List.map_cons, List.map_nil, hs, hx, hrun]
  exact h v w (by simpa using hown) (World.grownBy.refl w _)
 | some ad =>
  refine wp_append_own w s x t ho base e i z size bytes ht hi0 hz0 hz1 hz2 hzs hsz v xs.length _ hs hown ad news.length c (news.flatMap enc) hx (flat_len hen news) (fun j u hu => ?_) h1 h63 hbytes hbase (fun v' w' h2 h3 _ => h v' w' ?_ h3)
  ·have hlen : 0 < news.length := by
    cases news with
    | nil => simp at hu
    | cons y ys => simp
   obtain ⟨b, off, hh, _, hcell⟩ := hA hlen
   injection hh with hh
   subst hh
   have e : ((⟨b, off, none⟩ : Addr).add j) = ⟨b, off + j, none⟩ := by unfold Addr.add; split <;> simp_all
   rw [e]
   exact hcell j u hu
  ·unfold Owns
   rw [List.length_append, List.flatMap_append]
   exact h2
end
attribute [irreducible] seqP
set_option maxRecDepth 20000
structure Two (n0 : Lim) (W W5 : World) (p q : Nat) (u v : Value) : Prop where
 cp : W5.cell? ⟨p, 3, none⟩ = some u
 cq : W5.cell? ⟨q, 2, none⟩ = some v
 c3 : ∀ a, a ≠ p → W5.cell? ⟨a, 3, none⟩ = W.cell? ⟨a, 3, none⟩
 c2 : ∀ a, a ≠ q → W5.cell? ⟨a, 2, none⟩ = W.cell? ⟨a, 2, none⟩
 oth : ∀ a i, i ≠ 2 → i ≠ 3 → W5.cell? ⟨a, i, none⟩ = W.cell? ⟨a, i, none⟩
 node : ∀ x, NodeB W x → NodeB W5 x
 root : ∀ c mb, RootB W c mb → RootB W5 c mb
 mp : ∀ kt mb f n, MapS Tryz.prog W kt mb f n → MapS Tryz.prog W5 kt mb f n
 rf : ∀ mq, RG [183, 180] mq n0 W W5
 sz : W5.heap.size = W.heap.size
def Cel (W : World) (n0 : Lim) (g : Nat) : Prop := n0.ok g ∧ ∃ t cs, Blk W g t cs ∧ (t = 183 ∨ t = 180) ∧ 4 ≤ cs.size
theorem Cel.set_ {W : World} {n0 : Lim} {g : Nat} (h : Cel W n0 g) (a i : Nat) (u : Value) : Cel (W.setCell ⟨a, i, none⟩ u) n0 g := by
 obtain ⟨h0, t, cs, hb, ht, hs⟩ := h
 by_cases ha : g = a
 ·subst ha
  exact ⟨h0, t, _, hb.set_ i u, ht, by simpa using hs⟩
 ·exact ⟨h0, t, cs, hb.far ha u, ht, hs⟩
theorem Cel.frozen {W : World} {n0 : Lim} {g : Nat} (h : Cel W n0 g) (i : Nat) : W.frozen? ⟨g, i, none⟩ = false := by obtain ⟨_, t, cs, hb, _⟩ := h; exact hb.frozen i
theorem cell_set_ne (W : World) (a g i j : Nat) (u : Value) (h : a ≠ g ∨ j ≠ i) : (W.setCell ⟨g, i, none⟩ u).cell? ⟨a, j, none⟩ = W.cell? ⟨a, j, none⟩ := by
 by_cases ha : a = g
 ·subst ha
  have hj : j ≠ i := by
   rcases h with h | h
   ·exact absurd rfl h
   ·exact h
  simp only [World.cell?, World.setCell, Array.getElem?_modify, if_true]
  cases hh : W.heap[a]? with
  | none => rfl
  | some o => cases o <;> simp [Array.getElem?_setIfInBounds, Ne.symm hj]
 ·simp only [World.cell?, World.setCell, Array.getElem?_modify]
  rw [if_neg (fun e => ha e.symm)]
theorem cell_set_same {W : World} {n0 : Lim} {g i : Nat} (h : Cel W n0 g) (hi : i < 4) (u : Value) : (W.setCell ⟨g, i, none⟩ u).cell? ⟨g, i, none⟩ = some u := by
 obtain ⟨_, t, cs, hb, _, hs⟩ := h
 rw [(hb.set_ i u).cell i, Array.getElem?_setIfInBounds_self_of_lt (by omega)]
theorem Cel.rf {W : World} {n0 : Lim} {g : Nat} (h : Cel W n0 g) (i : Nat) (u : Value) (mq : Nat) : RG [183, 180] mq n0 W (W.setCell ⟨g, i, none⟩ u) := by
 obtain ⟨h0, t, cs, hb, ht, _⟩ := h
 exact (RG.refl _ mq n0 W).set_ hb h0 (by rcases ht with rfl | rfl <;> decide) u
theorem mp_set {W : World} {n0 : Lim} {g : Nat} (h : Cel W n0 g) (i : Nat) (u : Value) {kt : TypeId} {mb n : Nat} {f : ByteArray → Option Value} (hm : MapS Tryz.prog W kt mb f n) : MapS Tryz.prog (W.setCell ⟨g, i, none⟩ u) kt mb f n := by
 obtain ⟨_, t, cs, hb, _⟩ := h
 exact hm.setCell hb u
theorem Two.ab {n0 : Lim} {W : World} {p q : Nat} (hp : Cel W n0 p) (hq : Cel W n0 q) (u v : Value) : Two n0 W ((W.setCell ⟨p, 3, none⟩ u).setCell ⟨q, 2, none⟩ v) p q u v :=
 ⟨by rw [cell_set_ne _ _ _ _ _ _ (.inr (by decide)), cell_set_same hp (by decide)], cell_set_same (hq.set_ p 3 u) (by decide) v,
  fun a ha => by rw [cell_set_ne _ _ _ _ _ _ (.inr (by decide)), cell_set_ne _ _ _ _ _ _ (.inl ha)],
  fun a ha => by rw [cell_set_ne _ _ _ _ _ _ (.inl ha), cell_set_ne _ _ _ _ _ _ (.inr (by decide))],
  fun a i h2 h3 => by rw [cell_set_ne _ _ _ _ _ _ (.inr h2), cell_set_ne _ _ _ _ _ _ (.inr h3)],
  fun x h => (h.set_ p 3 (.inr rfl) u).set_ q 2 (.inl rfl) v, fun c mb h => (h.set_ p 3 (.inr rfl) u).set_ q 2 (.inl rfl) v, fun kt mb f n h => mp_set (hq.set_ p 3 u) 2 v (mp_set hp 3 u h), fun mq => (hp.rf 3 u mq).trans ((hq.set_ p 3 u).rf 2 v mq), by simp [World.setCell]⟩
section
variable {w : World} {n0 : Lim} {c mb : Nat} {ns : List Nd}
theorem Chn.cel (h : Chn w n0 c mb ns) {a : Nat} (ha : a = c ∨ ∃ x ∈ ns, x.1 = a) : Cel w n0 a := by
 rcases ha with rfl | ⟨x, hx, rfl⟩
 ·obtain ⟨pv, nx, hb⟩ := h.root
  exact ⟨h.b0.1, _, _, hb, .inl rfl, by simp⟩
 ·obtain ⟨pv, nx, hb⟩ := h.node x hx
  exact ⟨h.b0.2.2 x hx, _, _, hb, .inr rfl, by simp⟩
theorem Chn.around {l r : List Nd} {x : Nd} (h : Chn w n0 c mb (l ++ x :: r)) : ∃ xs p q ys, c :: l.map (·.1) = xs ++ [p] ∧ r.map (·.1) ++ [c] = q :: ys ∧ c :: ((l ++ x :: r).map (·.1) ++ [c]) = xs ++ p :: x.1 :: q :: ys ∧ c :: ((l ++ r).map (·.1) ++ [c]) = xs ++ p :: q :: ys ∧
  (p = c ∨ ∃ y ∈ l ++ x :: r, y.1 = p) ∧ (q = c ∨ ∃ y ∈ l ++ x :: r, y.1 = q) ∧ p ≠ x.1 ∧ q ≠ x.1 ∧ p ∉ xs ∧ p ∉ (q :: ys).dropLast ∧ q ∉ (xs ++ [p]).tail ∧ q ∉ ys := by
 obtain ⟨xs, p, hxp⟩ := list_last c (l.map (·.1))
 obtain ⟨q, ys, hq⟩ : ∃ q ys, r.map (·.1) ++ [c] = q :: ys := by
  cases r with
  | nil => exact ⟨c, [], rfl⟩
  | cons y r => exact ⟨y.1, r.map (·.1) ++ [c], rfl⟩
 have hroot := h.ne_root
 have hnd := h.nd
 rw [List.map_append, List.map_cons, List.nodup_append] at hnd
 obtain ⟨n1, n2, n3⟩ := hnd
 rw [List.nodup_cons] at n2
 have hcl : c ∉ l.map (·.1) := fun hc => by
  obtain ⟨y, hy, e⟩ := List.mem_map.1 hc
  exact hroot y (by simp [hy]) e
 have hcr : c ∉ r.map (·.1) := fun hc => by
  obtain ⟨y, hy, e⟩ := List.mem_map.1 hc
  exact hroot y (by simp [hy]) e
 have hcx : x.1 ≠ c := hroot x (by simp)
 have hpm : p ∈ c :: l.map (·.1) := by rw [hxp]; simp
 have hqm : q ∈ r.map (·.1) ++ [c] := by rw [hq]; simp
 have nd1 : (c :: l.map (·.1)).Nodup := List.nodup_cons.2 ⟨hcl, n1⟩
 have nd2 : (r.map (·.1) ++ [c]).Nodup := List.nodup_append.2 ⟨n2.2, by simp, fun a ha b hb => by simp at hb; subst hb; exact fun e => hcr (e ▸ ha)⟩
 have hpl : p = c ∨ p ∈ l.map (·.1) := by simpa using hpm
 have hqr : q ∈ r.map (·.1) ∨ q = c := by simpa using hqm
 refine ⟨xs, p, q, ys, hxp, hq, ?_, ?_, ?_, ?_, ?_, ?_, ?_, ?_, ?_, ?_⟩
 ·rw [List.map_append, List.map_cons, List.append_assoc, List.cons_append, hq, ← List.cons_append, hxp, List.append_assoc]; rfl
 ·rw [List.map_append, List.append_assoc, hq, ← List.cons_append, hxp, List.append_assoc]; rfl
 ·rcases hpl with h1 | h1
  ·exact .inl h1
  ·obtain ⟨y, hy, e⟩ := List.mem_map.1 h1
   exact .inr ⟨y, by simp [hy], e⟩
 ·rcases hqr with h1 | h1
  ·obtain ⟨y, hy, e⟩ := List.mem_map.1 h1
   exact .inr ⟨y, by simp [hy], e⟩
  ·exact .inl h1
 ·rcases hpl with h1 | h1
  ·rw [h1]; exact fun e => hcx e.symm
  ·exact n3 p h1 x.1 (by simp)
 ·rcases hqr with h1 | h1
  ·rintro rfl; exact n2.1 h1
  ·rw [h1]; exact fun e => hcx e.symm
 ·rw [hxp] at nd1
  exact fun hx => (List.nodup_append.1 nd1).2.2 p hx p (by simp) rfl
 ·intro hpy
  rw [← hq, List.dropLast_concat] at hpy
  rcases hpl with h1 | h1
  ·exact hcr (h1 ▸ hpy)
  ·exact n3 p h1 p (by simp [hpy]) rfl
 ·intro hqx
  rw [← hxp, List.tail_cons] at hqx
  rcases hqr with h1 | h1
  ·exact n3 q hqx q (by simp [h1]) rfl
  ·exact hcl (h1 ▸ hqx)
 ·rw [hq] at nd2
  exact (List.nodup_cons.1 nd2).1
theorem atF_del {l r : List Nd} {b : Nat} {k : ByteArray} {s : Int} (h : ((l ++ (b, k, s) :: r).map (·.2.1)).Nodup) : ∀ x, fdel (atF (l ++ (b, k, s) :: r)) k x = atF (l ++ r) x := by
 rw [List.map_append, List.map_cons, List.nodup_append] at h
 obtain ⟨h1, h2, h3⟩ := h
 intro x
 unfold fdel
 by_cases hx : x = k
 ·subst hx
  rw [if_pos rfl, atF_none]
  intro y hy
  rcases List.mem_append.1 hy with hy | hy
  ·exact h3 y.2.1 (List.mem_map.2 ⟨y, hy, rfl⟩) x (by simp)
  ·intro e
   exact (List.nodup_cons.1 h2).1 (List.mem_map.2 ⟨y, hy, e⟩)
 ·rw [if_neg hx]
  unfold atF
  rw [List.find?_append, List.find?_append, List.find?_cons_of_neg (by simpa using fun e => hx e.symm)]
theorem Chn.taken {w W5 w6 : World} {n0 : Lim} {c mb : Nat} {l r : List Nd} {b : Nat} {k : ByteArray} {s : Int} (h : Chn w n0 c mb (l ++ (b, k, s) :: r)) {xs ys : List Nat} {p q : Nat} (e1 : c :: ((l ++ (b, k, s) :: r).map (·.1) ++ [c]) = xs ++ p :: b :: q :: ys) (e2 : c :: ((l ++ r).map (·.1) ++ [c]) = xs ++ p :: q :: ys)
  (hp : p ∉ xs) (hpy : p ∉ (q :: ys).dropLast) (hqx : q ∉ (xs ++ [p]).tail) (hqy : q ∉ ys) (t : Two n0 w W5 p q (ptr q) (ptr p)) (hm : MapS Tryz.prog w6 9 mb (fdel (atF (l ++ (b, k, s) :: r)) k) (l ++ r).length) (hg : W5.grownBy w6 (some mb)) : Chn w6 n0 c mb (l ++ r) := by
 have hmem : ∀ x ∈ l ++ r, x ∈ l ++ (b, k, s) :: r := fun x hx => by
  rcases List.mem_append.1 hx with hx | hx
  ·exact List.mem_append_left _ hx
  ·exact List.mem_append_right _ (List.mem_cons_of_mem _ hx)
 have hm5 := t.mp _ _ _ _ h.mp
 have sub : (l ++ r).Sublist (l ++ (b, k, s) :: r) := List.Sublist.append (List.Sublist.refl _) (List.sublist_cons_self ..)
 have h5 : Chn W5 n0 c mb (l ++ (b, k, s) :: r) → True := fun _ => trivial
 have hring : Links W5 (c :: ((l ++ r).map (·.1) ++ [c])) := by
  rw [e2]
  have := h.ring
  rw [e1] at this
  exact links_cut this hp hpy hqx hqy t.cp t.cq t.c3 t.c2
 have hne : ∀ x ∈ l ++ (b, k, s) :: r, some x.1 ≠ some mb := fun x hx e => by
  injection e with e
  obtain ⟨_, _, hb⟩ := h.node x hx
  exact h.mp.ne_blk hb e.symm
 have hcm : some c ≠ some mb := fun e => by
  injection e with e
  obtain ⟨_, _, hb⟩ := h.root
  exact h.mp.ne_blk hb e.symm
 have cells : ∀ a i v, (a = c ∨ ∃ x ∈ l ++ (b, k, s) :: r, x.1 = a) → W5.cell? ⟨a, i, none⟩ = some v → w6.cell? ⟨a, i, none⟩ = W5.cell? ⟨a, i, none⟩ := by
  intro a i v ha hv
  rw [hv]
  refine hg.cell hv ?_
  rcases ha with rfl | ⟨x, hx, rfl⟩
  ·exact hcm
  ·exact hne x hx
 have hmemc : ∀ a, a ∈ c :: ((l ++ r).map (·.1) ++ [c]) → (a = c ∨ ∃ x ∈ l ++ (b, k, s) :: r, x.1 = a) := by
  intro a ha
  simp only [List.mem_cons, List.mem_append, List.mem_map, List.not_mem_nil, or_false] at ha
  rcases ha with h1 | ⟨x, hx, h1⟩ | h1
  ·exact .inl h1
  ·exact .inr ⟨x, hmem x (List.mem_append.2 hx), h1⟩
  ·exact .inl h1
 have ex23 : ∀ a, (a = c ∨ ∃ x ∈ l ++ (b, k, s) :: r, x.1 = a) → (∃ v, W5.cell? ⟨a, 2, none⟩ = some v) ∧ ∃ v, W5.cell? ⟨a, 3, none⟩ = some v := by
  intro a ha
  rcases ha with rfl | ⟨x, hx, rfl⟩
  ·obtain ⟨pv, nx, hb⟩ := t.root _ _ h.root
   exact ⟨⟨pv, hb.cell 2⟩, ⟨nx, hb.cell 3⟩⟩
  ·obtain ⟨pv, nx, hb⟩ := t.node _ (h.node x hx)
   exact ⟨⟨pv, hb.cell 2⟩, ⟨nx, hb.cell 3⟩⟩
 refine ⟨?_, fun x hx => ?_, ?_, (sub.map _).nodup h.nd, (sub.map _).nodup h.kd, hm.congr (atF_del h.kd) rfl, ⟨h.b0.1, h.b0.2.1, fun x hx => h.b0.2.2 x (hmem x hx)⟩, by have := h.hz; have := t.sz; have := hg.size; omega⟩
 ·obtain ⟨pv, nx, hb⟩ := t.root _ _ h.root
  exact ⟨pv, nx, Blk.keptR hb hg hcm⟩
 ·obtain ⟨pv, nx, hb⟩ := t.node _ (h.node x (hmem x hx))
  exact ⟨pv, nx, Blk.keptR hb hg (hne x (hmem x hx))⟩
 ·refine hring.keep (fun a ha => ?_) (fun a ha => ?_)
  ·have hm := hmemc a (List.dropLast_subset _ ha)
   obtain ⟨_, v, hv⟩ := ex23 a hm
   exact cells a 3 v hm hv
  ·have hm := hmemc a (List.mem_of_mem_tail ha)
   obtain ⟨⟨v, hv⟩, _⟩ := ex23 a hm
   exact cells a 2 v hm hv
end
theorem Two.drewL {n0 : Lim} {W W5 : World} {p q : Nat} {u v : Value} (h : Two n0 W.drew W5 p q u v) : Two n0 W W5 p q u v :=
 ⟨h.cp, h.cq, h.c3, h.c2, h.oth, h.node, h.root, h.mp, fun mq => ⟨⟨(h.rf mq).bel.os, (h.rf mq).bel.tape, (h.rf mq).bel.output, (h.rf mq).bel.size, (h.rf mq).bel.block⟩, (h.rf mq).fr⟩, h.sz⟩
set_option maxHeartbeats 2000000 in
theorem take_some (n0 : Lim) (c mb b : Nat) (l r : List Nd) (k : ByteArray) (s : Int) (w : World) (h : Chn w n0 c mb (l ++ (b, k, s) :: r)) (hks : k.size ≤ maxLen) :
  Calls Tryz.prog 80 #[ptr c, .string k] w fun e w' => e = .returned (.tuple #[.int .i64 s, .bool true]) ∧ Chn w' n0 c mb (l ++ r) ∧ RG [183, 180] mb n0 w w' ∧ w'.cell? ⟨b, 3, none⟩ = w.cell? ⟨b, 3, none⟩ := by
 obtain ⟨xs, p, q, ys, e1, e2, e3, e4, hpm, hqm, hpb, hqb, h1, h2, h3, h4⟩ := h.around
 have hpb' : p ≠ b := hpb
 have hqb' : q ≠ b := hqb
 have hring := h.ring
 rw [e3] at hring
 have hl1 := links_next hring
 have hl2 : Lk w b q := links_next (xs := xs ++ [p]) (by rw [List.append_assoc]; exact hring)
 obtain ⟨pv, nx, hnb⟩ := h.node (b, k, s) (by simp)
 obtain ⟨rp, rn, hrb⟩ := h.root
 have hp3 := hl1.1
 have hb2 := hl1.2
 have hb3 := hl2.1
 have hq2 := hl2.2
 have hb1 := hnb.cell 1
 have hc4 := hrb.cell 4
 have cp := h.cel hpm
 have cq := h.cel hqm
 have fp := cp.frozen 3
 have fq := cq.frozen 2
 have hlook := h.mp.look Tryz.underlying9 Tryz.underlying181 (z := .pointer none) (by kernel_rfl) hks
 rw [atF_mem h.kd] at hlook
 have hlk : (Instr.lookup 181 (.map (some mb)) (.string k) false).run Tryz.prog w = .ok (ptr b) w := hlook
 have HM := Lib.hid h.mp
 have hn0 : n0.lo ≤ w.heap.size := h.hz
 have hmb0 := h.b0.2.1
 have hbm : some b ≠ some mb := fun e => by injection e with e; exact h.mp.ne_blk hnb e.symm
 have HCUT : Hid (∀ W5 w6, Two n0 w W5 p q (ptr q) (ptr p) → MapS Tryz.prog w6 9 mb (fdel (atF (l ++ (b, k, s) :: r)) k) (if (atF (l ++ (b, k, s) :: r) k).isSome then (l ++ (b, k, s) :: r).length - 1 else (l ++ (b, k, s) :: r).length) → W5.grownBy w6 (some mb) → Chn w6 n0 c mb (l ++ r)) := by
  intro W5 w6 ht hm hg
  rw [atF_mem h.kd] at hm
  exact h.taken e3 e4 h1 h2 h3 h4 ht (hm.congr (fun _ => rfl) (by simp)) hg
 have HG6 : Hid (∀ W5 w6, Two n0 w W5 p q (ptr q) (ptr p) → W5.grownBy w6 (some mb) → w6.cell? ⟨b, 3, none⟩ = w.cell? ⟨b, 3, none⟩) := by
  intro W5 w6 ht hg
  have := (ht.c3 b (fun e => hpb e.symm)).trans hb3
  exact (hg.cell this hbm).trans hb3.symm
 have HPB := Lib.hid hpb'
 have HQB := Lib.hid hqb'
 have HCP := Lib.hid cp
 have HCQ := Lib.hid cq
 have n3 : ∀ (W : World) (u : Value), (W.setCell ⟨p, 3, none⟩ u).cell? ⟨b, 2, none⟩ = W.cell? ⟨b, 2, none⟩ := fun W u => cell_set_ne W b p 3 2 u (.inr (by decide))
 have n4 : ∀ (W : World) (u : Value), (W.setCell ⟨p, 3, none⟩ u).cell? ⟨b, 3, none⟩ = W.cell? ⟨b, 3, none⟩ := fun W u => cell_set_ne W b p 3 3 u (.inl (Ne.symm hpb'))
 have n5 : ∀ (W : World) (u : Value), (W.setCell ⟨q, 2, none⟩ u).cell? ⟨b, 2, none⟩ = W.cell? ⟨b, 2, none⟩ := fun W u => cell_set_ne W b q 2 2 u (.inl (Ne.symm hqb'))
 have n6 : ∀ (W : World) (u : Value), (W.setCell ⟨q, 2, none⟩ u).cell? ⟨b, 3, none⟩ = W.cell? ⟨b, 3, none⟩ := fun W u => cell_set_ne W b q 2 3 u (.inr (by decide))
 have N3 := Lib.hid n3
 have N4 := Lib.hid n4
 have N5 := Lib.hid n5
 have N6 := Lib.hid n6
 have m1 : ∀ (W : World) (u : Value), (W.setCell ⟨p, 3, none⟩ u).cell? ⟨q, 2, none⟩ = W.cell? ⟨q, 2, none⟩ := fun W u => cell_set_ne W q p 3 2 u (.inr (by decide))
 have m2 : ∀ (W : World) (u : Value), (W.setCell ⟨q, 2, none⟩ u).cell? ⟨p, 3, none⟩ = W.cell? ⟨p, 3, none⟩ := fun W u => cell_set_ne W p q 2 3 u (.inr (by decide))
 have M1 := Lib.hid m1
 have M2 := Lib.hid m2
 clear n3 n4 n5 n6 m1 m2 hpb hqb hpb' hqb' hnb hrb hring hl1 hl2 hlook e1 e2 e3 e4 h1 h2 h3 h4 hpm hqm cp cq h
 go_enter Tryz.func80, Tryz.ntmps80
 go_wp2_with fail
 refine wp_region_plan (.take 0 (.take 1 (.take 2 (.take 3 (.take 4 (.take 5 (.take 6 (.take 7 (.take 8 (.take 9 (.take 10 (.take 11 (.take 12 (.take 13 (.take 14 (.take 15 (.take 16 (.take 17 (.eff 18 (.take 19 (.take 20 (.eff 21 .nil)))))))))))))))))))))) (fun w' => w'.cell? ⟨b, 2, none⟩ = some (ptr p) ∧ w'.cell? ⟨b, 3, none⟩ = some (ptr q)) (by kernel_rfl) (by kernel_rfl) (fun _ _ _ _ _ h => h) (by kernel_rfl) (by kernel_rfl) ?_ ?_
 ·exact ⟨hb2, hb3⟩
 iterate 18 (first | (apply seqP_skip; (focus (simp only [List.getElem?_toArray, List.getElem?_cons_succ, List.getElem?_cons_zero]; rfl)); (focus rfl); simp only [Act.put, List.setIfInBounds_toArray, List.set_cons_zero, List.set_cons_succ]) | (apply seqP_take; (focus (simp only [List.getElem?_toArray, List.getElem?_cons_succ, List.getElem?_cons_zero]; rfl)); (focus rfl); (focus (intro w' hS; obtain ⟨s2, s3⟩ := hS; first | (go_simp; rfl) | (go_simp; done))); simp only [Act.put, List.setIfInBounds_toArray, List.set_cons_zero, List.set_cons_succ]))
 apply seqP_eff
 (focus (simp only [List.getElem?_toArray, List.getElem?_cons_succ, List.getElem?_cons_zero]; rfl))
 (focus rfl)
 intro K hK
 go_simp
 refine hK _ _ ⟨⟨(N3.out _ _).trans hb2, (N4.out _ _).trans hb3⟩, ?_⟩
 clear hK K
 iterate 2 (first | (apply seqP_skip; (focus (simp only [List.getElem?_toArray, List.getElem?_cons_succ, List.getElem?_cons_zero]; rfl)); (focus rfl); simp only [Act.put, List.setIfInBounds_toArray, List.set_cons_zero, List.set_cons_succ]) | (apply seqP_take; (focus (simp only [List.getElem?_toArray, List.getElem?_cons_succ, List.getElem?_cons_zero]; rfl)); (focus rfl); (focus (intro w' hS; obtain ⟨s2, s3⟩ := hS; first | (go_simp; rfl) | (go_simp; done))); simp only [Act.put, List.setIfInBounds_toArray, List.set_cons_zero, List.set_cons_succ]))
 apply seqP_eff
 (focus (simp only [List.getElem?_toArray, List.getElem?_cons_succ, List.getElem?_cons_zero]; rfl))
 (focus rfl)
 intro K hK
 have c2' := (M1.out w.drew (ptr q)).trans hq2
 have f2' := (HCQ.out.set_ p 3 (ptr q)).frozen 2
 change (w.drew.setCell ⟨p, 3, none⟩ (ptr q)).frozen? _ = _ at f2'
 go_simp
 refine hK _ _ ⟨⟨((N5.out _ _).trans (N3.out _ _)).trans hb2, ((N6.out _ _).trans (N4.out _ _)).trans hb3⟩, ?_⟩
 clear hK K c2' f2'
 refine seqP_nil ?_
 have hT : Two n0 w ((w.setCell ⟨p, 3, none⟩ (ptr q)).setCell ⟨q, 2, none⟩ (ptr p)).drew p q (ptr q) (ptr p) := Two.drewL (Two.ab (W := w.drew) HCP.out HCQ.out (ptr q) (ptr p))
 generalize ((w.setCell ⟨p, 3, none⟩ (ptr q)).setCell ⟨q, 2, none⟩ (ptr p)).drew = W5 at hT ⊢
 have c5 := (hT.oth c 4 (by decide) (by decide)).trans hc4
 have c51 := (hT.oth b 1 (by decide) (by decide)).trans hb1
 have HM5 := Lib.hid (hT.mp _ _ _ _ HM.out)
 have HT := Lib.hid hT
 clear hT
 go_wp2_with (at_delete; go_must (refine wpList_del rfl (.tmp 40) (.tmp 41) rfl rfl HM5.out Tryz.underlying9 Tryz.underlying181 k rfl hks ?_); intro w6 hm6 hg6; have c61 := hg6.cell c51 hbm; have c63 := HG6.out _ _ HT.out hg6)
 go_ret2
 refine ⟨rfl, HCUT.out _ _ HT.out hm6 hg6, ?_, c63⟩
 exact (HT.out.rf mb).grown hg6 (by rw [HT.out.sz]; exact hn0) (fun j hj => by cases hj; exact ⟨hmb0, by obtain ⟨es, ck, hm⟩ := HM5.out.isMapObj; exact ⟨_, hm, by simp [okG]⟩⟩)
theorem take_none (n0 : Lim) (c mb : Nat) (ns : List Nd) (k : ByteArray) (w : World) (h : Chn w n0 c mb ns) (hks : k.size ≤ maxLen) (hk : ∀ x ∈ ns, x.2.1 ≠ k) :
  Calls Tryz.prog 80 #[ptr c, .string k] w fun e w' => e = .returned (.tuple #[.int .i64 0, .bool false]) ∧ w = w' := by
 obtain ⟨rp, rn, hrb⟩ := h.root
 have hc4 := hrb.cell 4
 have hlook := h.mp.look Tryz.underlying9 Tryz.underlying181 (z := .pointer none) (by kernel_rfl) hks
 rw [atF_none hk] at hlook
 have hlk : (Instr.lookup 181 (.map (some mb)) (.string k) false).run Tryz.prog w = .ok (.pointer none) w := hlook
 clear hlook hrb h
 go_enter Tryz.func80, Tryz.ntmps80
 go_wp2_with fail
 go_ret2
 exact ⟨rfl, rfl⟩
end Go.Proofs.YtgnblkmpoigejaaGreatDoor
