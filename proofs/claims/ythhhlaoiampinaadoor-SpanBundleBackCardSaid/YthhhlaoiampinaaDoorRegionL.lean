/- A statement whose order Go leaves open and whose LAST operation (a store, behind all others) ends what the others read: walked once, in one order. -/
import Derived.OrdersHeld
import Derived.Below
namespace Go.Proofs.YthhhlaoiampinaaDoor
open Go.RowKit

section
variable {P : Program} {ops : Array Oper} {Q : Exit → Act → World → Prop} {S : World → Prop} {md : Region.Mode} {last : Nat}

/-- Whatever order is picked from here on, and S holds behind every operation that is carried out, but the last one. -/
def wpAnyL (P : Program) (md : Region.Mode) (ops : Array Oper) (Q : Exit → Act → World → Prop) (S : World → Prop) (last : Nat) : Nat → Array Bool → Act → World → Prop
  | 0, listed, a, w => Region.ready md ops listed = [] ∧ Q .normal a w
  | fuel + 1, listed, a, w =>
    (Region.ready md ops listed = [] → Q .normal a w) ∧
    ∀ i ∈ Region.ready md ops listed, wpOp P ops Q i (fun a' w' => (i ≠ last → S w') ∧ wpAnyL P md ops Q S last fuel (listed.setIfInBounds i true) a' w') a w

theorem wpAny_of_last : ∀ (fuel : Nat) (listed : Array Bool) (a : Act) (w : World), wpAnyL P md ops Q S last fuel listed a w → wpAny P md ops Q fuel listed a w
  | 0, _, _, _, h => h
  | fuel + 1, _, _, _, h => ⟨h.1, fun i hi => wpOp_mono (fun a' w' h' => wpAny_of_last fuel _ a' w' h'.2) (h.2 i hi)⟩

/-- What has come up, has come up behind what it waits for. -/
def Closed (md : Region.Mode) (ops : Array Oper) (listed : Array Bool) : Prop :=
  ∀ j oj, ops[j]? = some oj → listed.getD j false = true → ∀ e ∈ oj.after, Region.binds md e = true → listed.getD e.on false = true
theorem Closed.start (n : Nat) : Closed md ops (Array.replicate n false) := by
  intro j oj _ h
  exfalso
  simp only [Array.getD_eq_getD_getElem?, Array.getElem?_replicate] at h
  split at h <;> simp at h
theorem Closed.step {listed : Array Bool} {i : Nat} (h : Closed md ops listed) (hi : i ∈ Region.ready md ops listed) : Closed md ops (listed.setIfInBounds i true) := by
  intro j oj hj hl e he hb
  by_cases hij : i = j
  · subst hij
    obtain ⟨_, o, ho, hall⟩ := mem_ready.1 hi
    rw [hj] at ho
    cases ho
    exact getD_set_true (hall e he hb)
  · rw [getD_set_ne false hij] at hl
    exact getD_set_true (h j oj hj hl e he hb)
/-- Every operation but the last one is waited for by a later one. -/
def chainTo (md : Region.Mode) (ops : Array Oper) (last : Nat) : Bool :=
  (List.range ops.size).all fun i => i == last || (List.range ops.size).any fun j => decide (i < j) && match ops[j]? with
    | some oj => oj.after.any (fun e => Region.binds md e && e.on == i)
    | none => false
theorem all_listed {listed : Array Bool} (hc : chainTo md ops last = true) (h : Closed md ops listed) (hl : last ∈ Region.ready md ops listed) :
    ∀ (n i : Nat), ops.size - i ≤ n → i < ops.size → i ≠ last → listed.getD i false = true
  | 0, i, hn, hi, _ => by omega
  | n + 1, i, hn, hi, hne => by
    have h1 := List.all_eq_true.1 hc i (List.mem_range.2 hi)
    simp only [Bool.or_eq_true, beq_iff_eq, hne, false_or, List.any_eq_true, List.mem_range, Bool.and_eq_true, decide_eq_true_eq] at h1
    obtain ⟨j, hj, hij, hm⟩ := h1
    have hoj := Array.getElem?_eq_getElem hj
    rw [hoj] at hm
    obtain ⟨e, he, hb⟩ := Array.any_eq_true'.1 hm
    simp only [Bool.and_eq_true, beq_iff_eq] at hb
    by_cases hjl : j = last
    · subst hjl
      obtain ⟨_, o, ho, hall⟩ := mem_ready.1 hl
      rw [hoj] at ho
      cases ho
      have := hall e he hb.1
      rwa [hb.2] at this
    · have := h j _ hoj (all_listed hc h hl n j (by omega) hj hjl) e he hb.1
      rwa [hb.2] at this
theorem only_last {listed : Array Bool} (hc : chainTo md ops last = true) (h : Closed md ops listed) (hl : last ∈ Region.ready md ops listed) {i : Nat} (hi : i ∈ Region.ready md ops listed) : i = last := by
  by_cases hne : i = last
  · exact hne
  · exfalso
    obtain ⟨h0, o, ho, _⟩ := mem_ready.1 hi
    have hlt := (Array.getElem?_eq_some_iff.1 ho).1
    have h1 := all_listed hc h hl _ i (Nat.le_refl _) hlt hne
    rw [Array.getD_eq_getD_getElem?] at h0 h1
    cases hg : listed[i]? with
    | none => rw [hg] at h1; cases h1
    | some b => rw [hg] at h0 h1; simp at h0 h1; rw [h0] at h1; cases h1

theorem wpAnyL_first {i : Nat} {oi : Oper} {v : Value} (hi : ops[i]? = some oi) (hne : i ≠ last) (hch : chainTo md ops last = true) (hsel : ∀ (j : Nat) (o : Oper) cs b, ops[j]? = some o → o.op ≠ .select cs b)
    (hQ : ∀ c a w, Q (.panic c) (a.put oi.dst v) w → Q (.panic c) a w) :
    ∀ (fuel : Nat) (listed : Array Bool) (a : Act) (w : World), Closed md ops listed →
      (∀ j oj, ops[j]? = some oj → j ≠ i → listed.getD j true = false → (∀ e ∈ oj.after, Region.binds md e = true → e.on ≠ i) → oi.apart ops oj = true) →
      i ∈ Region.ready md ops listed → YieldsIf P ops S oi v a → S w →
      wpAnyL P md ops Q S last fuel (listed.setIfInBounds i true) (a.put oi.dst v) w → wpAnyL P md ops Q S last (fuel + 1) listed a w := by
  intro fuel
  induction fuel with
  | zero =>
    intro listed a w _ _ hr hy hS H
    refine ⟨fun h => (by rw [h] at hr; cases hr), fun j hj => ?_⟩
    by_cases hji : j = i
    · subst hji; exact hy.wpOp hi hS ⟨fun _ => hS, H⟩
    · have := ready_mono hj hji
      rw [H.1] at this
      cases this
  | succ fuel ih =>
    intro listed a w hcl hfree hr hy hS H
    refine ⟨fun h => (by rw [h] at hr; cases hr), fun j hj => ?_⟩
    by_cases hji : j = i
    · subst hji; exact hy.wpOp hi hS ⟨fun _ => hS, H⟩
    · have hjl : j ≠ last := fun e => by
        subst e
        exact hne (only_last hch hcl hj hr)
      have h1 := H.2 j (ready_mono hj hji)
      obtain ⟨hjun, oj, hoj, hall⟩ := mem_ready.1 hj
      have hnot : ∀ e ∈ oj.after, Region.binds md e = true → e.on ≠ i := fun e he hb heq => by
        have h1 := hall e he hb
        have h0 := (mem_ready.1 hr).1
        rw [heq] at h1
        rcases Nat.lt_or_ge i listed.size with h' | h'
        · simp [h'] at h0 h1; rw [h0] at h1; cases h1
        · simp [Array.getElem?_eq_none h'] at h1
      have h2 := wpOp_putIf hoj (hfree j oj hoj hji hjun hnot) (fun cs b => hsel i oi cs b hi) (fun cs b => hsel j oj cs b hoj) hQ hy h1
      have hfree' : ∀ k ok, ops[k]? = some ok → k ≠ i → (listed.setIfInBounds j true).getD k true = false →
          (∀ e ∈ ok.after, Region.binds md e = true → e.on ≠ i) → oi.apart ops ok = true := fun k ok hk hki hun hno => by
        refine hfree k ok hk hki ?_ hno
        by_cases hjk : j = k
        · subst hjk; exact hjun
        · rw [getD_set_ne true hjk] at hun; exact hun
      refine wpOp_mono (fun a' w' h3 => ⟨h3.2.1, ih (listed.setIfInBounds j true) a' w' (hcl.step hj) hfree' (ready_mono hr (Ne.symm hji)) h3.1 (h3.2.1 hjl) ?_⟩) h2
      rw [Array.setIfInBounds_comm _ _ hji]
      exact h3.2.2

/-- The walk in a given order. -/
def seqL (P : Program) (ops : Array Oper) (Q : Exit → Act → World → Prop) (S : World → Prop) (last : Nat) : List (Bool × Nat) → Act → World → Prop
  | [], a, w => Q .normal a w
  | (true, i) :: l, a, w => ∃ o v, ops[i]? = some o ∧ YieldsIf P ops S o v a ∧ seqL P ops Q S last l (a.put o.dst v) w
  | (false, i) :: l, a, w => wpOp P ops Q i (fun a' w' => (i ≠ last → S w') ∧ seqL P ops Q S last l a' w') a w
/-- The order is one in which everything may come up where it stands; the last operation stands last. -/
def okSeqL (ops : Array Oper) (last : Nat) : List (Bool × Nat) → Array Bool → Bool
  | [], listed => (Region.ready .any ops listed).isEmpty
  | (true, i) :: l, listed => i != last && (Region.ready .any ops listed).contains i && Region.free .any ops listed i && okSeqL ops last l (listed.setIfInBounds i true)
  | (false, i) :: l, listed => (Region.ready .any ops listed == [i]) && (i != last || l.isEmpty) && okSeqL ops last l (listed.setIfInBounds i true)

theorem seqL_sound (hch : chainTo .any ops last = true) (hs : Region.noSelect ops = true) (hQ : ∀ (d : Option Tmp) (v : Value) c a w, Q (.panic c) (a.put d v) w → Q (.panic c) a w) :
    ∀ (l : List (Bool × Nat)) (fuel : Nat) (listed : Array Bool) (a : Act) (w : World), Closed .any ops listed → l.length ≤ fuel → okSeqL ops last l listed = true → (l ≠ [] → S w) → seqL P ops Q S last l a w → wpAnyL P .any ops Q S last fuel listed a w
  | [], fuel, listed, a, w, _, _, hok, _, h => by
    have hr : Region.ready .any ops listed = [] := by simpa [okSeqL] using hok
    cases fuel with
    | zero => exact ⟨hr, h⟩
    | succ fuel => exact ⟨fun _ => h, by rw [hr]; simp⟩
  | (true, i) :: l, 0, listed, a, w, _, hl, _, _, _ => by simp at hl
  | (true, i) :: l, fuel + 1, listed, a, w, hcl, hl, hok, hS, h => by
    simp only [okSeqL, Bool.and_eq_true, bne_iff_ne] at hok
    obtain ⟨o, v, ho, hy, hr⟩ := h
    have hri : i ∈ Region.ready .any ops listed := by simpa using hok.1.1.2
    exact wpAnyL_first ho hok.1.1.1 hch (Region.noSelect_spec hs) (hQ _ _) fuel listed a w hcl (Region.free_spec ho hok.1.2) hri hy (hS (by simp))
      (seqL_sound hch hs hQ l fuel _ _ w (hcl.step hri) (by simp at hl; omega) hok.2 (fun _ => hS (by simp)) hr)
  | (false, i) :: l, 0, listed, a, w, _, hl, _, _, _ => by simp at hl
  | (false, i) :: l, fuel + 1, listed, a, w, hcl, hl, hok, hS, h => by
    simp only [okSeqL, Bool.and_eq_true, beq_iff_eq, Bool.or_eq_true, bne_iff_ne, List.isEmpty_iff] at hok
    have hri : i ∈ Region.ready .any ops listed := by rw [hok.1.1]; simp
    refine ⟨fun h0 => (by rw [h0] at hri; cases hri), fun j hj => ?_⟩
    obtain rfl : j = i := by rw [hok.1.1] at hj; simpa using hj
    refine wpOp_mono (fun a' w' ⟨h1, h2⟩ => ⟨h1, seqL_sound hch hs hQ l fuel _ a' w' (hcl.step hri) (by simp at hl; omega) hok.2 (fun hne => h1 ?_) h2⟩) h
    rcases hok.1.2 with h' | h'
    · exact h'
    · exact absurd h' hne

theorem wp_region_last {id : Nat} {a : Act} {w : World} (l : List (Bool × Nat)) (last : Nat) (S : World → Prop) (hm : P.follows .mixedOrders = true) (hch : chainTo .any ops last = true) (hs : Region.noSelect ops = true)
    (hQ : ∀ (d : Tmp) (v : Value) c (a : Act) w, Q (.panic c) { a with tmps := a.tmps.setIfInBounds d v } w → Q (.panic c) a w) (hlen : decide (l.length ≤ ops.size) = true)
    (hok : okSeqL ops last l (Array.replicate ops.size false) = true) (hS : S w.drew) (h : seqL P ops Q S last l a w.drew) : (Code.region id ops true).wp P Q a w :=
  wp_region_any hm (wpAny_of_last _ _ _ _ (seqL_sound hch hs (fun d v c a w h => by cases d with | none => exact h | some d => exact hQ d v c a w h) l ops.size _ a w.drew (Closed.start _) (of_decide_eq_true hlen) hok (fun _ => hS) h))

theorem seqL_nil {a : Act} {w : World} (h : Q .normal a w) : seqL P ops Q S last [] a w := h
theorem seqL_take {i : Nat} {o : Oper} {v : Value} {l : List (Bool × Nat)} {a : Act} {w : World} (ho : ops[i]? = some o) (hw : Region.wanted o (yielded ops a.tmps) = true)
    (hy : ∀ w', S w' → (execOp a.eval o).run P w' = .ok (.value v) w') (h : seqL P ops Q S last l (a.put o.dst v) w) : seqL P ops Q S last ((true, i) :: l) a w := ⟨o, v, ho, .inl ⟨hw, hy⟩, h⟩
theorem seqL_skip {i : Nat} {o : Oper} {l : List (Bool × Nat)} {a : Act} {w : World} (ho : ops[i]? = some o) (hw : Region.wanted o (yielded ops a.tmps) = false)
    (h : seqL P ops Q S last l (a.put o.dst undef) w) : seqL P ops Q S last ((true, i) :: l) a w := ⟨o, undef, ho, .inr ⟨hw, rfl⟩, h⟩
theorem seqL_eff {i : Nat} {o : Oper} {l : List (Bool × Nat)} {a : Act} {w : World} (ho : ops[i]? = some o) (hw : Region.wanted o (yielded ops a.tmps) = true)
    (h : ∀ K : Act → World → Prop, (∀ a' w', (i ≠ last → S w') ∧ seqL P ops Q S last l a' w' → K a' w') → o.wp P a w K Q) : seqL P ops Q S last ((false, i) :: l) a w := by
  show wpOp P ops Q i _ a w
  unfold wpOp
  simp only [ho, hw, if_true]
  exact .inl (h _ fun _ _ h => h)
end
attribute [irreducible] seqL
end Go.Proofs.YthhhlaoiampinaaDoor
