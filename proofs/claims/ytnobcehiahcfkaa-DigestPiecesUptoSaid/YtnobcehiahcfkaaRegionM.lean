/- A statement whose order Go leaves open and that holds ONE call which writes, behind the loads that it needs: walked once, in one order. -/
import Derived.Test.YtnobcehiahcfkaaRegionL
namespace Go.Proofs.Ytnobcehiahcfkaa
open Go.RowKit

section
variable {P : Program} {ops : Array Oper} {Q : Exit → Act → World → Prop} {S : World → Prop} {md : Region.Mode} {c : Nat}

/-- Whatever order is picked from here on, and S holds behind every operation that is carried out ahead of the one numbered c. -/
def wpAnyM (P : Program) (md : Region.Mode) (ops : Array Oper) (Q : Exit → Act → World → Prop) (S : World → Prop) (c : Nat) : Nat → Array Bool → Act → World → Prop
  | 0, listed, a, w => Region.ready md ops listed = [] ∧ Q .normal a w
  | fuel + 1, listed, a, w =>
    (Region.ready md ops listed = [] → Q .normal a w) ∧
    ∀ i ∈ Region.ready md ops listed, wpOp P ops Q i (fun a' w' => (i ≠ c → listed.getD c false = false → S w') ∧ wpAnyM P md ops Q S c fuel (listed.setIfInBounds i true) a' w') a w

theorem wpAny_of_mid : ∀ (fuel : Nat) (listed : Array Bool) (a : Act) (w : World), wpAnyM P md ops Q S c fuel listed a w → wpAny P md ops Q fuel listed a w
  | 0, _, _, _, h => h
  | fuel + 1, _, _, _, h => ⟨h.1, fun i hi => wpOp_mono (fun a' w' h' => wpAny_of_mid fuel _ a' w' h'.2) (h.2 i hi)⟩

/-- Every operation ahead of c is waited for by a later one, c at the end. -/
def chainC (md : Region.Mode) (ops : Array Oper) (c : Nat) : Bool :=
  (List.range c).all fun i => (List.range (c + 1)).any fun j => decide (i < j) && match ops[j]? with
    | some oj => oj.after.any (fun e => Region.binds md e && e.on == i)
    | none => false
theorem all_ahead {listed : Array Bool} (hc : chainC md ops c = true) (h : Closed md ops listed) (hl : ∀ oj, ops[c]? = some oj → ∀ e ∈ oj.after, Region.binds md e = true → listed.getD e.on false = true) :
    ∀ (n i : Nat), c - i ≤ n → i < c → listed.getD i false = true
  | 0, i, hn, hi => by omega
  | n + 1, i, hn, hi => by
    have h1 := List.all_eq_true.1 hc i (List.mem_range.2 hi)
    simp only [List.any_eq_true, List.mem_range, Bool.and_eq_true, decide_eq_true_eq] at h1
    obtain ⟨j, hj, hij, hm⟩ := h1
    cases hoj : ops[j]? with
    | none => rw [hoj] at hm; cases hm
    | some oj =>
      rw [hoj] at hm
      obtain ⟨e, he, hb⟩ := Array.any_eq_true'.1 hm
      simp only [Bool.and_eq_true, beq_iff_eq] at hb
      by_cases hjl : j = c
      · subst hjl
        have := hl oj hoj e he hb.1
        rwa [hb.2] at this
      · have := h j _ hoj (all_ahead hc h hl n j (by omega) (by omega)) e he hb.1
        rwa [hb.2] at this
theorem ahead_ready {listed : Array Bool} (hc : chainC md ops c = true) (h : Closed md ops listed) (hl : c ∈ Region.ready md ops listed) {i : Nat} (hi : i < c) : listed.getD i false = true := by
  obtain ⟨_, o, ho, hall⟩ := mem_ready.1 hl
  exact all_ahead hc h (fun oj hoj => by rw [ho] at hoj; cases hoj; exact hall) _ i (Nat.le_refl _) hi
theorem ahead_listed {listed : Array Bool} (hc : chainC md ops c = true) (h : Closed md ops listed) {i : Nat} (hi : i < c) (hu : listed.getD i false = false) : listed.getD c false = false := by
  cases hcl : listed.getD c false with
  | false => rfl
  | true =>
    have := all_ahead hc h (fun oj hoj => h c oj hoj hcl) _ i (Nat.le_refl _) hi
    rw [hu] at this; cases this
theorem ready_unlisted {listed : Array Bool} {i : Nat} (h : i ∈ Region.ready md ops listed) : listed.getD i false = false := by
  have h0 := (mem_ready.1 h).1
  rw [Array.getD_eq_getD_getElem?] at h0 ⊢
  cases hg : listed[i]? with
  | none => rfl
  | some b => rw [hg] at h0; simpa using h0

theorem wpAnyM_first {i : Nat} {oi : Oper} {v : Value} (hi : ops[i]? = some oi) (hic : i < c) (hch : chainC md ops c = true) (hsel : ∀ (j : Nat) (o : Oper) cs b, ops[j]? = some o → o.op ≠ .select cs b)
    (hQ : ∀ c a w, Q (.panic c) (a.put oi.dst v) w → Q (.panic c) a w) :
    ∀ (fuel : Nat) (listed : Array Bool) (a : Act) (w : World), Closed md ops listed →
      (∀ j oj, ops[j]? = some oj → j ≠ i → listed.getD j true = false → (∀ e ∈ oj.after, Region.binds md e = true → e.on ≠ i) → oi.apart ops oj = true) →
      i ∈ Region.ready md ops listed → YieldsIf P ops S oi v a → S w →
      wpAnyM P md ops Q S c fuel (listed.setIfInBounds i true) (a.put oi.dst v) w → wpAnyM P md ops Q S c (fuel + 1) listed a w := by
  intro fuel
  induction fuel with
  | zero =>
    intro listed a w _ _ hr hy hS H
    refine ⟨fun h => (by rw [h] at hr; cases hr), fun j hj => ?_⟩
    by_cases hji : j = i
    · subst hji; exact hy.wpOp hi hS ⟨fun _ _ => hS, H⟩
    · have := ready_mono hj hji
      rw [H.1] at this
      cases this
  | succ fuel ih =>
    intro listed a w hcl hfree hr hy hS H
    refine ⟨fun h => (by rw [h] at hr; cases hr), fun j hj => ?_⟩
    by_cases hji : j = i
    · subst hji; exact hy.wpOp hi hS ⟨fun _ _ => hS, H⟩
    · have hjl : j ≠ c := fun e => by
        subst e
        have h1 := ahead_ready hch hcl hj hic
        rw [ready_unlisted hr] at h1; cases h1
      have hcu := ahead_listed hch hcl hic (ready_unlisted hr)
      have hcu' : (listed.setIfInBounds i true).getD c false = false := by rw [getD_set_ne false (by omega)]; exact hcu
      have h1 := H.2 j (ready_mono hj hji)
      obtain ⟨hjun, oj, hoj, hall⟩ := mem_ready.1 hj
      have hnot : ∀ e ∈ oj.after, Region.binds md e = true → e.on ≠ i := fun e he hb heq => by
        have h1 := hall e he hb
        have h0 := (mem_ready.1 hr).1
        rw [heq] at h1
        rcases Nat.lt_or_ge i listed.size with h' | h'
        · simp [h'] at h0 h1; rw [h0] at h1; cases h1
        · simp [Array.getElem?_eq_none h'] at h1
      have h2 := wpOp_putIf hoj (hfree j oj hoj hji hjun hnot) (fun cs b => hsel i oi cs b hi) (fun cs b => hsel j oj cs b hoj) hQ hy h1
      have hfree' : ∀ k ok, ops[k]? = some ok → k ≠ i → (listed.setIfInBounds j true).getD k true = false →
          (∀ e ∈ ok.after, Region.binds md e = true → e.on ≠ i) → oi.apart ops ok = true := fun k ok hk hki hun hno => by
        refine hfree k ok hk hki ?_ hno
        by_cases hjk : j = k
        · subst hjk; exact hjun
        · rw [getD_set_ne true hjk] at hun; exact hun
      refine wpOp_mono (fun a' w' h3 => ⟨fun _ _ => h3.2.1 hjl hcu', ih (listed.setIfInBounds j true) a' w' (hcl.step hj) hfree' (ready_mono hr (Ne.symm hji)) h3.1 (h3.2.1 hjl hcu') ?_⟩) h2
      rw [Array.setIfInBounds_comm _ _ hji]
      exact h3.2.2


theorem wpAnyM_behind {i : Nat} {oi : Oper} {v : Value} (hi : ops[i]? = some oi) (hsel : ∀ (j : Nat) (o : Oper) cs b, ops[j]? = some o → o.op ≠ .select cs b)
    (hQ : ∀ c a w, Q (.panic c) (a.put oi.dst v) w → Q (.panic c) a w) :
    ∀ (fuel : Nat) (listed : Array Bool) (a : Act) (w : World), Closed md ops listed →
      (∀ j oj, ops[j]? = some oj → j ≠ i → listed.getD j true = false → (∀ e ∈ oj.after, Region.binds md e = true → e.on ≠ i) → oi.apart ops oj = true) →
      i ∈ Region.ready md ops listed → YieldsIf P ops (fun _ => True) oi v a → listed.getD c false = true →
      wpAnyM P md ops Q S c fuel (listed.setIfInBounds i true) (a.put oi.dst v) w → wpAnyM P md ops Q S c (fuel + 1) listed a w := by
  intro fuel
  induction fuel with
  | zero =>
    intro listed a w _ _ hr hy hS H
    refine ⟨fun h => (by rw [h] at hr; cases hr), fun j hj => ?_⟩
    by_cases hji : j = i
    · subst hji; exact hy.wpOp hi trivial ⟨fun _ h => (by rw [hS] at h; cases h), H⟩
    · have := ready_mono hj hji
      rw [H.1] at this
      cases this
  | succ fuel ih =>
    intro listed a w hcl hfree hr hy hS H
    refine ⟨fun h => (by rw [h] at hr; cases hr), fun j hj => ?_⟩
    by_cases hji : j = i
    · subst hji; exact hy.wpOp hi trivial ⟨fun _ h => (by rw [hS] at h; cases h), H⟩
    · have hcl' : (listed.setIfInBounds j true).getD c false = true := getD_set_true hS
      have h1 := H.2 j (ready_mono hj hji)
      obtain ⟨hjun, oj, hoj, hall⟩ := mem_ready.1 hj
      have hnot : ∀ e ∈ oj.after, Region.binds md e = true → e.on ≠ i := fun e he hb heq => by
        have h1 := hall e he hb
        have h0 := (mem_ready.1 hr).1
        rw [heq] at h1
        rcases Nat.lt_or_ge i listed.size with h' | h'
        · simp [h'] at h0 h1; rw [h0] at h1; cases h1
        · simp [Array.getElem?_eq_none h'] at h1
      have h2 := wpOp_putIf hoj (hfree j oj hoj hji hjun hnot) (fun cs b => hsel i oi cs b hi) (fun cs b => hsel j oj cs b hoj) hQ hy h1
      have hfree' : ∀ k ok, ops[k]? = some ok → k ≠ i → (listed.setIfInBounds j true).getD k true = false →
          (∀ e ∈ ok.after, Region.binds md e = true → e.on ≠ i) → oi.apart ops ok = true := fun k ok hk hki hun hno => by
        refine hfree k ok hk hki ?_ hno
        by_cases hjk : j = k
        · subst hjk; exact hjun
        · rw [getD_set_ne true hjk] at hun; exact hun
      refine wpOp_mono (fun a' w' h3 => ⟨fun _ h => (by rw [hS] at h; cases h), ih (listed.setIfInBounds j true) a' w' (hcl.step hj) hfree' (ready_mono hr (Ne.symm hji)) h3.1 hcl' ?_⟩) h2
      rw [Array.setIfInBounds_comm _ _ hji]
      exact h3.2.2


/-- The walk in a given order. -/
def seqM (P : Program) (ops : Array Oper) (Q : Exit → Act → World → Prop) (S : World → Prop) (c : Nat) : List (Bool × Nat) → Act → World → Prop
  | [], a, w => Q .normal a w
  | (true, i) :: l, a, w => ∃ o v, ops[i]? = some o ∧ YieldsIf P ops (fun w' => i < c → S w') o v a ∧ seqM P ops Q S c l (a.put o.dst v) w
  | (false, i) :: l, a, w => wpOp P ops Q i (fun a' w' => seqM P ops Q S c l a' w') a w
def okSeqM (ops : Array Oper) (c : Nat) : List (Bool × Nat) → Array Bool → Bool
  | [], listed => (Region.ready .any ops listed).isEmpty
  | (true, i) :: l, listed => (decide (i < c) || (decide (c < i) && listed.getD c false)) && (Region.ready .any ops listed).contains i && Region.free .any ops listed i && okSeqM ops c l (listed.setIfInBounds i true)
  | (false, i) :: l, listed => (Region.ready .any ops listed == [i]) && i == c && okSeqM ops c l (listed.setIfInBounds i true)
theorem getD_set_self {listed : Array Bool} {i : Nat} (h : listed.getD i true = false) : (listed.setIfInBounds i true).getD i false = true := by
  rw [Array.getD_eq_getD_getElem?] at h ⊢
  cases hg : listed[i]? with
  | none => rw [hg] at h; simp at h
  | some b =>
    have hlt := (Array.getElem?_eq_some_iff.1 hg).1
    simp [hlt]
theorem seqM_sound (hch : chainC .any ops c = true) (hs : Region.noSelect ops = true) (hQ : ∀ (d : Option Tmp) (v : Value) c a w, Q (.panic c) (a.put d v) w → Q (.panic c) a w) :
    ∀ (l : List (Bool × Nat)) (fuel : Nat) (listed : Array Bool) (a : Act) (w : World), Closed .any ops listed → l.length ≤ fuel → okSeqM ops c l listed = true → (listed.getD c false = false → S w) → seqM P ops Q S c l a w → wpAnyM P .any ops Q S c fuel listed a w
  | [], fuel, listed, a, w, _, _, hok, _, h => by
    have hr : Region.ready .any ops listed = [] := by simpa [okSeqM] using hok
    cases fuel with
    | zero => exact ⟨hr, h⟩
    | succ fuel => exact ⟨fun _ => h, by rw [hr]; simp⟩
  | (true, i) :: l, 0, listed, a, w, _, hl, _, _, _ => by simp at hl
  | (true, i) :: l, fuel + 1, listed, a, w, hcl, hl, hok, hS, h => by
    simp only [okSeqM, Bool.and_eq_true, Bool.or_eq_true, decide_eq_true_eq] at hok
    obtain ⟨o, v, ho, hy, hr⟩ := h
    have hri : i ∈ Region.ready .any ops listed := by simpa using hok.1.1.2
    rcases hok.1.1.1 with hic | ⟨hci, hcc⟩
    · have hcu := ahead_listed hch hcl hic (ready_unlisted hri)
      have hy' : YieldsIf P ops S o v a := hy.imp (fun h => ⟨h.1, fun w' hw' => h.2 w' (fun _ => hw')⟩) id
      exact wpAnyM_first ho hic hch (Region.noSelect_spec hs) (hQ _ _) fuel listed a w hcl (Region.free_spec ho hok.1.2) hri hy' (hS hcu)
        (seqM_sound hch hs hQ l fuel _ _ w (hcl.step hri) (by simp at hl; omega) hok.2 (fun _ => hS hcu) hr)
    · have hy' : YieldsIf P ops (fun _ => True) o v a := hy.imp (fun h => ⟨h.1, fun w' _ => h.2 w' (fun h' => by omega)⟩) id
      exact wpAnyM_behind ho (Region.noSelect_spec hs) (hQ _ _) fuel listed a w hcl (Region.free_spec ho hok.1.2) hri hy' hcc
        (seqM_sound hch hs hQ l fuel _ _ w (hcl.step hri) (by simp at hl; omega) hok.2 (fun h' => by rw [getD_set_true hcc] at h'; cases h') hr)
  | (false, i) :: l, 0, listed, a, w, _, hl, _, _, _ => by simp at hl
  | (false, i) :: l, fuel + 1, listed, a, w, hcl, hl, hok, hS, h => by
    simp only [okSeqM, Bool.and_eq_true, beq_iff_eq] at hok
    obtain ⟨⟨h1, hic⟩, h3⟩ := hok
    have hri : i ∈ Region.ready .any ops listed := by rw [h1]; simp
    refine ⟨fun h0 => (by rw [h0] at hri; cases hri), fun j hj => ?_⟩
    obtain rfl : j = i := by rw [h1] at hj; simpa using hj
    refine wpOp_mono (fun a' w' h2 => ⟨fun h => absurd hic h, seqM_sound hch hs hQ l fuel _ a' w' (hcl.step hri) (by simp at hl; omega) h3 (fun h' => ?_) h2⟩) h
    rw [← hic, getD_set_self (mem_ready.1 hri).1] at h'
    cases h'
theorem wp_region_mid {id : Nat} {a : Act} {w : World} (l : List (Bool × Nat)) (c : Nat) (S : World → Prop) (hm : P.follows .mixedOrders = true) (hch : chainC .any ops c = true) (hs : Region.noSelect ops = true)
    (hQ : ∀ (d : Tmp) (v : Value) c (a : Act) w, Q (.panic c) { a with tmps := a.tmps.setIfInBounds d v } w → Q (.panic c) a w) (hlen : decide (l.length ≤ ops.size) = true)
    (hok : okSeqM ops c l (Array.replicate ops.size false) = true) (hS : S w.drew) (h : seqM P ops Q S c l a w.drew) : (Code.region id ops true).wp P Q a w :=
  wp_region_any hm (wpAny_of_mid _ _ _ _ (seqM_sound hch hs (fun d v c a w h => by cases d with | none => exact h | some d => exact hQ d v c a w h) l ops.size _ a w.drew (Closed.start _) (of_decide_eq_true hlen) hok (fun _ => hS) h))
theorem seqM_nil {a : Act} {w : World} (h : Q .normal a w) : seqM P ops Q S c [] a w := h
theorem seqM_take {i : Nat} {o : Oper} {v : Value} {l : List (Bool × Nat)} {a : Act} {w : World} (ho : ops[i]? = some o) (hw : Region.wanted o (yielded ops a.tmps) = true)
    (hy : ∀ w', (i < c → S w') → (execOp a.eval o).run P w' = .ok (.value v) w') (h : seqM P ops Q S c l (a.put o.dst v) w) : seqM P ops Q S c ((true, i) :: l) a w := ⟨o, v, ho, .inl ⟨hw, hy⟩, h⟩
theorem seqM_skip {i : Nat} {o : Oper} {l : List (Bool × Nat)} {a : Act} {w : World} (ho : ops[i]? = some o) (hw : Region.wanted o (yielded ops a.tmps) = false)
    (h : seqM P ops Q S c l (a.put o.dst undef) w) : seqM P ops Q S c ((true, i) :: l) a w := ⟨o, undef, ho, .inr ⟨hw, rfl⟩, h⟩
theorem seqM_eff {i : Nat} {o : Oper} {l : List (Bool × Nat)} {a : Act} {w : World} (ho : ops[i]? = some o) (hw : Region.wanted o (yielded ops a.tmps) = true)
    (h : ∀ K : Act → World → Prop, (∀ a' w', seqM P ops Q S c l a' w' → K a' w') → o.wp P a w K Q) : seqM P ops Q S c ((false, i) :: l) a w := by
  show wpOp P ops Q i _ a w
  unfold wpOp
  simp only [ho, hw, if_true]
  exact .inl (h _ fun _ _ h => h)
end
attribute [irreducible] seqM
end Go.Proofs.Ytnobcehiahcfkaa
