/- A statement whose order Go leaves open, walked by a plan: as XRegion, and where two effects may come up either may be the first. -/
import Derived.Test.YthhhlaoiampinaaDoorRegion
import Derived.Test.YthhhlaoiampinaaDoorBase
namespace Go.Proofs.YthhhlaoiampinaaDoor
open Go.RowKit
/-- take: what reads; eff: an effect that stands alone; two: either of two effects may be next. -/
inductive Plan where
  | nil
  | take (i : Nat) (p : Plan)
  | eff (i : Nat) (p : Plan)
  | two (i : Nat) (p : Plan) (j : Nat) (q : Plan)
def Plan.length : Plan → Nat
  | .nil => 0
  | .take _ p => p.length + 1
  | .eff _ p => p.length + 1
  | .two _ p _ q => max p.length q.length + 1
section
variable {P : Program} {ops : Array Oper} {Q : Exit → Act → World → Prop} {S : World → Prop}
def seqP (P : Program) (ops : Array Oper) (Q : Exit → Act → World → Prop) (S : World → Prop) : Plan → Act → World → Prop
  | .nil, a, w => Q .normal a w
  | .take i p, a, w => ∃ o v, ops[i]? = some o ∧ YieldsIf P ops S o v a ∧ seqP P ops Q S p (a.put o.dst v) w
  | .eff i p, a, w => wpOp P ops Q i (fun a' w' => S w' ∧ seqP P ops Q S p a' w') a w
  | .two i p j q, a, w => wpOp P ops Q i (fun a' w' => S w' ∧ seqP P ops Q S p a' w') a w ∧ wpOp P ops Q j (fun a' w' => S w' ∧ seqP P ops Q S q a' w') a w
def okPlan (ops : Array Oper) : Plan → Array Bool → Bool
  | .nil, listed => (Region.ready .any ops listed).isEmpty
  | .take i p, listed => (Region.ready .any ops listed).contains i && Region.free .any ops listed i && okPlan ops p (listed.setIfInBounds i true)
  | .eff i p, listed => (Region.ready .any ops listed == [i]) && okPlan ops p (listed.setIfInBounds i true)
  | .two i p j q, listed => (Region.ready .any ops listed == [i, j]) && okPlan ops p (listed.setIfInBounds i true) && okPlan ops q (listed.setIfInBounds j true)
theorem seqP_sound (hs : Region.noSelect ops = true) (hQ : ∀ (d : Option Tmp) (v : Value) c a w, Q (.panic c) (a.put d v) w → Q (.panic c) a w) :
    ∀ (l : Plan) (fuel : Nat) (listed : Array Bool) (a : Act) (w : World), l.length ≤ fuel → okPlan ops l listed = true → S w → seqP P ops Q S l a w → wpAnyH P .any ops Q S fuel listed a w
  | .nil, fuel, listed, a, w, _, hok, _, h => by
    refine wpAnyH_done ?_ h fuel
    simpa [okPlan] using hok
  | .take i l, 0, listed, a, w, hl, _, _, _ => by simp [Plan.length] at hl
  | .take i l, fuel + 1, listed, a, w, hl, hok, hS, h => by
    simp only [okPlan, Bool.and_eq_true] at hok
    obtain ⟨o, v, ho, hy, hr⟩ := h
    exact wpAnyH_take ho hs hok.1.2 hok.1.1 (hQ _ _) hy hS (seqP_sound hs hQ l fuel _ _ w (by simp [Plan.length] at hl; omega) hok.2 hS hr)
  | .eff i l, 0, listed, a, w, hl, _, _, _ => by simp [Plan.length] at hl
  | .eff i l, fuel + 1, listed, a, w, hl, hok, hS, h => by
    simp only [okPlan, Bool.and_eq_true, beq_iff_eq] at hok
    refine wpAnyH_all hok.1 (by simp) fun j hj => ?_
    obtain rfl : j = i := by simpa using hj
    exact wpOp_mono (fun a' w' ⟨h1, h2⟩ => ⟨h1, seqP_sound hs hQ l fuel _ a' w' (by simp [Plan.length] at hl; omega) hok.2 h1 h2⟩) h
  | .two i p j q, 0, listed, a, w, hl, _, _, _ => by simp [Plan.length] at hl
  | .two i p j q, fuel + 1, listed, a, w, hl, hok, hS, h => by
    simp only [okPlan, Bool.and_eq_true, beq_iff_eq] at hok
    refine wpAnyH_all hok.1.1 (by simp) fun k hk => ?_
    have hk' : k = i ∨ k = j := by simpa using hk
    rcases hk' with rfl | rfl
    · exact wpOp_mono (fun a' w' ⟨h1, h2⟩ => ⟨h1, seqP_sound hs hQ p fuel _ a' w' (by simp [Plan.length] at hl; omega) hok.1.2 h1 h2⟩) h.1
    · exact wpOp_mono (fun a' w' ⟨h1, h2⟩ => ⟨h1, seqP_sound hs hQ q fuel _ a' w' (by simp [Plan.length] at hl; omega) hok.2 h1 h2⟩) h.2
theorem wp_region_plan {id : Nat} {a : Act} {w : World} (l : Plan) (S : World → Prop) (hm : P.follows .mixedOrders = true) (hs : Region.noSelect ops = true)
    (hQ : ∀ (d : Tmp) (v : Value) c (a : Act) w, Q (.panic c) { a with tmps := a.tmps.setIfInBounds d v } w → Q (.panic c) a w) (hlen : decide (l.length ≤ ops.size) = true)
    (hok : okPlan ops l (Array.replicate ops.size false) = true) (hS : S w.drew) (h : seqP P ops Q S l a w.drew) : (Code.region id ops true).wp P Q a w :=
  wp_region_held hm (seqP_sound hs (fun d v c a w h => by cases d with | none => exact h | some d => exact hQ d v c a w h) l ops.size _ a w.drew (of_decide_eq_true hlen) hok hS h)
theorem seqP_nil {a : Act} {w : World} (h : Q .normal a w) : seqP P ops Q S .nil a w := h
theorem seqP_take {i : Nat} {o : Oper} {v : Value} {l : Plan} {a : Act} {w : World} (ho : ops[i]? = some o) (hw : Region.wanted o (yielded ops a.tmps) = true)
    (hy : ∀ w', S w' → (execOp a.eval o).run P w' = .ok (.value v) w') (h : seqP P ops Q S l (a.put o.dst v) w) : seqP P ops Q S (.take i l) a w := ⟨o, v, ho, .inl ⟨hw, hy⟩, h⟩
theorem seqP_skip {i : Nat} {o : Oper} {l : Plan} {a : Act} {w : World} (ho : ops[i]? = some o) (hw : Region.wanted o (yielded ops a.tmps) = false)
    (h : seqP P ops Q S l (a.put o.dst undef) w) : seqP P ops Q S (.take i l) a w := ⟨o, undef, ho, .inr ⟨hw, rfl⟩, h⟩
theorem wpOp_eff {i : Nat} {o : Oper} {l : Plan} {a : Act} {w : World} (ho : ops[i]? = some o) (hw : Region.wanted o (yielded ops a.tmps) = true)
    (h : ∀ K : Act → World → Prop, (∀ a' w', S w' ∧ seqP P ops Q S l a' w' → K a' w') → o.wp P a w K Q) : wpOp P ops Q i (fun a' w' => S w' ∧ seqP P ops Q S l a' w') a w := by
  unfold wpOp
  simp only [ho, hw, if_true]
  exact .inl (h _ fun _ _ h => h)
theorem wpOp_pass {i : Nat} {o : Oper} {l : Plan} {a : Act} {w : World} (ho : ops[i]? = some o) (hw : Region.wanted o (yielded ops a.tmps) = false)
    (hS : S w) (h : seqP P ops Q S l (a.put o.dst undef) w) : wpOp P ops Q i (fun a' w' => S w' ∧ seqP P ops Q S l a' w') a w := by
  unfold wpOp
  simp only [ho, hw, Bool.false_eq_true, if_false]
  exact ⟨hS, h⟩
theorem seqP_eff {i : Nat} {o : Oper} {l : Plan} {a : Act} {w : World} (ho : ops[i]? = some o) (hw : Region.wanted o (yielded ops a.tmps) = true)
    (h : ∀ K : Act → World → Prop, (∀ a' w', S w' ∧ seqP P ops Q S l a' w' → K a' w') → o.wp P a w K Q) : seqP P ops Q S (.eff i l) a w := wpOp_eff ho hw h
theorem seqP_pass {i : Nat} {o : Oper} {l : Plan} {a : Act} {w : World} (ho : ops[i]? = some o) (hw : Region.wanted o (yielded ops a.tmps) = false)
    (hS : S w) (h : seqP P ops Q S l (a.put o.dst undef) w) : seqP P ops Q S (.eff i l) a w := wpOp_pass ho hw hS h
theorem seqP_two {i j : Nat} {o o' : Oper} {p q : Plan} {a : Act} {w : World} (ho : ops[i]? = some o) (ho' : ops[j]? = some o') (hw : Region.wanted o (yielded ops a.tmps) = true) (hw' : Region.wanted o' (yielded ops a.tmps) = true)
    (h : ∀ K : Act → World → Prop, (∀ a' w', S w' ∧ seqP P ops Q S p a' w' → K a' w') → o.wp P a w K Q)
    (h' : ∀ K : Act → World → Prop, (∀ a' w', S w' ∧ seqP P ops Q S q a' w' → K a' w') → o'.wp P a w K Q) : seqP P ops Q S (.two i p j q) a w := ⟨wpOp_eff ho hw h, wpOp_eff ho' hw' h'⟩
/-- append as one operation: elements that lie somewhere, onto one's own. -/
theorem wp_append_owns {α : Type} {o : Oper} {a : Act} {w : World} {K : Act → World → Prop} {Q : Exit → Act → World → Prop} (s x : Operand) (t : TypeId)
    (ho : o.op = .call { callee := .builtin .append, args := #[s, x], argTypes := #[t, t] })
    (base : Nat) (e : TypeId) (z : Value) (size bytes : Nat) (enc : α → List Value) (ht : P.underlying t = some (.slice e)) (hi : ElemInfo P e z size bytes)
    (hzs : z.cells.size = size) (hsz : 0 < size) (hen : ∀ x, (enc x).length = size)
    (v : Value) (xs : List α) (hs : a.eval s = v) (hown : Owns w base e size enc v xs)
    (u : Value) (news : List α) (hx : a.eval x = u) (hr : SlR w enc u news) (h1 : ∀ u ∈ news.flatMap enc, u.oneCell' = true)
    (h63 : xs.length + news.length ≤ maxLen) (hbytes : (xs.length + news.length) * bytes ≤ 140737488355328) (hbase : base ≤ w.heap.size)
    (h : ∀ v' w', Owns w' base e size enc v' (xs ++ news) → w.grownBy w' v.ownBlock → K (a.put o.dst v') w') : o.wp P a w K Q := by
  obtain ⟨i, hi0, hz0, hz1, hz2⟩ := info_parts hi
  obtain ⟨A, c, rfl, hc, hA⟩ := hr
  cases A with
  | none =>
    have hn : news = [] := by
      cases news with
      | nil => rfl
      | cons y ys => obtain ⟨b, off, h, _⟩ := hA (by simp); cases h
    subst hn
    have hrun := run_append_nil (P := P) w base t o.type e i size ht hi0 v _ _ hown c
    unfold Oper.wp execOp
    simp only [List.length_nil] at hx
    simp only [ho, resolve, invoke, builtin, Sem.run_bind, Sem.run_pure, Result.andThen_ok, List.map_toArray, List.map_cons, List.map_nil, hs, hx, hrun]
    exact h v w (by simpa using hown) (World.grownBy.refl w _)
  | some ad =>
    refine wp_append_own w s x t ho base e i z size bytes ht hi0 hz0 hz1 hz2 hzs hsz v xs.length _ hs hown ad news.length c (news.flatMap enc) hx (flat_len hen news) (fun j u hu => ?_) h1 h63 hbytes hbase (fun v' w' h2 h3 _ => h v' w' ?_ h3)
    · have hlen : 0 < news.length := by
        cases news with
        | nil => simp at hu
        | cons y ys => simp
      obtain ⟨b, off, hh, _, hcell⟩ := hA hlen
      injection hh with hh
      subst hh
      have e : ((⟨b, off, none⟩ : Addr).add j) = ⟨b, off + j, none⟩ := by unfold Addr.add; split <;> simp_all
      rw [e]
      exact hcell j u hu
    · unfold Owns
      rw [List.length_append, List.flatMap_append]
      exact h2
end
attribute [irreducible] seqP
end Go.Proofs.YthhhlaoiampinaaDoor
