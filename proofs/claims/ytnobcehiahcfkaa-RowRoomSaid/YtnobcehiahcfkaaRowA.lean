/- A ring of links and the map that finds them: what holds of memory, and what taking one out and pushing one does to it. -/
import Derived.Test.YtnobcehiahcfkaaMapS
import Derived.Test.YtnobcehiahcfkaaBytes
import Derived.Laws.Tables
namespace Go.Proofs.Ytnobcehiahcfkaa
set_option maxRecDepth 20000
open Go.RowKit
abbrev ptr (b : Nat) : Value := .pointer (some ⟨b, 0, none⟩)
/-! ### Frames by type. -/
/-- Not one of these types' cells, and no map. -/
def okObj (ex : List TypeId) : Obj → Bool
  | .cells _ t _ => !ex.contains t
  | .map _ _ => false
  | _ => true
/-- Below n0 nothing has turned, nor has anything that is of other types. -/
structure RF (ex : List TypeId) (n0 : Nat) (w w' : World) : Prop where
  bel : Below n0 w w'
  fr : ∀ (k : Nat) (o : Obj), w.heap[k]? = some o → okObj ex o = true → w'.heap[k]? = some o
section
variable {ex : List TypeId} {n0 : Nat} {w w' w'' : World}
theorem RF.refl (ex : List TypeId) (n0 : Nat) (w : World) : RF ex n0 w w := ⟨Below.refl _ _, fun _ _ h _ => h⟩
theorem RF.trans (h : RF ex n0 w w') (k : RF ex n0 w' w'') : RF ex n0 w w'' := ⟨h.bel.trans k.bel, fun i o hi ho => k.fr i o (h.fr i o hi ho) ho⟩
theorem RF.size (h : RF ex n0 w w') : w.heap.size ≤ w'.heap.size := h.bel.size
theorem RF.drew (h : RF ex n0 w w') : RF ex n0 w w'.drew := ⟨h.bel.drew, h.fr⟩
theorem RF.drewN (h : RF ex n0 w w') (n : Nat) : RF ex n0 w (w'.drewN n) := ⟨⟨h.bel.os, h.bel.tape, h.bel.output, h.bel.size, h.bel.block⟩, h.fr⟩
theorem heap_lt' {w : World} {k : Nat} {o : Obj} (h : w.heap[k]? = some o) : k < w.heap.size := (Array.getElem?_eq_some_iff.1 h).1
theorem RF.grown {row : Option Nat} (h : RF ex n0 w w') (hg : w'.grownBy w'' row) (hn : n0 ≤ w'.heap.size) (hrow : ∀ k, row = some k → n0 ≤ k ∧ ∃ o, w'.heap[k]? = some o ∧ okObj ex o = false) : RF ex n0 w w'' := by
  refine ⟨h.bel.grown hg hn (fun k hk => (hrow k hk).1), fun i o hi ho => ?_⟩
  have h1 := h.fr i o hi ho
  refine (hg.block i (heap_lt' h1) (fun e => ?_)).trans h1
  obtain ⟨_, o', ho', hf⟩ := hrow i e.symm
  rw [h1] at ho'
  cases ho'
  rw [ho] at hf
  cases hf
theorem RF.grownN {row : Option Nat} (h : RF ex n0 w w') (hg : w'.grownBy w'' row) (hn : n0 ≤ w'.heap.size) (hrow : ∀ k, row = some k → n0 ≤ k ∧ (w.heap.size ≤ k ∨ ∃ o, w'.heap[k]? = some o ∧ okObj ex o = false)) : RF ex n0 w w'' := by
  refine ⟨h.bel.grown hg hn (fun k hk => (hrow k hk).1), fun i o hi ho => ?_⟩
  have h1 := h.fr i o hi ho
  refine (hg.block i (heap_lt' h1) (fun e => ?_)).trans h1
  rcases (hrow i e.symm).2 with h2 | ⟨o', ho', hf⟩
  · have := heap_lt' hi
    omega
  · rw [h1] at ho'
    cases ho'
    rw [ho] at hf
    cases hf
theorem RF.alloc (h : RF ex n0 w w') (hn : n0 ≤ w'.heap.size) (o : Obj) : RF ex n0 w (w'.alloc o) := h.grown (World.grownBy_alloc w' o none) hn (fun _ e => by cases e)
theorem RF.set_ (h : RF ex n0 w w') {g i : Nat} {t : TypeId} {cs : Array Value} (hb : Blk w' g t cs) (hn : n0 ≤ g) (ht : ex.contains t = true) (u : Value) : RF ex n0 w (w'.setCell ⟨g, i, none⟩ u) :=
  h.grown (row := some g) ⟨rfl, rfl, rfl, by simp [World.setCell], fun k _ hne => Below.heap_setCell _ _ _ _ (fun e => hne (by rw [e]))⟩ (Nat.le_trans hn (Nat.le_of_lt hb.lt)) (fun k hk => by cases hk; exact ⟨hn, _, hb, by simp only [okObj, ht]; rfl⟩)
theorem RF.mono {ex' : List TypeId} (h : RF ex n0 w w') (he : ∀ t, ex.contains t = true → ex'.contains t = true) : RF ex' n0 w w' :=
  ⟨h.bel, fun k o hk ho => h.fr k o hk (by
    unfold okObj at ho ⊢
    split <;> simp_all
    exact fun hc => ho (he _ hc))⟩
theorem RF.of_below (h : Below w.heap.size w w') (hn : n0 ≤ w.heap.size) : RF ex n0 w w' := ⟨h.mono hn, fun k o hk _ => (h.block k (heap_lt' hk)).trans hk⟩
theorem RF.lower {n1 : Nat} (h : RF ex n0 w w') (hn : n1 ≤ n0) : RF ex n1 w w' := ⟨h.bel.mono hn, h.fr⟩
theorem Blk.rf {g : Nat} {t : TypeId} {cs : Array Value} (hb : Blk w g t cs) (h : RF ex n0 w w') (ht : ex.contains t = false) : Blk w' g t cs := h.fr g _ hb (by simp only [okObj, ht]; rfl)
theorem Owns.rf {α : Type} {base : Nat} {e : TypeId} {size : Nat} {enc : α → List Value} {v : Value} {xs : List α} (ho : Owns w base e size enc v xs) (h : RF ex n0 w w') (ht : ex.contains e = false) : Owns w' base e size enc v xs := by
  refine ⟨ho.1, ho.2.imp id ?_⟩
  rintro ⟨g, cap, cur, h1, h2, h3, h4⟩
  exact ⟨g, cap, cur, h1, h2, h.fr g _ h3 (by simp only [okObj, ht]; rfl), h4⟩
end
theorem Blk.keptR {w w' : World} {g : Nat} {t : TypeId} {cs : Array Value} {row : Option Nat} (h : Blk w g t cs) (hg : w.grownBy w' row) (hne : some g ≠ row) : Blk w' g t cs := (hg.block g h.lt hne).trans h
/-! ### Links. -/
def Lk (w : World) (a b : Nat) : Prop := w.cell? ⟨a, 3, none⟩ = some (ptr b) ∧ w.cell? ⟨b, 2, none⟩ = some (ptr a)
def Links (w : World) : List Nat → Prop
  | [] => True
  | [_] => True
  | a :: b :: l => Lk w a b ∧ Links w (b :: l)
theorem Links.keep {w w' : World} : ∀ {zs : List Nat}, Links w zs → (∀ a ∈ zs.dropLast, w'.cell? ⟨a, 3, none⟩ = w.cell? ⟨a, 3, none⟩) → (∀ b ∈ zs.tail, w'.cell? ⟨b, 2, none⟩ = w.cell? ⟨b, 2, none⟩) → Links w' zs
  | [], _, _, _ => trivial
  | [_], _, _, _ => trivial
  | a :: b :: l, h, h1, h2 => ⟨⟨(h1 a (by simp)).trans h.1.1, (h2 b (by simp)).trans h.1.2⟩, Links.keep h.2 (fun x hx => h1 x (by simp only [List.dropLast_cons_cons, List.mem_cons]; exact .inr hx)) (fun x hx => h2 x (by simp only [List.tail_cons] at hx ⊢; exact List.mem_cons_of_mem _ hx))⟩
theorem links_app {w : World} (a : Nat) (ys : List Nat) : ∀ xs : List Nat, Links w (xs ++ a :: ys) ↔ Links w (xs ++ [a]) ∧ Links w (a :: ys)
  | [] => by simp [Links]
  | [x] => by
    cases ys with
    | nil => simp [Links]
    | cons y ys => simp [Links, and_assoc]
  | x :: y :: xs => by
    have := links_app (w := w) a ys (y :: xs)
    simp only [List.cons_append, Links] at this ⊢
    rw [this]
    exact and_assoc.symm
theorem list_last (c : Nat) (l : List Nat) : ∃ xs p, c :: l = xs ++ [p] := by
  exact ⟨(c :: l).dropLast, (c :: l).getLast (by simp), (List.dropLast_concat_getLast (by simp)).symm⟩
theorem links_next {w : World} {a b : Nat} {xs ys : List Nat} (h : Links w (xs ++ a :: b :: ys)) : Lk w a b := ((links_app a (b :: ys) xs).1 h).2.1
/-- Two in a row are tied anew, past the one between them. -/
theorem links_cut {w w' : World} {xs ys : List Nat} {p b q : Nat} (h : Links w (xs ++ p :: b :: q :: ys)) (hp : p ∉ xs) (hpy : p ∉ (q :: ys).dropLast) (hqx : q ∉ (xs ++ [p]).tail) (hqy : q ∉ ys)
    (h1 : w'.cell? ⟨p, 3, none⟩ = some (ptr q)) (h2 : w'.cell? ⟨q, 2, none⟩ = some (ptr p)) (h3 : ∀ a, a ≠ p → w'.cell? ⟨a, 3, none⟩ = w.cell? ⟨a, 3, none⟩) (h4 : ∀ a, a ≠ q → w'.cell? ⟨a, 2, none⟩ = w.cell? ⟨a, 2, none⟩) : Links w' (xs ++ p :: q :: ys) := by
  obtain ⟨g1, g2⟩ := (links_app p (b :: q :: ys) xs).1 h
  refine (links_app p (q :: ys) xs).2 ⟨g1.keep (fun a ha => h3 a ?_) (fun a ha => h4 a ?_), ⟨h1, h2⟩, (g2.2.2 : Links w (q :: ys)).keep (fun a ha => h3 a ?_) (fun a ha => h4 a ?_)⟩
  · rintro rfl; rw [List.dropLast_concat] at ha; exact hp ha
  · rintro rfl; exact hqx ha
  · rintro rfl; exact hpy ha
  · rintro rfl; exact hqy ha
/-- One more between the last and the first. -/
theorem links_add {w w' : World} {xs : List Nat} {p b c : Nat} (h : Links w (xs ++ p :: [c])) (hp : p ∉ xs) (hc : c ∉ (xs ++ [p]).tail) (hb : b ∉ xs ++ [p])
    (h1 : Lk w' p b) (h2 : Lk w' b c) (h3 : ∀ a, a ≠ p → a ≠ b → w'.cell? ⟨a, 3, none⟩ = w.cell? ⟨a, 3, none⟩) (h4 : ∀ a, a ≠ c → a ≠ b → w'.cell? ⟨a, 2, none⟩ = w.cell? ⟨a, 2, none⟩) : Links w' (xs ++ p :: b :: [c]) := by
  obtain ⟨g1, g2⟩ := (links_app p [c] xs).1 h
  refine (links_app p (b :: [c]) xs).2 ⟨g1.keep (fun a ha => h3 a ?_ ?_) (fun a ha => h4 a ?_ ?_), h1, h2, trivial⟩
  · rintro rfl; rw [List.dropLast_concat] at ha; exact hp ha
  · rintro rfl; rw [List.dropLast_concat] at ha; exact hb (List.mem_append_left _ ha)
  · rintro rfl; exact hc ha
  · rintro rfl; exact hb (List.mem_of_mem_tail ha)
/-! ### The chain. -/
/-- A link of the chain: its block, its key, what it has. -/
abbrev Nd := Nat × ByteArray × Int
def atF (ns : List Nd) (k : ByteArray) : Option Value := (ns.find? (fun x => decide (x.2.1 = k))).map fun x => ptr x.1
def NodeB (w : World) (x : Nd) : Prop := ∃ pv nx, Blk w x.1 122 #[.string x.2.1, .int .i64 x.2.2, pv, nx]
def RootB (w : World) (c mb : Nat) : Prop := ∃ pv nx, Blk w c 125 #[.string ByteArray.empty, .int .i64 0, pv, nx, .map (some mb)]
theorem NodeB.set_ {w : World} {x : Nd} (h : NodeB w x) (g i : Nat) (hi : i = 2 ∨ i = 3) (u : Value) : NodeB (w.setCell ⟨g, i, none⟩ u) x := by
  obtain ⟨pv, nx, hb⟩ := h
  by_cases hg : x.1 = g
  · subst hg
    rcases hi with rfl | rfl
    · exact ⟨u, nx, hb.set_ 2 u⟩
    · exact ⟨pv, u, hb.set_ 3 u⟩
  · exact ⟨pv, nx, hb.far hg u⟩
theorem RootB.set_ {w : World} {c mb : Nat} (h : RootB w c mb) (g i : Nat) (hi : i = 2 ∨ i = 3) (u : Value) : RootB (w.setCell ⟨g, i, none⟩ u) c mb := by
  obtain ⟨pv, nx, hb⟩ := h
  by_cases hg : c = g
  · subst hg
    rcases hi with rfl | rfl
    · exact ⟨u, nx, hb.set_ 2 u⟩
    · exact ⟨pv, u, hb.set_ 3 u⟩
  · exact ⟨pv, nx, hb.far hg u⟩
theorem NodeB.lt {w : World} {x : Nd} (h : NodeB w x) : x.1 < w.heap.size := by obtain ⟨_, _, hb⟩ := h; exact hb.lt
structure Chn (w : World) (n0 c mb : Nat) (ns : List Nd) : Prop where
  root : RootB w c mb
  node : ∀ x ∈ ns, NodeB w x
  ring : Links w (c :: (ns.map (·.1) ++ [c]))
  nd : (ns.map (·.1)).Nodup
  kd : (ns.map (·.2.1)).Nodup
  mp : MapS Try.prog w 9 mb (atF ns) ns.length
  b0 : n0 ≤ c ∧ n0 ≤ mb ∧ ∀ x ∈ ns, n0 ≤ x.1
section
variable {w w' : World} {n0 c mb : Nat} {ns : List Nd}
theorem Chn.ne_root (h : Chn w n0 c mb ns) : ∀ x ∈ ns, x.1 ≠ c := by
  intro x hx e
  obtain ⟨_, _, hb⟩ := h.node x hx
  obtain ⟨_, _, hr⟩ := h.root
  rw [e] at hb
  unfold Blk at hb hr
  rw [hr] at hb
  injection hb with hb
  injection hb with _ hb
  revert hb
  decide
theorem Chn.kept {row : Option Nat} (h : Chn w n0 c mb ns) (hg : w.grownBy w' row) (hc : some c ≠ row) (hm : some mb ≠ row) (hn : ∀ x ∈ ns, some x.1 ≠ row) : Chn w' n0 c mb ns := by
  have hcell : ∀ (a : Nat) (i : Nat) (v : Value), (a = c ∨ ∃ x ∈ ns, x.1 = a) → w.cell? ⟨a, i, none⟩ = some v → w'.cell? ⟨a, i, none⟩ = w.cell? ⟨a, i, none⟩ := by
    intro a i v ha hv
    rw [hv]
    refine hg.cell hv ?_
    rcases ha with rfl | ⟨x, hx, rfl⟩
    · exact hc
    · exact hn x hx
  refine ⟨?_, fun x hx => ?_, ?_, h.nd, h.kd, h.mp.kept hg hm, h.b0⟩
  · obtain ⟨pv, nx, hb⟩ := h.root
    exact ⟨pv, nx, Blk.keptR hb hg hc⟩
  · obtain ⟨pv, nx, hb⟩ := h.node x hx
    exact ⟨pv, nx, Blk.keptR hb hg (hn x hx)⟩
  · refine h.ring.keep (fun a ha => ?_) (fun a ha => ?_)
    · have : a = c ∨ ∃ x ∈ ns, x.1 = a := by
        have := List.dropLast_subset _ ha
        simp only [List.mem_cons, List.mem_append, List.mem_map, List.not_mem_nil, or_false] at this
        rcases this with h | ⟨x, hx, h⟩ | h
        · exact .inl h
        · exact .inr ⟨x, hx, h⟩
        · exact .inl h
      rcases this with rfl | ⟨x, hx, rfl⟩
      · obtain ⟨pv, nx, hb⟩ := h.root
        exact hcell _ 3 nx (.inl rfl) (hb.cell 3)
      · obtain ⟨pv, nx, hb⟩ := h.node x hx
        exact hcell _ 3 nx (.inr ⟨x, hx, rfl⟩) (hb.cell 3)
    · have : a = c ∨ ∃ x ∈ ns, x.1 = a := by
        simp only [List.tail_cons, List.mem_append, List.mem_map, List.mem_cons, List.not_mem_nil, or_false] at ha
        rcases ha with ⟨x, hx, h⟩ | h
        · exact .inr ⟨x, hx, h⟩
        · exact .inl h
      rcases this with rfl | ⟨x, hx, rfl⟩
      · obtain ⟨pv, nx, hb⟩ := h.root
        exact hcell _ 2 pv (.inl rfl) (hb.cell 2)
      · obtain ⟨pv, nx, hb⟩ := h.node x hx
        exact hcell _ 2 pv (.inr ⟨x, hx, rfl⟩) (hb.cell 2)
theorem Chn.drew (h : Chn w n0 c mb ns) : Chn w.drew n0 c mb ns := ⟨h.root, h.node, h.ring.keep (fun _ _ => rfl) (fun _ _ => rfl), h.nd, h.kd, h.mp, h.b0⟩
theorem Chn.alloc (h : Chn w n0 c mb ns) (o : Obj) : Chn (w.alloc o) n0 c mb ns := h.kept (World.grownBy_alloc w o none) (by simp) (by simp) (fun _ _ => by simp)
theorem Chn.below (h : Chn w n0 c mb ns) (hb : Below w.heap.size w w') : Chn w' n0 c mb ns :=
  h.kept (row := none) ⟨hb.os, hb.tape, hb.output, hb.size, fun k hk _ => hb.block k hk⟩ (by simp) (by simp) (fun _ _ => by simp)
/-- What grows is of another type. -/
theorem Chn.keptT {row : Option Nat} (h : Chn w n0 c mb ns) (hg : w.grownBy w' row) (hrow : ∀ k, row = some k → ∃ cs t fr, w.heap[k]? = some (.cells cs t fr) ∧ t ≠ 125 ∧ t ≠ 122) : Chn w' n0 c mb ns := by
  refine h.kept hg ?_ ?_ ?_
  · intro e
    obtain ⟨cs, t, fr, hh, h1, _⟩ := hrow c e.symm
    obtain ⟨_, _, hb⟩ := h.root
    unfold Blk at hb
    rw [hh] at hb
    injection hb with hb
    injection hb with _ hb
    exact h1 hb
  · intro e
    obtain ⟨cs, t, fr, hh, _⟩ := hrow mb e.symm
    obtain ⟨es, ck, hm⟩ := h.mp.isMapObj
    rw [hm] at hh
    cases hh
  · intro x hx e
    obtain ⟨cs, t, fr, hh, _, h2⟩ := hrow x.1 e.symm
    obtain ⟨_, _, hb⟩ := h.node x hx
    unfold Blk at hb
    rw [hh] at hb
    injection hb with hb
    injection hb with _ hb
    exact h2 hb
theorem atF_mem {l r : List Nd} {x : Nd} (h : ((l ++ x :: r).map (·.2.1)).Nodup) : atF (l ++ x :: r) x.2.1 = some (ptr x.1) := by
  unfold atF
  have h0 : ∀ y ∈ l, ¬ y.2.1 = x.2.1 := by
    intro y hy
    rw [List.map_append, List.map_cons, List.nodup_append] at h
    exact h.2.2 y.2.1 (List.mem_map.2 ⟨y, hy, rfl⟩) x.2.1 (by simp)
  rw [List.find?_append, List.find?_eq_none.2 (fun y hy => by simp [h0 y hy])]
  simp
theorem atF_none {ns : List Nd} {k : ByteArray} (h : ∀ x ∈ ns, x.2.1 ≠ k) : atF ns k = none := by
  unfold atF
  rw [List.find?_eq_none.2 (fun y hy => by simp [h y hy])]
  rfl
theorem find_split (ns : List Nd) (k : ByteArray) : (∀ x ∈ ns, x.2.1 ≠ k) ∨ ∃ l b s r, ns = l ++ (b, k, s) :: r := by
  by_cases h : ∃ x ∈ ns, x.2.1 = k
  · obtain ⟨x, hx, rfl⟩ := h
    obtain ⟨l, r, rfl⟩ := List.append_of_mem hx
    exact .inr ⟨l, x.1, x.2.2, r, rfl⟩
  · exact .inl fun x hx e => h ⟨x, hx, e⟩
end
end Go.Proofs.Ytnobcehiahcfkaa
