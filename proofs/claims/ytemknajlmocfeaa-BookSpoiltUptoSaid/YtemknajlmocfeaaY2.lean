/- A chain's take, push and making: the walks. -/
import Derived.Test.YtemknajlmocfeaaY1
import Derived.Great.Walk
import Derived.Maps.OwnSet
import Derived.RangeFuncNested
import Derived.RangeFuncBound
import Derived.RangeFuncCalls
import Derived.RangeFuncLeaves
import Derived.Shelf.Abstract
import Derived.Shelf.RegionOpen
import Derived.WalkKit
import Derived.OwnWalkIn
import Derived.TacticsInMore
import Derived.LoopNIn
import Derived.LoopIn
import Derived.Test.YtemknajlmocfeaaY0
import Derived.LaidEqlPtr
import Derived.Lib.Builder
namespace Go.Proofs.Ytemknajlmocfeaa
set_option maxRecDepth 20000
open Go.RowKit
/-- W5 is W but for p's next and q's previous one. -/
structure Two (n0 : Nat) (W W5 : World) (p q : Nat) (u v : Value) : Prop where
  cp : W5.cell? ⟨p, 3, none⟩ = some u
  cq : W5.cell? ⟨q, 2, none⟩ = some v
  c3 : ∀ a, a ≠ p → W5.cell? ⟨a, 3, none⟩ = W.cell? ⟨a, 3, none⟩
  c2 : ∀ a, a ≠ q → W5.cell? ⟨a, 2, none⟩ = W.cell? ⟨a, 2, none⟩
  oth : ∀ a i, i ≠ 2 → i ≠ 3 → W5.cell? ⟨a, i, none⟩ = W.cell? ⟨a, i, none⟩
  node : ∀ x, NodeB W x → NodeB W5 x
  root : ∀ c mb, RootB W c mb → RootB W5 c mb
  mp : ∀ kt mb f n, MapS Try.prog W kt mb f n → MapS Try.prog W5 kt mb f n
  rf : RF [164, 161] n0 W W5
  sz : W5.heap.size = W.heap.size
/-- A block of the chain or of a link, whose cells 2 and 3 are there. -/
def Cel (W : World) (n0 g : Nat) : Prop := n0 ≤ g ∧ ∃ t cs, Blk W g t cs ∧ (t = 164 ∨ t = 161) ∧ 4 ≤ cs.size
theorem Cel.set_ {W : World} {n0 g : Nat} (h : Cel W n0 g) (a i : Nat) (u : Value) : Cel (W.setCell ⟨a, i, none⟩ u) n0 g := by
  obtain ⟨h0, t, cs, hb, ht, hs⟩ := h
  by_cases ha : g = a
  · subst ha
    exact ⟨h0, t, _, hb.set_ i u, ht, by simpa using hs⟩
  · exact ⟨h0, t, cs, hb.far ha u, ht, hs⟩
theorem Cel.frozen {W : World} {n0 g : Nat} (h : Cel W n0 g) (i : Nat) : W.frozen? ⟨g, i, none⟩ = false := by obtain ⟨_, t, cs, hb, _⟩ := h; exact hb.frozen i
theorem cell_set_ne (W : World) (a g i j : Nat) (u : Value) (h : a ≠ g ∨ j ≠ i) : (W.setCell ⟨g, i, none⟩ u).cell? ⟨a, j, none⟩ = W.cell? ⟨a, j, none⟩ := by
  by_cases ha : a = g
  · subst ha
    have hj : j ≠ i := by
      rcases h with h | h
      · exact absurd rfl h
      · exact h
    simp only [World.cell?, World.setCell, Array.getElem?_modify, if_true]
    cases hh : W.heap[a]? with
    | none => rfl
    | some o => cases o <;> simp [Array.getElem?_setIfInBounds, Ne.symm hj]
  · simp only [World.cell?, World.setCell, Array.getElem?_modify]
    rw [if_neg (fun e => ha e.symm)]
theorem cell_set_same {W : World} {n0 g i : Nat} (h : Cel W n0 g) (hi : i < 4) (u : Value) : (W.setCell ⟨g, i, none⟩ u).cell? ⟨g, i, none⟩ = some u := by
  obtain ⟨_, t, cs, hb, _, hs⟩ := h
  rw [(hb.set_ i u).cell i, Array.getElem?_setIfInBounds_self_of_lt (by omega)]
theorem Cel.rf {W : World} {n0 g : Nat} (h : Cel W n0 g) (i : Nat) (u : Value) : RF [164, 161] n0 W (W.setCell ⟨g, i, none⟩ u) := by
  obtain ⟨h0, t, cs, hb, ht, _⟩ := h
  exact (RF.refl _ n0 W).set_ hb h0 (by rcases ht with rfl | rfl <;> decide) u
theorem mp_set {W : World} {n0 g : Nat} (h : Cel W n0 g) (i : Nat) (u : Value) {kt : TypeId} {mb n : Nat} {f : ByteArray → Option Value} (hm : MapS Try.prog W kt mb f n) : MapS Try.prog (W.setCell ⟨g, i, none⟩ u) kt mb f n := by
  obtain ⟨_, t, cs, hb, _⟩ := h
  exact hm.setCell hb u
theorem Two.ab {n0 : Nat} {W : World} {p q : Nat} (hp : Cel W n0 p) (hq : Cel W n0 q) (u v : Value) : Two n0 W ((W.setCell ⟨p, 3, none⟩ u).setCell ⟨q, 2, none⟩ v) p q u v :=
  ⟨by rw [cell_set_ne _ _ _ _ _ _ (.inr (by decide)), cell_set_same hp (by decide)], cell_set_same (hq.set_ p 3 u) (by decide) v,
    fun a ha => by rw [cell_set_ne _ _ _ _ _ _ (.inr (by decide)), cell_set_ne _ _ _ _ _ _ (.inl ha)],
    fun a ha => by rw [cell_set_ne _ _ _ _ _ _ (.inl ha), cell_set_ne _ _ _ _ _ _ (.inr (by decide))],
    fun a i h2 h3 => by rw [cell_set_ne _ _ _ _ _ _ (.inr h2), cell_set_ne _ _ _ _ _ _ (.inr h3)],
    fun x h => (h.set_ p 3 (.inr rfl) u).set_ q 2 (.inl rfl) v, fun c mb h => (h.set_ p 3 (.inr rfl) u).set_ q 2 (.inl rfl) v, fun kt mb f n h => mp_set (hq.set_ p 3 u) 2 v (mp_set hp 3 u h), (hp.rf 3 u).trans ((hq.set_ p 3 u).rf 2 v), by simp [World.setCell]⟩
theorem Two.ba {n0 : Nat} {W : World} {p q : Nat} (hp : Cel W n0 p) (hq : Cel W n0 q) (u v : Value) : Two n0 W ((W.setCell ⟨q, 2, none⟩ v).setCell ⟨p, 3, none⟩ u) p q u v :=
  ⟨cell_set_same (hp.set_ q 2 v) (by decide) u, by rw [cell_set_ne _ _ _ _ _ _ (.inr (by decide)), cell_set_same hq (by decide)],
    fun a ha => by rw [cell_set_ne _ _ _ _ _ _ (.inl ha), cell_set_ne _ _ _ _ _ _ (.inr (by decide))],
    fun a ha => by rw [cell_set_ne _ _ _ _ _ _ (.inr (by decide)), cell_set_ne _ _ _ _ _ _ (.inl ha)],
    fun a i h2 h3 => by rw [cell_set_ne _ _ _ _ _ _ (.inr h3), cell_set_ne _ _ _ _ _ _ (.inr h2)],
    fun x h => (h.set_ q 2 (.inl rfl) v).set_ p 3 (.inr rfl) u, fun c mb h => (h.set_ q 2 (.inl rfl) v).set_ p 3 (.inr rfl) u, fun kt mb f n h => mp_set (hp.set_ q 2 v) 3 u (mp_set hq 2 v h), (hq.rf 2 v).trans ((hp.set_ q 2 v).rf 3 u), by simp [World.setCell]⟩
section
variable {w : World} {n0 c mb : Nat} {ns : List Nd}
theorem Chn.cel (h : Chn w n0 c mb ns) {a : Nat} (ha : a = c ∨ ∃ x ∈ ns, x.1 = a) : Cel w n0 a := by
  rcases ha with rfl | ⟨x, hx, rfl⟩
  · obtain ⟨pv, nx, hb⟩ := h.root
    exact ⟨h.b0.1, _, _, hb, .inl rfl, by simp⟩
  · obtain ⟨pv, nx, hb⟩ := h.node x hx
    exact ⟨h.b0.2.2 x hx, _, _, hb, .inr rfl, by simp⟩
/-- The neighbours of one in the chain. -/
theorem Chn.around {l r : List Nd} {x : Nd} (h : Chn w n0 c mb (l ++ x :: r)) : ∃ xs p q ys, c :: l.map (·.1) = xs ++ [p] ∧ r.map (·.1) ++ [c] = q :: ys ∧ c :: ((l ++ x :: r).map (·.1) ++ [c]) = xs ++ p :: x.1 :: q :: ys ∧ c :: ((l ++ r).map (·.1) ++ [c]) = xs ++ p :: q :: ys ∧
    (p = c ∨ ∃ y ∈ l ++ x :: r, y.1 = p) ∧ (q = c ∨ ∃ y ∈ l ++ x :: r, y.1 = q) ∧ p ≠ x.1 ∧ q ≠ x.1 ∧ p ∉ xs ∧ p ∉ (q :: ys).dropLast ∧ q ∉ (xs ++ [p]).tail ∧ q ∉ ys := by
  obtain ⟨xs, p, hxp⟩ := list_last c (l.map (·.1))
  obtain ⟨q, ys, hq⟩ : ∃ q ys, r.map (·.1) ++ [c] = q :: ys := by
    cases r with
    | nil => exact ⟨c, [], rfl⟩
    | cons y r => exact ⟨y.1, r.map (·.1) ++ [c], rfl⟩
  have hroot := h.ne_root
  have hnd := h.nd
  rw [List.map_append, List.map_cons, List.nodup_append] at hnd
  obtain ⟨n1, n2, n3⟩ := hnd
  rw [List.nodup_cons] at n2
  have hcl : c ∉ l.map (·.1) := fun hc => by
    obtain ⟨y, hy, e⟩ := List.mem_map.1 hc
    exact hroot y (by simp [hy]) e
  have hcr : c ∉ r.map (·.1) := fun hc => by
    obtain ⟨y, hy, e⟩ := List.mem_map.1 hc
    exact hroot y (by simp [hy]) e
  have hcx : x.1 ≠ c := hroot x (by simp)
  have hpm : p ∈ c :: l.map (·.1) := by rw [hxp]; simp
  have hqm : q ∈ r.map (·.1) ++ [c] := by rw [hq]; simp
  have nd1 : (c :: l.map (·.1)).Nodup := List.nodup_cons.2 ⟨hcl, n1⟩
  have nd2 : (r.map (·.1) ++ [c]).Nodup := List.nodup_append.2 ⟨n2.2, by simp, fun a ha b hb => by simp at hb; subst hb; exact fun e => hcr (e ▸ ha)⟩
  have hpl : p = c ∨ p ∈ l.map (·.1) := by simpa using hpm
  have hqr : q ∈ r.map (·.1) ∨ q = c := by simpa using hqm
  refine ⟨xs, p, q, ys, hxp, hq, ?_, ?_, ?_, ?_, ?_, ?_, ?_, ?_, ?_, ?_⟩
  · rw [List.map_append, List.map_cons, List.append_assoc, List.cons_append, hq, ← List.cons_append, hxp, List.append_assoc]; rfl
  · rw [List.map_append, List.append_assoc, hq, ← List.cons_append, hxp, List.append_assoc]; rfl
  · rcases hpl with h1 | h1
    · exact .inl h1
    · obtain ⟨y, hy, e⟩ := List.mem_map.1 h1
      exact .inr ⟨y, by simp [hy], e⟩
  · rcases hqr with h1 | h1
    · obtain ⟨y, hy, e⟩ := List.mem_map.1 h1
      exact .inr ⟨y, by simp [hy], e⟩
    · exact .inl h1
  · rcases hpl with h1 | h1
    · rw [h1]; exact fun e => hcx e.symm
    · exact n3 p h1 x.1 (by simp)
  · rcases hqr with h1 | h1
    · rintro rfl; exact n2.1 h1
    · rw [h1]; exact fun e => hcx e.symm
  · rw [hxp] at nd1
    exact fun hx => (List.nodup_append.1 nd1).2.2 p hx p (by simp) rfl
  · intro hpy
    rw [← hq, List.dropLast_concat] at hpy
    rcases hpl with h1 | h1
    · exact hcr (h1 ▸ hpy)
    · exact n3 p h1 p (by simp [hpy]) rfl
  · intro hqx
    rw [← hxp, List.tail_cons] at hqx
    rcases hqr with h1 | h1
    · exact n3 q hqx q (by simp [h1]) rfl
    · exact hcl (h1 ▸ hqx)
  · rw [hq] at nd2
    exact (List.nodup_cons.1 nd2).1
theorem atF_del {l r : List Nd} {b : Nat} {k : ByteArray} {s : Int} (h : ((l ++ (b, k, s) :: r).map (·.2.1)).Nodup) : ∀ x, fdel (atF (l ++ (b, k, s) :: r)) k x = atF (l ++ r) x := by
  rw [List.map_append, List.map_cons, List.nodup_append] at h
  obtain ⟨h1, h2, h3⟩ := h
  intro x
  unfold fdel
  by_cases hx : x = k
  · subst hx
    rw [if_pos rfl, atF_none]
    intro y hy
    rcases List.mem_append.1 hy with hy | hy
    · exact h3 y.2.1 (List.mem_map.2 ⟨y, hy, rfl⟩) x (by simp)
    · intro e
      exact (List.nodup_cons.1 h2).1 (List.mem_map.2 ⟨y, hy, e⟩)
  · rw [if_neg hx]
    unfold atF
    rw [List.find?_append, List.find?_append, List.find?_cons_of_neg (by simpa using fun e => hx e.symm)]
theorem Chn.taken {w W5 w6 : World} {n0 c mb : Nat} {l r : List Nd} {b : Nat} {k : ByteArray} {s : Int} (h : Chn w n0 c mb (l ++ (b, k, s) :: r)) {xs ys : List Nat} {p q : Nat} (e1 : c :: ((l ++ (b, k, s) :: r).map (·.1) ++ [c]) = xs ++ p :: b :: q :: ys) (e2 : c :: ((l ++ r).map (·.1) ++ [c]) = xs ++ p :: q :: ys)
    (hp : p ∉ xs) (hpy : p ∉ (q :: ys).dropLast) (hqx : q ∉ (xs ++ [p]).tail) (hqy : q ∉ ys) (t : Two n0 w W5 p q (ptr q) (ptr p)) (hm : MapS Try.prog w6 9 mb (fdel (atF (l ++ (b, k, s) :: r)) k) (l ++ r).length) (hg : W5.grownBy w6 (some mb)) : Chn w6 n0 c mb (l ++ r) := by
  have hmem : ∀ x ∈ l ++ r, x ∈ l ++ (b, k, s) :: r := fun x hx => by
    rcases List.mem_append.1 hx with hx | hx
    · exact List.mem_append_left _ hx
    · exact List.mem_append_right _ (List.mem_cons_of_mem _ hx)
  have hm5 := t.mp _ _ _ _ h.mp
  have sub : (l ++ r).Sublist (l ++ (b, k, s) :: r) := List.Sublist.append (List.Sublist.refl _) (List.sublist_cons_self ..)
  have h5 : Chn W5 n0 c mb (l ++ (b, k, s) :: r) → True := fun _ => trivial
  have hring : Links W5 (c :: ((l ++ r).map (·.1) ++ [c])) := by
    rw [e2]
    have := h.ring
    rw [e1] at this
    exact links_cut this hp hpy hqx hqy t.cp t.cq t.c3 t.c2
  have hne : ∀ x ∈ l ++ (b, k, s) :: r, some x.1 ≠ some mb := fun x hx e => by
    injection e with e
    obtain ⟨_, _, hb⟩ := h.node x hx
    exact h.mp.ne_blk hb e.symm
  have hcm : some c ≠ some mb := fun e => by
    injection e with e
    obtain ⟨_, _, hb⟩ := h.root
    exact h.mp.ne_blk hb e.symm
  have cells : ∀ a i v, (a = c ∨ ∃ x ∈ l ++ (b, k, s) :: r, x.1 = a) → W5.cell? ⟨a, i, none⟩ = some v → w6.cell? ⟨a, i, none⟩ = W5.cell? ⟨a, i, none⟩ := by
    intro a i v ha hv
    rw [hv]
    refine hg.cell hv ?_
    rcases ha with rfl | ⟨x, hx, rfl⟩
    · exact hcm
    · exact hne x hx
  have hmemc : ∀ a, a ∈ c :: ((l ++ r).map (·.1) ++ [c]) → (a = c ∨ ∃ x ∈ l ++ (b, k, s) :: r, x.1 = a) := by
    intro a ha
    simp only [List.mem_cons, List.mem_append, List.mem_map, List.not_mem_nil, or_false] at ha
    rcases ha with h1 | ⟨x, hx, h1⟩ | h1
    · exact .inl h1
    · exact .inr ⟨x, hmem x (List.mem_append.2 hx), h1⟩
    · exact .inl h1
  have ex23 : ∀ a, (a = c ∨ ∃ x ∈ l ++ (b, k, s) :: r, x.1 = a) → (∃ v, W5.cell? ⟨a, 2, none⟩ = some v) ∧ ∃ v, W5.cell? ⟨a, 3, none⟩ = some v := by
    intro a ha
    rcases ha with rfl | ⟨x, hx, rfl⟩
    · obtain ⟨pv, nx, hb⟩ := t.root _ _ h.root
      exact ⟨⟨pv, hb.cell 2⟩, ⟨nx, hb.cell 3⟩⟩
    · obtain ⟨pv, nx, hb⟩ := t.node _ (h.node x hx)
      exact ⟨⟨pv, hb.cell 2⟩, ⟨nx, hb.cell 3⟩⟩
  refine ⟨?_, fun x hx => ?_, ?_, (sub.map _).nodup h.nd, (sub.map _).nodup h.kd, hm.congr (atF_del h.kd) rfl, h.b0.1, h.b0.2.1, fun x hx => h.b0.2.2 x (hmem x hx)⟩
  · obtain ⟨pv, nx, hb⟩ := t.root _ _ h.root
    exact ⟨pv, nx, Blk.keptR hb hg hcm⟩
  · obtain ⟨pv, nx, hb⟩ := t.node _ (h.node x (hmem x hx))
    exact ⟨pv, nx, Blk.keptR hb hg (hne x (hmem x hx))⟩
  · refine hring.keep (fun a ha => ?_) (fun a ha => ?_)
    · have hm := hmemc a (List.dropLast_subset _ ha)
      obtain ⟨_, v, hv⟩ := ex23 a hm
      exact cells a 3 v hm hv
    · have hm := hmemc a (List.mem_of_mem_tail ha)
      obtain ⟨⟨v, hv⟩, _⟩ := ex23 a hm
      exact cells a 2 v hm hv
end
theorem Two.drewL {n0 : Nat} {W W5 : World} {p q : Nat} {u v : Value} (h : Two n0 W.drew W5 p q u v) : Two n0 W W5 p q u v :=
  ⟨h.cp, h.cq, h.c3, h.c2, h.oth, h.node, h.root, h.mp, ⟨⟨h.rf.bel.os, h.rf.bel.tape, h.rf.bel.output, h.rf.bel.size, h.rf.bel.block⟩, h.rf.fr⟩, h.sz⟩
set_option maxHeartbeats 2000000 in
theorem take_some (n0 c mb b : Nat) (l r : List Nd) (k : ByteArray) (s : Int) (w : World) (h : Chn w n0 c mb (l ++ (b, k, s) :: r)) (hks : k.size ≤ maxLen) :
    Calls Try.prog 97 #[ptr c, .string k] w fun e w' => e = .returned (.tuple #[.int .i64 s, .bool true]) ∧ Chn w' n0 c mb (l ++ r) ∧ RF [164, 161] n0 w w' ∧ w'.cell? ⟨b, 3, none⟩ = w.cell? ⟨b, 3, none⟩ := by
  obtain ⟨xs, p, q, ys, e1, e2, e3, e4, hpm, hqm, hpb, hqb, h1, h2, h3, h4⟩ := h.around
  have hpb' : p ≠ b := hpb
  have hqb' : q ≠ b := hqb
  have hring := h.ring
  rw [e3] at hring
  have hl1 := links_next hring
  have hl2 : Lk w b q := links_next (xs := xs ++ [p]) (by rw [List.append_assoc]; exact hring)
  obtain ⟨pv, nx, hnb⟩ := h.node (b, k, s) (by simp)
  obtain ⟨rp, rn, hrb⟩ := h.root
  have hp3 := hl1.1
  have hb2 := hl1.2
  have hb3 := hl2.1
  have hq2 := hl2.2
  have hb1 := hnb.cell 1
  have hc4 := hrb.cell 4
  have cp := h.cel hpm
  have cq := h.cel hqm
  have fp := cp.frozen 3
  have fq := cq.frozen 2
  have hlook := h.mp.look Try.underlying9 Try.underlying162 (z := .pointer none) (by kernel_rfl) hks
  rw [atF_mem h.kd] at hlook
  have hlk : (Instr.lookup 162 (.map (some mb)) (.string k) false).run Try.prog w = .ok (ptr b) w := hlook
  have HM := Lib.hid h.mp
  have hn0 : n0 ≤ w.heap.size := Nat.le_trans h.b0.1 (Nat.le_of_lt hrb.lt)
  have hmb0 := h.b0.2.1
  have hbm : some b ≠ some mb := fun e => by injection e with e; exact h.mp.ne_blk hnb e.symm
  have HCUT : Hid (∀ W5 w6, Two n0 w W5 p q (ptr q) (ptr p) → MapS Try.prog w6 9 mb (fdel (atF (l ++ (b, k, s) :: r)) k) (if (atF (l ++ (b, k, s) :: r) k).isSome then (l ++ (b, k, s) :: r).length - 1 else (l ++ (b, k, s) :: r).length) → W5.grownBy w6 (some mb) → Chn w6 n0 c mb (l ++ r)) := by
    intro W5 w6 ht hm hg
    rw [atF_mem h.kd] at hm
    exact h.taken e3 e4 h1 h2 h3 h4 ht (hm.congr (fun _ => rfl) (by simp)) hg
  have HG6 : Hid (∀ W5 w6, Two n0 w W5 p q (ptr q) (ptr p) → W5.grownBy w6 (some mb) → w6.cell? ⟨b, 3, none⟩ = w.cell? ⟨b, 3, none⟩) := by
    intro W5 w6 ht hg
    have := (ht.c3 b (fun e => hpb e.symm)).trans hb3
    exact (hg.cell this hbm).trans hb3.symm
  have HPB := Lib.hid hpb'
  have HQB := Lib.hid hqb'
  have HCP := Lib.hid cp
  have HCQ := Lib.hid cq
  have n3 : ∀ (W : World) (u : Value), (W.setCell ⟨p, 3, none⟩ u).cell? ⟨b, 2, none⟩ = W.cell? ⟨b, 2, none⟩ := fun W u => cell_set_ne W b p 3 2 u (.inr (by decide))
  have n4 : ∀ (W : World) (u : Value), (W.setCell ⟨p, 3, none⟩ u).cell? ⟨b, 3, none⟩ = W.cell? ⟨b, 3, none⟩ := fun W u => cell_set_ne W b p 3 3 u (.inl (Ne.symm hpb'))
  have n5 : ∀ (W : World) (u : Value), (W.setCell ⟨q, 2, none⟩ u).cell? ⟨b, 2, none⟩ = W.cell? ⟨b, 2, none⟩ := fun W u => cell_set_ne W b q 2 2 u (.inl (Ne.symm hqb'))
  have n6 : ∀ (W : World) (u : Value), (W.setCell ⟨q, 2, none⟩ u).cell? ⟨b, 3, none⟩ = W.cell? ⟨b, 3, none⟩ := fun W u => cell_set_ne W b q 2 3 u (.inr (by decide))
  have N3 := Lib.hid n3
  have N4 := Lib.hid n4
  have N5 := Lib.hid n5
  have N6 := Lib.hid n6
  have m1 : ∀ (W : World) (u : Value), (W.setCell ⟨p, 3, none⟩ u).cell? ⟨q, 2, none⟩ = W.cell? ⟨q, 2, none⟩ := fun W u => cell_set_ne W q p 3 2 u (.inr (by decide))
  have m2 : ∀ (W : World) (u : Value), (W.setCell ⟨q, 2, none⟩ u).cell? ⟨p, 3, none⟩ = W.cell? ⟨p, 3, none⟩ := fun W u => cell_set_ne W p q 2 3 u (.inr (by decide))
  have M1 := Lib.hid m1
  have M2 := Lib.hid m2
  clear n3 n4 n5 n6 m1 m2 hpb hqb hpb' hqb' hnb hrb hring hl1 hl2 hlook e1 e2 e3 e4 h1 h2 h3 h4 hpm hqm cp cq h
  go_enter Try.func97, Try.ntmps97
  go_wp2_with fail
  refine wp_region_plan (.take 0 (.take 1 (.take 2 (.take 3 (.take 4 (.take 5 (.take 6 (.take 7 (.take 8 (.take 9 (.take 10 (.take 11 (.take 12 (.take 13 (.take 14 (.take 15 (.take 16 (.take 17 (.eff 18 (.take 19 (.take 20 (.eff 21 .nil)))))))))))))))))))))) (fun w' => w'.cell? ⟨b, 2, none⟩ = some (ptr p) ∧ w'.cell? ⟨b, 3, none⟩ = some (ptr q)) (by kernel_rfl) (by kernel_rfl) (fun _ _ _ _ _ h => h) (by kernel_rfl) (by kernel_rfl) ?_ ?_
  · exact ⟨hb2, hb3⟩
  iterate 18 (first | (apply seqP_skip; (focus (simp only [List.getElem?_toArray, List.getElem?_cons_succ, List.getElem?_cons_zero]; rfl)); (focus rfl); simp only [Act.put, List.setIfInBounds_toArray, List.set_cons_zero, List.set_cons_succ]) | (apply seqP_take; (focus (simp only [List.getElem?_toArray, List.getElem?_cons_succ, List.getElem?_cons_zero]; rfl)); (focus rfl); (focus (intro w' hS; obtain ⟨s2, s3⟩ := hS; first | (go_simp; rfl) | (go_simp; done))); simp only [Act.put, List.setIfInBounds_toArray, List.set_cons_zero, List.set_cons_succ]))
  apply seqP_eff
  (focus (simp only [List.getElem?_toArray, List.getElem?_cons_succ, List.getElem?_cons_zero]; rfl))
  (focus rfl)
  intro K hK
  go_simp
  refine hK _ _ ⟨⟨(N3.out _ _).trans hb2, (N4.out _ _).trans hb3⟩, ?_⟩
  clear hK K
  iterate 2 (first | (apply seqP_skip; (focus (simp only [List.getElem?_toArray, List.getElem?_cons_succ, List.getElem?_cons_zero]; rfl)); (focus rfl); simp only [Act.put, List.setIfInBounds_toArray, List.set_cons_zero, List.set_cons_succ]) | (apply seqP_take; (focus (simp only [List.getElem?_toArray, List.getElem?_cons_succ, List.getElem?_cons_zero]; rfl)); (focus rfl); (focus (intro w' hS; obtain ⟨s2, s3⟩ := hS; first | (go_simp; rfl) | (go_simp; done))); simp only [Act.put, List.setIfInBounds_toArray, List.set_cons_zero, List.set_cons_succ]))
  apply seqP_eff
  (focus (simp only [List.getElem?_toArray, List.getElem?_cons_succ, List.getElem?_cons_zero]; rfl))
  (focus rfl)
  intro K hK
  have c2' := (M1.out w.drew (ptr q)).trans hq2
  have f2' := (HCQ.out.set_ p 3 (ptr q)).frozen 2
  change (w.drew.setCell ⟨p, 3, none⟩ (ptr q)).frozen? _ = _ at f2'
  go_simp
  refine hK _ _ ⟨⟨((N5.out _ _).trans (N3.out _ _)).trans hb2, ((N6.out _ _).trans (N4.out _ _)).trans hb3⟩, ?_⟩
  clear hK K c2' f2'
  refine seqP_nil ?_
  have hT : Two n0 w ((w.setCell ⟨p, 3, none⟩ (ptr q)).setCell ⟨q, 2, none⟩ (ptr p)).drew p q (ptr q) (ptr p) := Two.drewL (Two.ab (W := w.drew) HCP.out HCQ.out (ptr q) (ptr p))
  generalize ((w.setCell ⟨p, 3, none⟩ (ptr q)).setCell ⟨q, 2, none⟩ (ptr p)).drew = W5 at hT ⊢
  have c5 := (hT.oth c 4 (by decide) (by decide)).trans hc4
  have c51 := (hT.oth b 1 (by decide) (by decide)).trans hb1
  have HM5 := Lib.hid (hT.mp _ _ _ _ HM.out)
  have HT := Lib.hid hT
  clear hT
  go_wp2_with (at_delete; go_must (refine wpList_del rfl (.tmp 40) (.tmp 41) rfl rfl HM5.out Try.underlying9 Try.underlying162 k rfl hks ?_); intro w6 hm6 hg6; have c61 := hg6.cell c51 hbm; have c63 := HG6.out _ _ HT.out hg6)
  go_ret2
  refine ⟨rfl, HCUT.out _ _ HT.out hm6 hg6, ?_, c63⟩
  exact (HT.out.rf).grown hg6 (by rw [HT.out.sz]; exact hn0) (fun j hj => by cases hj; exact ⟨hmb0, by obtain ⟨es, ck, hm⟩ := HM5.out.isMapObj; exact ⟨_, hm, rfl⟩⟩)
theorem take_none (n0 c mb : Nat) (ns : List Nd) (k : ByteArray) (w : World) (h : Chn w n0 c mb ns) (hks : k.size ≤ maxLen) (hk : ∀ x ∈ ns, x.2.1 ≠ k) :
    Calls Try.prog 97 #[ptr c, .string k] w fun e w' => e = .returned (.tuple #[.int .i64 0, .bool false]) ∧ w = w' := by
  obtain ⟨rp, rn, hrb⟩ := h.root
  have hc4 := hrb.cell 4
  have hlook := h.mp.look Try.underlying9 Try.underlying162 (z := .pointer none) (by kernel_rfl) hks
  rw [atF_none hk] at hlook
  have hlk : (Instr.lookup 162 (.map (some mb)) (.string k) false).run Try.prog w = .ok (.pointer none) w := hlook
  clear hlook hrb h
  go_enter Try.func97, Try.ntmps97
  go_wp2_with fail
  go_ret2
  exact ⟨rfl, rfl⟩
end Go.Proofs.Ytemknajlmocfeaa
namespace Go.Proofs.Ytemknajlmocfeaa
set_option maxRecDepth 20000
open Go.RowKit
theorem atF_put {ns : List Nd} {b : Nat} {k : ByteArray} {s : Int} (h : ∀ x ∈ ns, x.2.1 ≠ k) : ∀ x, fput (atF ns) k (ptr b) x = atF (ns ++ [(b, k, s)]) x := by
  intro x
  unfold fput
  by_cases hx : x = k
  · subst hx
    rw [if_pos rfl]
    unfold atF
    rw [List.find?_append, List.find?_eq_none.2 (fun y hy => by simp [h y hy])]
    simp
  · rw [if_neg hx]
    unfold atF
    rw [List.find?_append]
    cases hf : ns.find? (fun y => decide (y.2.1 = x)) with
    | none => simp [Ne.symm hx]
    | some y => rfl
theorem Chn.pushed {w W5 w6 : World} {n0 c mb : Nat} {ns : List Nd} {b p : Nat} {k : ByteArray} {s : Int} {xs : List Nat} (h : Chn w n0 c mb ns) (hk : ∀ x ∈ ns, x.2.1 ≠ k) (hb0 : n0 ≤ b) (hb : Blk w b 161 #[.string k, .int .i64 s, ptr p, ptr c]) (hf : ∀ x ∈ ns, x.1 ≠ b) (e1 : c :: ns.map (·.1) = xs ++ [p])
    (t : Two n0 w W5 p c (ptr b) (ptr b)) (hm : MapS Try.prog w6 9 mb (fput (atF ns) k (ptr b)) (ns.length + 1)) (hg : W5.grownBy w6 (some mb)) : Chn w6 n0 c mb (ns ++ [(b, k, s)]) := by
  have hroot := h.ne_root
  have hbc : b ≠ c := by
    intro e
    subst e
    obtain ⟨_, _, hr⟩ := h.root
    unfold Blk at hb hr
    rw [hr] at hb
    injection hb with hb
    injection hb with _ hb
    revert hb
    decide
  have hcl : c ∉ ns.map (·.1) := fun hc => by
    obtain ⟨y, hy, e⟩ := List.mem_map.1 hc
    exact hroot y hy e
  have nd1 : (c :: ns.map (·.1)).Nodup := List.nodup_cons.2 ⟨hcl, h.nd⟩
  have hbn : b ∉ ns.map (·.1) := fun hc => by
    obtain ⟨y, hy, e⟩ := List.mem_map.1 hc
    exact hf y hy e
  have hpx : p ∉ xs := by
    rw [e1] at nd1
    exact fun hx => (List.nodup_append.1 nd1).2.2 p hx p (by simp) rfl
  have hbx : b ∉ xs ++ [p] := by
    rw [← e1]
    simp only [List.mem_cons, not_or]
    exact ⟨hbc, hbn⟩
  have hbp : b ≠ p := fun e => hbx (by rw [e]; simp)
  have e2 : c :: (ns.map (·.1) ++ [c]) = xs ++ p :: [c] := by rw [← List.cons_append, e1, List.append_assoc]; rfl
  have e3 : c :: ((ns ++ [(b, k, s)]).map (·.1) ++ [c]) = xs ++ p :: b :: [c] := by rw [List.map_append, List.append_assoc, ← List.cons_append, e1, List.append_assoc]; rfl
  have hb5 : NodeB W5 (b, k, s) := t.node (b, k, s) ⟨_, _, hb⟩
  have hring : Links W5 (c :: ((ns ++ [(b, k, s)]).map (·.1) ++ [c])) := by
    rw [e3]
    have := h.ring
    rw [e2] at this
    exact links_add this hpx (by rw [← e1]; exact hcl) hbx ⟨t.cp, (t.c2 b hbc).trans (hb.cell 2)⟩ ⟨(t.c3 b hbp).trans (hb.cell 3), t.cq⟩ (fun a ha _ => t.c3 a ha) (fun a ha _ => t.c2 a ha)
  have hall : ∀ x ∈ ns ++ [(b, k, s)], NodeB W5 x := by
    intro x hx
    rcases List.mem_append.1 hx with hx | hx
    · exact t.node x (h.node x hx)
    · simp only [List.mem_cons, List.not_mem_nil, or_false] at hx
      subst hx
      exact hb5
  have hm5 := t.mp _ _ _ _ h.mp
  have hne : ∀ x ∈ ns ++ [(b, k, s)], some x.1 ≠ some mb := fun x hx e => by
    injection e with e
    obtain ⟨_, _, hb⟩ := hall x hx
    exact hm5.ne_blk hb e.symm
  have hcm : some c ≠ some mb := fun e => by
    injection e with e
    obtain ⟨_, _, hb⟩ := t.root _ _ h.root
    exact hm5.ne_blk hb e.symm
  have hmemc : ∀ a, a ∈ c :: ((ns ++ [(b, k, s)]).map (·.1) ++ [c]) → (a = c ∨ ∃ x ∈ ns ++ [(b, k, s)], x.1 = a) := by
    intro a ha
    rw [List.mem_cons, List.mem_append, List.mem_map, List.mem_singleton] at ha
    rcases ha with h1 | ⟨x, hx, h1⟩ | h1
    · exact .inl h1
    · exact .inr ⟨x, hx, h1⟩
    · exact .inl h1
  have ex23 : ∀ a, (a = c ∨ ∃ x ∈ ns ++ [(b, k, s)], x.1 = a) → (∃ v, W5.cell? ⟨a, 2, none⟩ = some v) ∧ ∃ v, W5.cell? ⟨a, 3, none⟩ = some v := by
    intro a ha
    rcases ha with rfl | ⟨x, hx, rfl⟩
    · obtain ⟨pv, nx, hb⟩ := t.root _ _ h.root
      exact ⟨⟨pv, hb.cell 2⟩, ⟨nx, hb.cell 3⟩⟩
    · obtain ⟨pv, nx, hb⟩ := hall x hx
      exact ⟨⟨pv, hb.cell 2⟩, ⟨nx, hb.cell 3⟩⟩
  have cells : ∀ a i v, (a = c ∨ ∃ x ∈ ns ++ [(b, k, s)], x.1 = a) → W5.cell? ⟨a, i, none⟩ = some v → w6.cell? ⟨a, i, none⟩ = W5.cell? ⟨a, i, none⟩ := by
    intro a i v ha hv
    rw [hv]
    refine hg.cell hv ?_
    rcases ha with rfl | ⟨x, hx, rfl⟩
    · exact hcm
    · exact hne x hx
  refine ⟨?_, fun x hx => ?_, ?_, ?_, ?_, hm.congr (atF_put hk) (by simp), h.b0.1, h.b0.2.1, fun x hx => ?_⟩
  · obtain ⟨pv, nx, hb⟩ := t.root _ _ h.root
    exact ⟨pv, nx, Blk.keptR hb hg hcm⟩
  · obtain ⟨pv, nx, hb⟩ := hall x hx
    exact ⟨pv, nx, Blk.keptR hb hg (hne x hx)⟩
  · refine hring.keep (fun a ha => ?_) (fun a ha => ?_)
    · have hm := hmemc a (List.dropLast_subset _ ha)
      obtain ⟨_, v, hv⟩ := ex23 a hm
      exact cells a 3 v hm hv
    · have hm := hmemc a (List.mem_of_mem_tail ha)
      obtain ⟨⟨v, hv⟩, _⟩ := ex23 a hm
      exact cells a 2 v hm hv
  · rw [List.map_append, List.nodup_append]
    exact ⟨h.nd, by simp, fun a ha x hx => by simp at hx; subst hx; exact fun e => hbn (e ▸ ha)⟩
  · rw [List.map_append, List.nodup_append]
    refine ⟨h.kd, by simp, fun a ha x hx => ?_⟩
    simp at hx
    subst hx
    obtain ⟨y, hy, e⟩ := List.mem_map.1 ha
    exact fun e' => hk y hy (e.trans e')
  · rcases List.mem_append.1 hx with hx | hx
    · exact h.b0.2.2 x hx
    · simp only [List.mem_cons, List.not_mem_nil, or_false] at hx
      subst hx
      exact hb0
set_option maxHeartbeats 2000000 in
theorem push_any (n0 c mb : Nat) (ns : List Nd) (k : ByteArray) (s : Int) (w : World) (h : Chn w n0 c mb ns) (hks : k.size ≤ maxLen) (hk : ∀ x ∈ ns, x.2.1 ≠ k) (hc : ns.length < maxLen) :
    Calls Try.prog 96 #[ptr c, .string k, .int .i64 s] w fun e w' => e = .returned (.tuple #[]) ∧ Chn w' n0 c mb (ns ++ [(w.heap.size, k, s)]) ∧ RF [164, 161] n0 w w' := by
  obtain ⟨xs, p, hxp⟩ := list_last c (ns.map (·.1))
  have hpm : p = c ∨ ∃ x ∈ ns, x.1 = p := by
    have : p ∈ c :: ns.map (·.1) := by rw [hxp]; simp
    simp only [List.mem_cons, List.mem_map] at this
    exact this
  have hring := h.ring
  rw [show c :: (ns.map (·.1) ++ [c]) = xs ++ p :: c :: [] by rw [← List.cons_append, hxp, List.append_assoc]; rfl] at hring
  have hl := links_next hring
  obtain ⟨rp, rn, hrb⟩ := h.root
  have hp3 := hl.1
  have hc2 := hl.2
  have hc4 := hrb.cell 4
  have hn0 : n0 ≤ w.heap.size := Nat.le_trans h.b0.1 (Nat.le_of_lt hrb.lt)
  have hmb0 := h.b0.2.1
  have H := Lib.hid h
  have HXP := Lib.hid hxp
  have HFN : Hid (∀ x ∈ ns, x.1 ≠ w.heap.size) := fun x hx => Nat.ne_of_lt (h.node x hx).lt
  have HPM := Lib.hid hpm
  clear hring hl hpm hxp h
  go_enter Try.func96, Try.ntmps96
  go_wp2_with fail
  refine wp_region_plan (.take 0 (.take 1 (.take 2 (.take 3 (.take 4 (.take 5 (.take 6 (.take 7 (.take 8 (.take 9 (.take 10 (.eff 11 (.take 12 .nil))))))))))))) (fun w' => Below w.heap.size w w') (by kernel_rfl) (by kernel_rfl) (fun _ _ _ _ _ h => h) (by kernel_rfl) (by kernel_rfl) ?_ ?_
  · exact (Below.refl _ _).drew
  iterate 11 (first | (apply seqP_skip; (focus (simp only [List.getElem?_toArray, List.getElem?_cons_succ, List.getElem?_cons_zero]; rfl)); (focus rfl); simp only [Act.put, List.setIfInBounds_toArray, List.set_cons_zero, List.set_cons_succ]) | (apply seqP_take; (focus (simp only [List.getElem?_toArray, List.getElem?_cons_succ, List.getElem?_cons_zero]; rfl)); (focus rfl); (focus (intro w' hS; have c2' := (hS.cell (p := ⟨c, 2, none⟩) hrb.lt).trans hc2; first | (go_simp; rfl) | (go_simp; done))); simp only [Act.put, List.setIfInBounds_toArray, List.set_cons_zero, List.set_cons_succ]))
  apply seqP_eff
  (focus (simp only [List.getElem?_toArray, List.getElem?_cons_succ, List.getElem?_cons_zero]; rfl))
  (focus rfl)
  intro K hK
  go_simp
  have hA : Below w.heap.size w (w.alloc (.cells #[.string k, .int .i64 s, ptr p, ptr c] 161)).drew := ((Below.refl _ w).alloc (Nat.le_refl _) _).drew
  have hN : Blk (w.alloc (.cells #[.string k, .int .i64 s, ptr p, ptr c] 161)).drew w.heap.size 161 #[.string k, .int .i64 s, ptr p, ptr c] := (Blk.new w _ _).drew
  have HC1 := Lib.hid (H.out.below hA)
  have hz1 : (w.alloc (.cells #[.string k, .int .i64 s, ptr p, ptr c] 161)).drew.heap.size = w.heap.size + 1 := World.size_alloc ..
  refine hK _ _ ⟨hA, ?_⟩
  clear hK K
  iterate 1 (first | (apply seqP_skip; (focus (simp only [List.getElem?_toArray, List.getElem?_cons_succ, List.getElem?_cons_zero]; rfl)); (focus rfl); simp only [Act.put, List.setIfInBounds_toArray, List.set_cons_zero, List.set_cons_succ]) | (apply seqP_take; (focus (simp only [List.getElem?_toArray, List.getElem?_cons_succ, List.getElem?_cons_zero]; rfl)); (focus rfl); (focus (intro w' hS; skip; first | (go_simp; rfl) | (go_simp; done))); simp only [Act.put, List.setIfInBounds_toArray, List.set_cons_zero, List.set_cons_succ]))
  refine seqP_nil ?_
  go_wp2_with fail
  obtain ⟨b, hb⟩ : ∃ b, b = w.heap.size := ⟨_, rfl⟩
  rw [← hb] at hN HFN hz1 ⊢
  have HB := Lib.hid hb
  clear hb
  generalize (w.alloc (.cells #[.string k, .int .i64 s, ptr p, ptr c] 161)).drew = W1 at *
  have b2 := hN.cell 2
  have b3 := hN.cell 3
  have cp : Cel W1 n0 p := HC1.out.cel HPM.out
  have cc : Cel W1 n0 c := HC1.out.cel (.inl rfl)
  have fp := cp.frozen 3
  have fc := cc.frozen 2
  have hrb1 : W1.cell? ⟨c, 4, none⟩ = some (.map (some mb)) := by obtain ⟨_, _, hr⟩ := HC1.out.root; exact hr.cell 4
  have hpb : p ≠ b := by
    rcases HPM.out with rfl | ⟨x, hx, rfl⟩
    · intro e
      have := hrb.lt
      have := HB.out
      omega
    · exact HFN.out x hx
  have hcb : c ≠ b := by
    intro e
    have := hrb.lt
    have := HB.out
    omega
  have hp31 : ∃ v, W1.cell? ⟨p, 3, none⟩ = some v := by
    obtain ⟨_, t, cs, hbk, _, hsz⟩ := cp
    exact ⟨_, (hbk.cell 3).trans (Array.getElem?_eq_getElem (by omega))⟩
  have hc21 : ∃ v, W1.cell? ⟨c, 2, none⟩ = some v := by
    obtain ⟨_, _, hr⟩ := HC1.out.root
    exact ⟨_, hr.cell 2⟩
  obtain ⟨vp, hp31⟩ := hp31
  obtain ⟨vc, hc21⟩ := hc21
  have n3 := Lib.hid (fun (W : World) (u : Value) => cell_set_ne W b p 3 2 u (.inr (by decide)))
  have n4 := Lib.hid (fun (W : World) (u : Value) => cell_set_ne W b p 3 3 u (.inl (Ne.symm hpb)))
  have n5 := Lib.hid (fun (W : World) (u : Value) => cell_set_ne W b c 2 2 u (.inl (Ne.symm hcb)))
  have n6 := Lib.hid (fun (W : World) (u : Value) => cell_set_ne W b c 2 3 u (.inr (by decide)))
  have CP := Lib.hid cp
  have CC := Lib.hid cc
  have HN := Lib.hid hN
  have hn01 : n0 ≤ W1.heap.size := by have := HB.out; omega
  clear hN hpb hcb cp cc hrb hc2 hp3 hc4 HPM
  refine wp_region_plan (.take 0 (.take 1 (.take 2 (.take 3 (.take 4 (.take 5 (.take 6 (.take 7 (.take 8 (.take 9 (.take 10 (.take 11 (.eff 12 (.take 13 (.take 14 (.eff 15 .nil)))))))))))))))) (fun w' => w'.cell? ⟨b, 2, none⟩ = some (ptr p) ∧ w'.cell? ⟨b, 3, none⟩ = some (ptr c)) (by kernel_rfl) (by kernel_rfl) (fun _ _ _ _ _ h => h) (by kernel_rfl) (by kernel_rfl) ?_ ?_
  · exact ⟨b2, b3⟩
  iterate 12 (first | (apply seqP_skip; (focus (simp only [List.getElem?_toArray, List.getElem?_cons_succ, List.getElem?_cons_zero]; rfl)); (focus rfl); simp only [Act.put, List.setIfInBounds_toArray, List.set_cons_zero, List.set_cons_succ]) | (apply seqP_take; (focus (simp only [List.getElem?_toArray, List.getElem?_cons_succ, List.getElem?_cons_zero]; rfl)); (focus rfl); (focus (intro w' hS; obtain ⟨s2, s3⟩ := hS; first | (go_simp; rfl) | (go_simp; done))); simp only [Act.put, List.setIfInBounds_toArray, List.set_cons_zero, List.set_cons_succ]))
  apply seqP_eff
  (focus (simp only [List.getElem?_toArray, List.getElem?_cons_succ, List.getElem?_cons_zero]; rfl))
  (focus rfl)
  intro K hK
  go_simp
  refine hK _ _ ⟨⟨(n3.out _ _).trans b2, (n4.out _ _).trans b3⟩, ?_⟩
  clear hK K
  iterate 2 (first | (apply seqP_skip; (focus (simp only [List.getElem?_toArray, List.getElem?_cons_succ, List.getElem?_cons_zero]; rfl)); (focus rfl); simp only [Act.put, List.setIfInBounds_toArray, List.set_cons_zero, List.set_cons_succ]) | (apply seqP_take; (focus (simp only [List.getElem?_toArray, List.getElem?_cons_succ, List.getElem?_cons_zero]; rfl)); (focus rfl); (focus (intro w' hS; obtain ⟨s2, s3⟩ := hS; first | (go_simp; rfl) | (go_simp; done))); simp only [Act.put, List.setIfInBounds_toArray, List.set_cons_zero, List.set_cons_succ]))
  apply seqP_eff
  (focus (simp only [List.getElem?_toArray, List.getElem?_cons_succ, List.getElem?_cons_zero]; rfl))
  (focus rfl)
  intro K hK
  have c2' := (cell_set_ne W1.drew c p 3 2 (ptr b) (.inr (by decide))).trans hc21
  have f2' := (CC.out.set_ p 3 (ptr b)).frozen 2
  change (W1.drew.setCell ⟨p, 3, none⟩ (ptr b)).frozen? _ = _ at f2'
  go_simp
  refine hK _ _ ⟨⟨((n5.out _ _).trans (n3.out _ _)).trans b2, ((n6.out _ _).trans (n4.out _ _)).trans b3⟩, ?_⟩
  clear hK K c2' f2'
  refine seqP_nil ?_
  have hT : Two n0 W1 ((W1.setCell ⟨p, 3, none⟩ (ptr b)).setCell ⟨c, 2, none⟩ (ptr b)).drew p c (ptr b) (ptr b) := Two.drewL (Two.ab (W := W1.drew) CP.out CC.out (ptr b) (ptr b))
  generalize ((W1.setCell ⟨p, 3, none⟩ (ptr b)).setCell ⟨c, 2, none⟩ (ptr b)).drew = W5 at hT ⊢
  have c5 := (hT.oth c 4 (by decide) (by decide)).trans hrb1
  have HM5 := Lib.hid (hT.mp _ _ _ _ HC1.out.mp)
  have HT := Lib.hid hT
  clear hT
  go_wp2_with (at_mapUpdate; go_must (refine wpList_upd rfl (.tmp 36) (.tmp 37) (.tmp 38) rfl rfl HM5.out Try.underlying9 Try.underlying162 k (ptr b) rfl rfl hks hc ?_); intro w6 hm6 hg6)
  refine Great.bodyPost_end0 rfl rfl ⟨rfl, ?_, ?_⟩
  · rw [← HB.out]
    rw [atF_none hk] at hm6
    exact HC1.out.pushed hk (by have := HB.out; omega) HN.out HFN.out HXP.out HT.out hm6 hg6
  · have hRA : RF [164, 161] n0 w W1 := RF.of_below hA hn0
    exact (hRA.trans HT.out.rf).grown hg6 (by rw [HT.out.sz]; exact hn01) (fun j hj => by cases hj; exact ⟨hmb0, by obtain ⟨es, ck, hm⟩ := HM5.out.isMapObj; exact ⟨_, hm, rfl⟩⟩)
theorem newChain_any (w : World) : Calls Try.prog 95 #[] w fun e w' => ∃ c mb, e = .returned (ptr c) ∧ Chn w' w.heap.size c mb [] ∧ Below w.heap.size w w' := by
  have hmm := @run_makeMap Try.prog
  have hm0 := (MapS.made w Try.prog 9).alloc (.cells #[.string ByteArray.empty, .int .i64 0, .pointer none, .pointer none, .map (some w.heap.size)] 164)
  have hN : Blk ((w.alloc (.map #[] 0)).alloc (.cells #[.string ByteArray.empty, .int .i64 0, .pointer none, .pointer none, .map (some w.heap.size)] 164)) (w.heap.size + 1) 164 #[.string ByteArray.empty, .int .i64 0, .pointer none, .pointer none, .map (some w.heap.size)] := by
    have := Blk.new (w.alloc (.map #[] 0)) 164 #[.string ByteArray.empty, .int .i64 0, .pointer none, .pointer none, .map (some w.heap.size)]
    rwa [World.size_alloc] at this
  have hA : Below w.heap.size w ((w.alloc (.map #[] 0)).alloc (.cells #[.string ByteArray.empty, .int .i64 0, .pointer none, .pointer none, .map (some w.heap.size)] 164)) := ((Below.refl _ w).alloc (Nat.le_refl _) _).alloc (by simp) _
  go_enter Try.func95, Try.ntmps95
  go_wp2_with fail
  obtain ⟨mb, hmb⟩ : ∃ mb, mb = w.heap.size := ⟨_, rfl⟩
  change Code.wp _ _ _ _ ((w.alloc (.map #[] 0)).alloc (.cells #[.string ByteArray.empty, .int .i64 0, .pointer none, .pointer none, .map (some w.heap.size)] 164))
  generalize (w.alloc (.map #[] 0)).alloc (.cells #[.string ByteArray.empty, .int .i64 0, .pointer none, .pointer none, .map (some w.heap.size)] 164) = W1 at hm0 hN hA ⊢
  rw [← hmb] at hm0 hN ⊢
  have HMB := Lib.hid hmb
  clear hmb
  obtain ⟨c, hc⟩ : ∃ c, c = mb + 1 := ⟨_, rfl⟩
  rw [← hc] at hN ⊢
  have HC := Lib.hid hc
  clear hc
  have c2 := hN.cell 2
  have c3 := hN.cell 3
  have f2 := hN.frozen 2
  have f3 := hN.frozen 3
  refine wp_region_plan (.take 0 (.take 1 (.take 2 (.take 3 (.take 4 (.take 5 (.take 6 (.take 7 (.take 8 (.take 9 (.take 10 (.eff 11 (.take 12 (.take 13 (.take 14 (.eff 15 .nil)))))))))))))))) (fun w' => True) (by kernel_rfl) (by kernel_rfl) (fun _ _ _ _ _ h => h) (by kernel_rfl) (by kernel_rfl) ?_ ?_
  · trivial
  iterate 11 (first | (apply seqP_skip; (focus (simp only [List.getElem?_toArray, List.getElem?_cons_succ, List.getElem?_cons_zero]; rfl)); (focus rfl); simp only [Act.put, List.setIfInBounds_toArray, List.set_cons_zero, List.set_cons_succ]) | (apply seqP_take; (focus (simp only [List.getElem?_toArray, List.getElem?_cons_succ, List.getElem?_cons_zero]; rfl)); (focus rfl); (focus (intro w' hS; skip; first | (go_simp; rfl) | (go_simp; done))); simp only [Act.put, List.setIfInBounds_toArray, List.set_cons_zero, List.set_cons_succ]))
  apply seqP_eff
  (focus (simp only [List.getElem?_toArray, List.getElem?_cons_succ, List.getElem?_cons_zero]; rfl))
  (focus rfl)
  intro K hK
  go_simp
  refine hK _ _ ⟨trivial, ?_⟩
  clear hK K
  iterate 3 (first | (apply seqP_skip; (focus (simp only [List.getElem?_toArray, List.getElem?_cons_succ, List.getElem?_cons_zero]; rfl)); (focus rfl); simp only [Act.put, List.setIfInBounds_toArray, List.set_cons_zero, List.set_cons_succ]) | (apply seqP_take; (focus (simp only [List.getElem?_toArray, List.getElem?_cons_succ, List.getElem?_cons_zero]; rfl)); (focus rfl); (focus (intro w' hS; skip; first | (go_simp; rfl) | (go_simp; done))); simp only [Act.put, List.setIfInBounds_toArray, List.set_cons_zero, List.set_cons_succ]))
  apply seqP_eff
  (focus (simp only [List.getElem?_toArray, List.getElem?_cons_succ, List.getElem?_cons_zero]; rfl))
  (focus rfl)
  intro K hK
  have hN1 : Blk (W1.drew.setCell ⟨c, 2, none⟩ (ptr c)) c 164 #[.string ByteArray.empty, .int .i64 0, ptr c, .pointer none, .map (some mb)] := hN.drew.set_ 2 (ptr c)
  have d3 := hN1.cell 3
  have g3 := hN1.frozen 3
  change (W1.drew.setCell ⟨c, 2, none⟩ (ptr c)).cell? _ = _ at d3
  go_simp
  refine hK _ _ ⟨trivial, ?_⟩
  clear hK K
  refine seqP_nil ?_
  have hN2 : Blk (((W1.setCell ⟨c, 2, none⟩ (ptr c)).setCell ⟨c, 3, none⟩ (ptr c))).drew c 164 #[.string ByteArray.empty, .int .i64 0, ptr c, ptr c, .map (some mb)] := (hN1.set_ 3 (ptr c))
  have hm2 : MapS Try.prog ((W1.setCell ⟨c, 2, none⟩ (ptr c)).setCell ⟨c, 3, none⟩ (ptr c)).drew 9 mb (fun _ => none) 0 := ((hm0.drew.setCell hN.drew (ptr c)).setCell hN1 (ptr c))
  have hA2 : Below w.heap.size w ((W1.setCell ⟨c, 2, none⟩ (ptr c)).setCell ⟨c, 3, none⟩ (ptr c)).drew := ((hA.setCell (p := ⟨c, 2, none⟩) (by have := HC.out; have := HMB.out; show w.heap.size ≤ c; omega) (ptr c)).setCell (p := ⟨c, 3, none⟩) (by have := HC.out; have := HMB.out; show w.heap.size ≤ c; omega) (ptr c)).drew
  clear d3 g3 c2 c3 f2 f3 hN hN1 hm0 hA
  generalize ((W1.setCell ⟨c, 2, none⟩ (ptr c)).setCell ⟨c, 3, none⟩ (ptr c)).drew = W2 at hN2 hm2 hA2 ⊢
  go_wp2_with fail
  go_ret
  refine ⟨c, mb, rfl, ⟨⟨_, _, hN2⟩, (by intro x hx; cases hx), ⟨⟨hN2.cell 3, hN2.cell 2⟩, trivial⟩, List.nodup_nil, List.nodup_nil, hm2, ?_, ?_, (by intro x hx; cases hx)⟩, hA2⟩
  · have := HC.out; have := HMB.out; omega
  · have := HMB.out; omega
end Go.Proofs.Ytemknajlmocfeaa
namespace Go.Proofs.Ytemknajlmocfeaa
set_option maxRecDepth 20000
open Go.RowKit
def usedOf (ns : List Nd) : Int := (ns.map (·.2.2)).sum
theorem usedOf_app (a b : List Nd) : usedOf (a ++ b) = usedOf a + usedOf b := by simp [usedOf]
theorem usedOf_cons (x : Nd) (b : List Nd) : usedOf (x :: b) = x.2.2 + usedOf b := by simp [usedOf]
theorem usedOf_len {ns : List Nd} (h : ∀ x ∈ ns, 1 ≤ x.2.2) : (ns.length : Int) ≤ usedOf ns := by
  induction ns with
  | nil => simp [usedOf]
  | cons x ns ih =>
    rw [usedOf_cons, List.length_cons]
    have h1 := h x (by simp)
    have h2 := ih (fun y hy => h y (by simp [hy]))
    omega
/-- A row: its block, its chain. -/
structure RowS (w : World) (n0 p : Nat) (room : Int) (c mb : Nat) (ns : List Nd) : Prop where
  blk : Blk w p 122 #[.int .i64 room, .int .i64 (usedOf ns), ptr c]
  p0 : n0 ≤ p
  ch : Chn w n0 c mb ns
  rm : 1 ≤ room ∧ room ≤ 1000000
  sz : ∀ x ∈ ns, 1 ≤ x.2.2
  us : usedOf ns ≤ room
  ks : ∀ x ∈ ns, x.2.1.size ≤ maxLen
abbrev RX : List TypeId := [164, 161]
abbrev RY : List TypeId := [122, 164, 161]
theorem RF.toY {n0 : Nat} {w w' : World} (h : RF RX n0 w w') : RF RY n0 w w' := h.mono (fun t ht => by
  simp only [List.contains_cons, List.contains_nil, Bool.or_false, Bool.or_eq_true] at ht ⊢
  exact .inr ht)
section
variable {w w' : World} {n0 p c mb : Nat} {room : Int} {ns : List Nd}
theorem RowS.keptT {row : Option Nat} (h : RowS w n0 p room c mb ns) (hg : w.grownBy w' row) (hrow : ∀ k, row = some k → ∃ cs t fr, w.heap[k]? = some (.cells cs t fr) ∧ t ≠ 122 ∧ t ≠ 164 ∧ t ≠ 161) : RowS w' n0 p room c mb ns :=
  ⟨Blk.keptR h.blk hg (fun e => by
    obtain ⟨cs, t, fr, hh, h1, _⟩ := hrow p e.symm
    have hb := h.blk
    unfold Blk at hb
    rw [hh] at hb
    injection hb with hb
    injection hb with _ hb
    exact h1 hb), h.p0, h.ch.keptT hg (fun k hk => by obtain ⟨cs, t, fr, hh, _, h2⟩ := hrow k hk; exact ⟨cs, t, fr, hh, h2⟩), h.rm, h.sz, h.us, h.ks⟩
theorem RowS.below (h : RowS w n0 p room c mb ns) (hb : Below w.heap.size w w') : RowS w' n0 p room c mb ns := ⟨h.blk.below hb h.blk.lt, h.p0, h.ch.below hb, h.rm, h.sz, h.us, h.ks⟩
theorem RowS.drew (h : RowS w n0 p room c mb ns) : RowS w.drew n0 p room c mb ns := ⟨h.blk.drew, h.p0, h.ch.drew, h.rm, h.sz, h.us, h.ks⟩
theorem RowS.alloc (h : RowS w n0 p room c mb ns) (o : Obj) : RowS (w.alloc o) n0 p room c mb ns := ⟨h.blk.alloc o, h.p0, h.ch.alloc o, h.rm, h.sz, h.us, h.ks⟩
theorem RowS.n0w (h : RowS w n0 p room c mb ns) : n0 ≤ w.heap.size := Nat.le_trans h.p0 (Nat.le_of_lt h.blk.lt)
theorem RowS.len (h : RowS w n0 p room c mb ns) : ns.length ≤ 1000000 := by
  have h1 := usedOf_len h.sz
  have h2 := h.us
  have h3 := h.rm.2
  omega
end
set_option maxHeartbeats 1000000 in
theorem drop_some (n0 p c mb b : Nat) (room : Int) (l r : List Nd) (k : ByteArray) (s : Int) (w : World) (h : RowS w n0 p room c mb (l ++ (b, k, s) :: r)) :
    Calls Try.prog 68 #[ptr p, .string k] w fun e w' => e = .returned (.int .i64 0) ∧ RowS w' n0 p room c mb (l ++ r) ∧ RF RY n0 w w' ∧ w'.cell? ⟨b, 3, none⟩ = w.cell? ⟨b, 3, none⟩ := by
  have hks := h.ks (b, k, s) (by simp)
  have p2 := h.blk.cell 2
  have hs1 : 1 ≤ s := h.sz (b, k, s) (by simp)
  have hul := usedOf_len h.sz
  have hus := h.us
  have hrm := h.rm.2
  have hue : usedOf (l ++ (b, k, s) :: r) = usedOf (l ++ r) + s := by rw [usedOf_app, usedOf_app, usedOf_cons]; dsimp only; omega
  have hul2 : 0 ≤ usedOf (l ++ r) := by
    have := usedOf_len (ns := l ++ r) (fun x hx => h.sz x (by
      rcases List.mem_append.1 hx with hx | hx
      · exact List.mem_append_left _ hx
      · exact List.mem_append_right _ (List.mem_cons_of_mem _ hx)))
    omega
  have hwr : IntKind.i64.wrap (usedOf (l ++ (b, k, s) :: r) - s) = usedOf (l ++ r) := by rw [IntKind.wrap_i64]; omega
  have HW := Lib.hid hwr
  have HUE := Lib.hid hue
  have H := Lib.hid h
  clear hwr hue h
  go_enter Try.func68, Try.ntmps68
  go_wp2_with fail
  refine (take_some n0 c mb b l r k s w H.out.ch hks).mono ?_
  rintro e w1 ⟨rfl, hc1, rf1, hb3⟩
  have hP1 := H.out.blk.rf rf1 (by decide)
  have p1 := hP1.cell 1
  have f1 := hP1.frozen 1
  have hnb : p ≠ b := by
    intro e
    obtain ⟨_, _, hb⟩ := H.out.ch.node (b, k, s) (by simp)
    have hbl := H.out.blk
    rw [e] at hbl
    unfold Blk at hb hbl
    rw [hbl] at hb
    injection hb with hb
    injection hb with _ hb
    revert hb
    decide
  have hwr := HW.out
  have hP2 := hP1.set_ 1 (.int .i64 (usedOf (l ++ r)))
  have hC2 : Chn (w1.setCell ⟨p, 1, none⟩ (.int .i64 (usedOf (l ++ r)))) n0 c mb (l ++ r) := hc1.keptT (row := some p) ⟨rfl, rfl, rfl, by simp [World.setCell], fun k _ hne => Below.heap_setCell _ _ _ _ (fun e => hne (by rw [e]))⟩ (fun j hj => by cases hj; exact ⟨_, _, _, hP1, by decide, by decide⟩)
  have hR2 : RF RY n0 w (w1.setCell ⟨p, 1, none⟩ (.int .i64 (usedOf (l ++ r)))) := rf1.toY.set_ hP1 H.out.p0 (by decide) _
  have hb32 : (w1.setCell ⟨p, 1, none⟩ (.int .i64 (usedOf (l ++ r)))).cell? ⟨b, 3, none⟩ = w.cell? ⟨b, 3, none⟩ := (cell_set_ne w1 b p 1 3 _ (.inl (Ne.symm hnb))).trans hb3
  have HX : Hid (RowS (w1.setCell ⟨p, 1, none⟩ (.int .i64 (usedOf (l ++ r)))) n0 p room c mb (l ++ r) ∧ RF RY n0 w (w1.setCell ⟨p, 1, none⟩ (.int .i64 (usedOf (l ++ r)))) ∧ (w1.setCell ⟨p, 1, none⟩ (.int .i64 (usedOf (l ++ r)))).cell? ⟨b, 3, none⟩ = w.cell? ⟨b, 3, none⟩) := by
    have hsub : ∀ x ∈ l ++ r, x ∈ l ++ (b, k, s) :: r := fun x hx => by
      rcases List.mem_append.1 hx with hx | hx
      · exact List.mem_append_left _ hx
      · exact List.mem_append_right _ (List.mem_cons_of_mem _ hx)
    exact ⟨⟨hP2, H.out.p0, hC2, H.out.rm, fun x hx => H.out.sz x (hsub x hx), by have := H.out.us; have := HUE.out; omega, fun x hx => H.out.ks x (hsub x hx)⟩, hR2, hb32⟩
  clear hb3 hb32 hR2 hC2 hP2 hnb hP1 rf1 hc1 hul hus hrm hul2 p2
  generalize usedOf (l ++ r) = U at *
  generalize usedOf (l ++ (b, k, s) :: r) = U1 at *
  go_wp2_with fail
  go_ret
  exact ⟨rfl, HX.out⟩
theorem drop_none (n0 p c mb : Nat) (room : Int) (ns : List Nd) (k : ByteArray) (w : World) (h : RowS w n0 p room c mb ns) (hks : k.size ≤ maxLen) (hk : ∀ x ∈ ns, x.2.1 ≠ k) :
    Calls Try.prog 68 #[ptr p, .string k] w fun e w' => e = .returned (.int .i64 4) ∧ w = w' := by
  have p2 := h.blk.cell 2
  have H := Lib.hid h
  clear h
  go_enter Try.func68, Try.ntmps68
  go_wp2_with fail
  refine (take_none n0 c mb ns k w H.out.ch hks hk).mono ?_
  rintro e w1 ⟨rfl, rfl⟩
  go_wp2_with fail
  go_ret
  exact ⟨rfl, rfl⟩
theorem touch_none (n0 p c mb : Nat) (room : Int) (ns : List Nd) (k : ByteArray) (w : World) (h : RowS w n0 p room c mb ns) (hks : k.size ≤ maxLen) (hk : ∀ x ∈ ns, x.2.1 ≠ k) :
    Calls Try.prog 67 #[ptr p, .string k] w fun e w' => e = .returned (.bool false) ∧ w = w' := by
  have p2 := h.blk.cell 2
  have H := Lib.hid h
  clear h
  go_enter Try.func67, Try.ntmps67
  go_wp2_with fail
  refine (take_none n0 c mb ns k w H.out.ch hks hk).mono ?_
  rintro e w1 ⟨rfl, rfl⟩
  go_wp2_with fail
  go_ret
  exact ⟨rfl, rfl⟩
theorem not_key {l r : List Nd} {b : Nat} {k : ByteArray} {s : Int} (h : ((l ++ (b, k, s) :: r).map (·.2.1)).Nodup) : ∀ x ∈ l ++ r, x.2.1 ≠ k := by
  rw [List.map_append, List.map_cons, List.nodup_append] at h
  obtain ⟨h1, h2, h3⟩ := h
  intro y hy
  rcases List.mem_append.1 hy with hy | hy
  · exact h3 y.2.1 (List.mem_map.2 ⟨y, hy, rfl⟩) k (by simp)
  · intro e
    exact (List.nodup_cons.1 h2).1 (List.mem_map.2 ⟨y, hy, e⟩)
set_option maxHeartbeats 1000000 in
theorem touch_some (n0 p c mb b : Nat) (room : Int) (l r : List Nd) (k : ByteArray) (s : Int) (w : World) (h : RowS w n0 p room c mb (l ++ (b, k, s) :: r)) :
    Calls Try.prog 67 #[ptr p, .string k] w fun e w' => e = .returned (.bool true) ∧ (∃ b', RowS w' n0 p room c mb (l ++ r ++ [(b', k, s)])) ∧ RF RY n0 w w' := by
  have hks := h.ks (b, k, s) (by simp)
  have hnk := not_key h.ch.kd
  have p2 := h.blk.cell 2
  have H := Lib.hid h
  have hlen := h.len
  clear h
  go_enter Try.func67, Try.ntmps67
  go_wp2_with fail
  refine (take_some n0 c mb b l r k s w H.out.ch hks).mono ?_
  rintro e w1 ⟨rfl, hc1, rf1, hb3⟩
  have hP1 := H.out.blk.rf rf1 (by decide)
  have p21 := hP1.cell 2
  clear hb3
  go_wp2_with fail
  refine (push_any n0 c mb (l ++ r) k s w1 hc1 hks hnk (by simp only [maxLen]; simp at hlen ⊢; omega)).mono ?_
  rintro e w2 ⟨rfl, hc2, rf2⟩
  have hP2 := hP1.rf rf2 (by decide)
  have HR := Lib.hid (rf1.trans rf2).toY
  have HX : Hid (RowS w2 n0 p room c mb (l ++ r ++ [(w1.heap.size, k, s)])) := by
    have hue : usedOf (l ++ r ++ [(w1.heap.size, k, s)]) = usedOf (l ++ (b, k, s) :: r) := by rw [usedOf_app, usedOf_app, usedOf_app, usedOf_cons, usedOf_cons]; simp [usedOf]; omega
    have hsub : ∀ (P : Nd → Prop), (∀ x ∈ l ++ (b, k, s) :: r, P x) → (∀ b', P (b, k, s) → P (b', k, s)) → ∀ x ∈ l ++ r ++ [(w1.heap.size, k, s)], P x := by
      intro P h1 h2 x hx
      rcases List.mem_append.1 hx with hx | hx
      · refine h1 x ?_
        rcases List.mem_append.1 hx with hx | hx
        · exact List.mem_append_left _ hx
        · exact List.mem_append_right _ (List.mem_cons_of_mem _ hx)
      · simp only [List.mem_cons, List.not_mem_nil, or_false] at hx
        subst hx
        exact h2 _ (h1 _ (by simp))
    exact ⟨by rw [hue]; exact hP2, H.out.p0, hc2, H.out.rm, hsub (fun x => 1 ≤ x.2.2) H.out.sz (fun _ h => h), by rw [hue]; exact H.out.us, hsub (fun x => x.2.1.size ≤ maxLen) H.out.ks (fun _ h => h)⟩
  clear hP1 hP2 p21 hc1 hc2 rf1 rf2
  go_wp2_with fail
  go_ret
  exact ⟨rfl, ⟨_, HX.out⟩, HR.out⟩
theorem newRow_any (room : Int) (w : World) (h1 : 1 ≤ room) (h2 : room ≤ 1000000) :
    Calls Try.prog 65 #[.int .i64 room] w fun e w' => ∃ p c mb, e = .returned (.tuple #[ptr p, .int .i64 0]) ∧ RowS w' w.heap.size p room c mb [] ∧ Below w.heap.size w w' := by
  go_enter Try.func65, Try.ntmps65
  go_wp2_with fail
  refine (newChain_any _).mono ?_
  rintro e w1 ⟨c, mb, rfl, hc, b1⟩
  have HC := Lib.hid hc
  have HB := Lib.hid b1
  clear hc b1
  go_wp2_with fail
  go_ret2
  have hn := HB.out.size
  refine ⟨w1.heap.size, c, mb, rfl, ⟨Blk.new w1 _ _, hn, HC.out.alloc _, ⟨h1, h2⟩, (by intro x hx; cases hx), (by simp [usedOf]; omega), (by intro x hx; cases hx)⟩, HB.out.alloc hn _⟩
end Go.Proofs.Ytemknajlmocfeaa
namespace Go.Proofs.Ytemknajlmocfeaa
set_option maxRecDepth 20000
open Go.RowKit Go.Shelf
attribute [local go_sem] Oper.semAt_some
/-- A round, whose body goes off its end or is left by a break. -/
theorem yieldB_of {F : Fence} {m D : Nat} {P : Program} {rec : Loop} {W : World} {args : Array Value} {R : Ending → World → Prop} (a₁ : Act) (hF : F.fn rec.fn) (hl : W.heap[D]? = some (.loop rec)) (hr : rec.state = .ready) (hp : rec.pending = none) (hs : args.size = rec.params.size)
    (hassign : ∀ K : Act → World → Prop, K a₁ W → rec.assign.wpIn (F.inRound D) m P (Exit.then K (fun _ _ _ => False)) { tmps := (rec.params.zip args).foldl (fun tmps (t, a) => tmps.setIfInBounds t a) rec.tmps, defers := [] } W)
    (hbody : rec.body.wpIn (F.inRound D) m P (fun e _ W3 => W3.heap[D]? = some (.loop { rec with state := .busy }) ∧ ((e = .normal ∧ R (.returned (.bool true)) (W3.putObj D (.loop rec))) ∨ ∃ id, e = .exit id ∧ R (.returned (.bool false)) (W3.putObj D (.loop { rec with state := .done, pending := some (.exit id) })))) a₁ (W.putObj D (.loop { rec with state := .busy }))) :
    YieldAt F m P D args W R := by
  refine ⟨rec.fn, _, rec.assign, rec.body, run_yield hl hs, roundIn_of_wpIn hF (wpIn_mono (hassign (fun a1 w1 => w1.heap[D]? = some (.loop rec) ∧ rec.body.wpIn (F.inRound D) m P (fun e _ W3 => W3.heap[D]? = some (.loop { rec with state := .busy }) ∧ ((e = .normal ∧ R (.returned (.bool true)) (W3.putObj D (.loop rec))) ∨ ∃ id, e = .exit id ∧ R (.returned (.bool false)) (W3.putObj D (.loop { rec with state := .done, pending := some (.exit id) })))) a1 (w1.putObj D (.loop { rec with state := .busy }))) ⟨hl, hbody⟩) ?_)⟩
  rintro e a1 w1 hq
  cases e with
  | normal =>
    obtain ⟨h1, h2⟩ := hq
    refine ⟨_, run_beginRound h1 hr, wpIn_mono h2 ?_⟩
    rintro e2 a2 w2 ⟨h3, h4⟩
    rcases h4 with ⟨rfl, h4⟩ | ⟨id, rfl, h4⟩
    · refine ⟨_, _, run_endRound none h3, ?_⟩
      have e : ({ { rec with state := LoopState.busy } with state := if (none : Option Code).isNone then LoopState.ready else LoopState.done, pending := none } : Loop) = rec := by
        obtain ⟨s, p, f, t, ps, asg, b, d⟩ := rec
        simp only at hr hp
        subst hr hp
        rfl
      rw [e]
      exact h4
    · exact ⟨_, _, run_endRound (some (.exit id)) h3, h4⟩
  | _ => exact hq.elim
/-- 'for .. := range f' over a method's value or a closure: the record laid, the iterator called; what hangs over. -/
theorem wpIn_rangeFunc_out {F : Fence} {n : Nat} {P : Program} {g : Operand} {ps : Array Tmp} {assign body : Code} {Q : Exit → Act → World → Prop} {a : Act} {w : World}
    (hro : F.round = none) (h1 : 1 ≤ n) {gf : Nat} {fs lb : Array Value} (hg : a.eval g = .func (.func gf) fs lb) (hFg : F.fn gf) (eg : ∀ args w, (callFunc gf args).run P w = .ok (.enter gf args) w)
    (h : ∀ rec : Loop, F.fn rec.fn → rec.state = .ready → rec.pending = none → rec.tmps = a.tmps → rec.params = ps → rec.assign = assign → rec.body = body →
      CallsIn F (n - 1) P gf (fs ++ #[.func (.yield (w.heap.size + 1)) #[] #[]] ++ lb) ((w.alloc (.deferred (some []))).alloc (.loop rec)) fun e W2 => (∃ v, e = .returned v) ∧ ∃ st pd, W2.heap[w.heap.size + 1]? = some (.loop { rec with state := st, pending := pd }) ∧ st ≠ .busy ∧
        (match pd with
          | none => Q .normal { a with defers := { target := .collected w.heap.size, args := #[] } :: a.defers } (W2.putObj (w.heap.size + 1) (.loop { rec with state := .exhausted, pending := none }))
          | some c => c.wpIn F n P Q { a with defers := { target := .collected w.heap.size, args := #[] } :: a.defers } (W2.putObj (w.heap.size + 1) (.loop { rec with state := .exhausted, pending := some c })))) :
    (Code.rangeFunc g ps assign body).wpIn F n P Q a w := by
  refine wpIn_rangeFunc ?_
  intro fn hfn
  rw [hro]
  obtain ⟨rec, hrec⟩ : ∃ rec : Loop, rec = { state := .ready, pending := none, fn, tmps := a.tmps, params := ps, assign, body, defers := w.heap.size } := ⟨_, rfl⟩
  refine ⟨w.heap.size + 1, [{ target := .collected w.heap.size, args := #[] }], (w.alloc (.deferred (some []))).alloc (.loop rec), { target := .fn (.func gf) lb, args := fs ++ #[.func (.yield (w.heap.size + 1)) #[] #[]] }, (w.alloc (.deferred (some []))).alloc (.loop rec), gf,
    fs ++ #[.func (.yield (w.heap.size + 1)) #[] #[]] ++ lb, (w.alloc (.deferred (some []))).alloc (.loop rec), ?_, ?_, ?_, ?_, fun _ => h1, ?_⟩
  · rw [hrec]; exact run_enterLoop_outer _ _ _ _ _
  · simp only [resolve, hg]
    simp [go_sem]
  · intro f' hf'; simp [Target.leads] at hf'; subst hf'; exact hFg
  · simp [invoke, go_sem, eg]
  · refine (h rec (by rw [hrec]; exact hfn) (by rw [hrec]) (by rw [hrec]) (by rw [hrec]) (by rw [hrec]) (by rw [hrec]) (by rw [hrec])).mono ?_
    rintro e W2 ⟨⟨v, rfl⟩, st, pd, hl, hst, hq⟩
    have := run_endLoop (P := P) hl hst
    cases pd with
    | none => exact ⟨none, _, this, hq⟩
    | some c => exact ⟨some c, _, this, hq⟩
end Go.Proofs.Ytemknajlmocfeaa
namespace Go.Proofs.Ytemknajlmocfeaa
set_option maxRecDepth 20000
open Go.RowKit Go.Shelf
attribute [local go_sem] Oper.semAt_some
/-- The block of the first, or of the root. -/
def hdB (ns : List Nd) (c : Nat) : Nat := match ns with | [] => c | x :: _ => x.1
theorem neq_other (W : World) {a b : Nat} {ca cb : Array Value} {ta tb : TypeId} (ha : Blk W a ta ca) (hb : Blk W b tb cb) (hne : a ≠ b) : (binOp .neq 159 (ptr a) (.pointer (some ⟨b, 0, none⟩))).run Try.prog W = .ok (.bool true) W := by
  obtain ⟨j, hj, hz⟩ : ∃ j, Try.prog.info? 161 = some j ∧ j.size ≠ 0 := by
    have h : ((Try.prog.info? 161).map fun j => decide (j.size ≠ 0)) = some true := by kernel_rfl
    cases hq : Try.prog.info? 161 with
    | none => rw [hq] at h; cases h
    | some j => rw [hq] at h; exact ⟨j, rfl, by simpa using h⟩
  have h : ∀ d : Nat, (Op.equalIn (d + 1) 159 (.pointer (some ⟨a, 0, none⟩)) (.pointer (some ⟨b, 0, none⟩))).run Try.prog W = .ok false W := fun d => by
    simp [Op.equalIn, run_underlying Try.underlying159, sizeOf, typeInfo, hj, hz, run_sameAddr_other W (a := ⟨a, 0, none⟩) (b := ⟨b, 0, none⟩) (by intro e; injection e with e; exact hne e) ha hb]
  simp only [binOp]
  simp [Op.equal, Op.maxDepth, h 9999]
theorem neq_same (W : World) (a : Nat) : (binOp .neq 159 (ptr a) (.pointer (some ⟨a, 0, none⟩))).run Try.prog W = .ok (.bool false) W := by
  obtain ⟨j, hj⟩ : ∃ j, Try.prog.info? 161 = some j := by
    have h : (Try.prog.info? 161).isSome = true := by kernel_rfl
    exact Option.isSome_iff_exists.1 h
  exact Lib.run_neq_ptr_same W ⟨a, 0, none⟩ Try.underlying159 hj
set_option maxHeartbeats 1000000 in
theorem all_in (n c D : Nat) (I : List Nd → World → Prop) (J : World → Prop) (μ : World → Nat) (hn : 1 ≤ n)
    (hμ : ∀ rest W, I rest W → μ W = rest.length) (hdrew : ∀ rest W, I rest W → I rest W.drew)
    (hkey : ∀ x rest W, I (x :: rest) W → NodeB W x ∧ x.1 ≠ c ∧ ∃ mb, RootB W c mb)
    (hround : ∀ x rest W, I (x :: rest) W → YieldAt Fence.wide (n - 1) Try.prog D #[.string x.2.1] W fun e W' => (e = .returned (.bool true) ∧ I rest W' ∧ W'.cell? ⟨x.1, 3, none⟩ = some (ptr (hdB rest c))) ∨ (e = .returned (.bool false) ∧ J W'))
    (hend : ∀ W, I [] W → J W) (ns : List Nd) (w : World) (h : I ns w) (h3 : w.cell? ⟨c, 3, none⟩ = some (ptr (hdB ns c))) :
    CallsIn Fence.wide n Try.prog 72 #[ptr c, .func (.yield D) #[] #[]] w fun e w' => (∃ v, e = .returned v) ∧ J w' := by
  have HM := Lib.hid hμ
  have HD := Lib.hid hdrew
  have HK := Lib.hid hkey
  have HR := Lib.hid hround
  have HE := Lib.hid hend
  clear hμ hdrew hkey hround hend
  refine callsIn_of_wp Try.func72 rfl trivial ?_ rfl
  simp only [Try.ntmps72, List.size_toArray, List.length_cons, List.length_nil, Nat.reduceAdd, Nat.reduceSub, Array.replicate_succ, Array.replicate_zero, List.push_toArray, List.append_toArray, List.nil_append, List.cons_append]
  gi_wp2
  gi_loopw [4] (fun t wr => ∃ rest, t = ptr (hdB rest c) ∧ I rest wr) (fun _ wr => μ wr)
  case atStart => exact ⟨ns, rfl, h⟩
  case round =>
    obtain ⟨rest, rfl, hI⟩ := hrel
    clear h3 h
    cases rest with
    | nil =>
      have HI := Lib.hid hI
      clear hI
      have kcmp := neq_same wr c
      show Code.wpIn _ _ _ _ _ { tmps := #[ptr c, .func (.yield D) #[] #[], undef, undef, ptr c, _, _, _, _, _, _, _, _, _, _, _, _, _, _, _, _, _, _, _, _, _], defers := [] } _
      gi_wp2
      exact Great.bodyPost_end0 rfl rfl ⟨⟨_, rfl⟩, HE.out _ HI.out⟩
    | cons x rest =>
      obtain ⟨⟨_, _, kb⟩, kne, mb, ⟨_, _, kr⟩⟩ := HK.out x rest _ hI
      have k0 := kb.cell 0
      have kcmp := neq_other wr kb kr kne
      obtain ⟨fn, tmps, assign, body, hy, hR⟩ := HR.out x rest _ hI
      have HI := Lib.hid hI
      clear hI
      clear kb kr kne
      show Code.wpIn _ _ _ _ _ { tmps := #[ptr c, .func (.yield D) #[] #[], undef, undef, ptr x.1, _, _, _, _, _, _, _, _, _, _, _, _, _, _, _, _, _, _, _, _, _], defers := [] } _
      gi_wp2
      refine hR.mono ?_
      rintro e W5 (⟨rfl, hI5, h35⟩ | ⟨rfl, hJ⟩)
      · have HI5 := Lib.hid hI5
        clear hI5 kcmp hy hR
        gi_wp2
        go_roundw
        case rel => exact ⟨rest, rfl, HI5.out⟩
        case measure => rw [HM.out _ _ HI5.out, HM.out _ _ HI.out]; exact Nat.lt_succ_self _
      · clear kcmp hy hR
        have HJ := Lib.hid hJ
        clear hJ
        gi_wp2
        exact bodyPost_ret (v := .tuple #[]) (by kernel_rfl) rfl ⟨⟨_, rfl⟩, HJ.out⟩
end Go.Proofs.Ytemknajlmocfeaa
