/- A chain's take, push and making: the walks. -/
import Derived.Test.YtnobcehiahcfkaaRowA
import Derived.Test.YtnobcehiahcfkaaRegionL
import Derived.Test.YtnobcehiahcfkaaRegionP
import Derived.Great.Walk
import Derived.Maps.OwnSet
namespace Go.Proofs.Ytnobcehiahcfkaa
set_option maxRecDepth 20000
open Go.RowKit
/-- W5 is W but for p's next and q's previous one. -/
structure Two (n0 : Nat) (W W5 : World) (p q : Nat) (u v : Value) : Prop where
  cp : W5.cell? ⟨p, 3, none⟩ = some u
  cq : W5.cell? ⟨q, 2, none⟩ = some v
  c3 : ∀ a, a ≠ p → W5.cell? ⟨a, 3, none⟩ = W.cell? ⟨a, 3, none⟩
  c2 : ∀ a, a ≠ q → W5.cell? ⟨a, 2, none⟩ = W.cell? ⟨a, 2, none⟩
  oth : ∀ a i, i ≠ 2 → i ≠ 3 → W5.cell? ⟨a, i, none⟩ = W.cell? ⟨a, i, none⟩
  node : ∀ x, NodeB W x → NodeB W5 x
  root : ∀ c mb, RootB W c mb → RootB W5 c mb
  mp : ∀ kt mb f n, MapS Try.prog W kt mb f n → MapS Try.prog W5 kt mb f n
  rf : RF [125, 122] n0 W W5
  sz : W5.heap.size = W.heap.size
/-- A block of the chain or of a link, whose cells 2 and 3 are there. -/
def Cel (W : World) (n0 g : Nat) : Prop := n0 ≤ g ∧ ∃ t cs, Blk W g t cs ∧ (t = 125 ∨ t = 122) ∧ 4 ≤ cs.size
theorem Cel.set_ {W : World} {n0 g : Nat} (h : Cel W n0 g) (a i : Nat) (u : Value) : Cel (W.setCell ⟨a, i, none⟩ u) n0 g := by
  obtain ⟨h0, t, cs, hb, ht, hs⟩ := h
  by_cases ha : g = a
  · subst ha
    exact ⟨h0, t, _, hb.set_ i u, ht, by simpa using hs⟩
  · exact ⟨h0, t, cs, hb.far ha u, ht, hs⟩
theorem Cel.frozen {W : World} {n0 g : Nat} (h : Cel W n0 g) (i : Nat) : W.frozen? ⟨g, i, none⟩ = false := by obtain ⟨_, t, cs, hb, _⟩ := h; exact hb.frozen i
theorem cell_set_ne (W : World) (a g i j : Nat) (u : Value) (h : a ≠ g ∨ j ≠ i) : (W.setCell ⟨g, i, none⟩ u).cell? ⟨a, j, none⟩ = W.cell? ⟨a, j, none⟩ := by
  by_cases ha : a = g
  · subst ha
    have hj : j ≠ i := by
      rcases h with h | h
      · exact absurd rfl h
      · exact h
    simp only [World.cell?, World.setCell, Array.getElem?_modify, if_true]
    cases hh : W.heap[a]? with
    | none => rfl
    | some o => cases o <;> simp [Array.getElem?_setIfInBounds, Ne.symm hj]
  · simp only [World.cell?, World.setCell, Array.getElem?_modify]
    rw [if_neg (fun e => ha e.symm)]
theorem cell_set_same {W : World} {n0 g i : Nat} (h : Cel W n0 g) (hi : i < 4) (u : Value) : (W.setCell ⟨g, i, none⟩ u).cell? ⟨g, i, none⟩ = some u := by
  obtain ⟨_, t, cs, hb, _, hs⟩ := h
  rw [(hb.set_ i u).cell i, Array.getElem?_setIfInBounds_self_of_lt (by omega)]
theorem Cel.rf {W : World} {n0 g : Nat} (h : Cel W n0 g) (i : Nat) (u : Value) : RF [125, 122] n0 W (W.setCell ⟨g, i, none⟩ u) := by
  obtain ⟨h0, t, cs, hb, ht, _⟩ := h
  exact (RF.refl _ n0 W).set_ hb h0 (by rcases ht with rfl | rfl <;> decide) u
theorem mp_set {W : World} {n0 g : Nat} (h : Cel W n0 g) (i : Nat) (u : Value) {kt : TypeId} {mb n : Nat} {f : ByteArray → Option Value} (hm : MapS Try.prog W kt mb f n) : MapS Try.prog (W.setCell ⟨g, i, none⟩ u) kt mb f n := by
  obtain ⟨_, t, cs, hb, _⟩ := h
  exact hm.setCell hb u
theorem Two.ab {n0 : Nat} {W : World} {p q : Nat} (hp : Cel W n0 p) (hq : Cel W n0 q) (u v : Value) : Two n0 W ((W.setCell ⟨p, 3, none⟩ u).setCell ⟨q, 2, none⟩ v) p q u v :=
  ⟨by rw [cell_set_ne _ _ _ _ _ _ (.inr (by decide)), cell_set_same hp (by decide)], cell_set_same (hq.set_ p 3 u) (by decide) v,
    fun a ha => by rw [cell_set_ne _ _ _ _ _ _ (.inr (by decide)), cell_set_ne _ _ _ _ _ _ (.inl ha)],
    fun a ha => by rw [cell_set_ne _ _ _ _ _ _ (.inl ha), cell_set_ne _ _ _ _ _ _ (.inr (by decide))],
    fun a i h2 h3 => by rw [cell_set_ne _ _ _ _ _ _ (.inr h2), cell_set_ne _ _ _ _ _ _ (.inr h3)],
    fun x h => (h.set_ p 3 (.inr rfl) u).set_ q 2 (.inl rfl) v, fun c mb h => (h.set_ p 3 (.inr rfl) u).set_ q 2 (.inl rfl) v, fun kt mb f n h => mp_set (hq.set_ p 3 u) 2 v (mp_set hp 3 u h), (hp.rf 3 u).trans ((hq.set_ p 3 u).rf 2 v), by simp [World.setCell]⟩
theorem Two.ba {n0 : Nat} {W : World} {p q : Nat} (hp : Cel W n0 p) (hq : Cel W n0 q) (u v : Value) : Two n0 W ((W.setCell ⟨q, 2, none⟩ v).setCell ⟨p, 3, none⟩ u) p q u v :=
  ⟨cell_set_same (hp.set_ q 2 v) (by decide) u, by rw [cell_set_ne _ _ _ _ _ _ (.inr (by decide)), cell_set_same hq (by decide)],
    fun a ha => by rw [cell_set_ne _ _ _ _ _ _ (.inl ha), cell_set_ne _ _ _ _ _ _ (.inr (by decide))],
    fun a ha => by rw [cell_set_ne _ _ _ _ _ _ (.inr (by decide)), cell_set_ne _ _ _ _ _ _ (.inl ha)],
    fun a i h2 h3 => by rw [cell_set_ne _ _ _ _ _ _ (.inr h3), cell_set_ne _ _ _ _ _ _ (.inr h2)],
    fun x h => (h.set_ q 2 (.inl rfl) v).set_ p 3 (.inr rfl) u, fun c mb h => (h.set_ q 2 (.inl rfl) v).set_ p 3 (.inr rfl) u, fun kt mb f n h => mp_set (hp.set_ q 2 v) 3 u (mp_set hq 2 v h), (hq.rf 2 v).trans ((hp.set_ q 2 v).rf 3 u), by simp [World.setCell]⟩
section
variable {w : World} {n0 c mb : Nat} {ns : List Nd}
theorem Chn.cel (h : Chn w n0 c mb ns) {a : Nat} (ha : a = c ∨ ∃ x ∈ ns, x.1 = a) : Cel w n0 a := by
  rcases ha with rfl | ⟨x, hx, rfl⟩
  · obtain ⟨pv, nx, hb⟩ := h.root
    exact ⟨h.b0.1, _, _, hb, .inl rfl, by simp⟩
  · obtain ⟨pv, nx, hb⟩ := h.node x hx
    exact ⟨h.b0.2.2 x hx, _, _, hb, .inr rfl, by simp⟩
/-- The neighbours of one in the chain. -/
theorem Chn.around {l r : List Nd} {x : Nd} (h : Chn w n0 c mb (l ++ x :: r)) : ∃ xs p q ys, c :: l.map (·.1) = xs ++ [p] ∧ r.map (·.1) ++ [c] = q :: ys ∧ c :: ((l ++ x :: r).map (·.1) ++ [c]) = xs ++ p :: x.1 :: q :: ys ∧ c :: ((l ++ r).map (·.1) ++ [c]) = xs ++ p :: q :: ys ∧
    (p = c ∨ ∃ y ∈ l ++ x :: r, y.1 = p) ∧ (q = c ∨ ∃ y ∈ l ++ x :: r, y.1 = q) ∧ p ≠ x.1 ∧ q ≠ x.1 ∧ p ∉ xs ∧ p ∉ (q :: ys).dropLast ∧ q ∉ (xs ++ [p]).tail ∧ q ∉ ys := by
  obtain ⟨xs, p, hxp⟩ := list_last c (l.map (·.1))
  obtain ⟨q, ys, hq⟩ : ∃ q ys, r.map (·.1) ++ [c] = q :: ys := by
    cases r with
    | nil => exact ⟨c, [], rfl⟩
    | cons y r => exact ⟨y.1, r.map (·.1) ++ [c], rfl⟩
  have hroot := h.ne_root
  have hnd := h.nd
  rw [List.map_append, List.map_cons, List.nodup_append] at hnd
  obtain ⟨n1, n2, n3⟩ := hnd
  rw [List.nodup_cons] at n2
  have hcl : c ∉ l.map (·.1) := fun hc => by
    obtain ⟨y, hy, e⟩ := List.mem_map.1 hc
    exact hroot y (by simp [hy]) e
  have hcr : c ∉ r.map (·.1) := fun hc => by
    obtain ⟨y, hy, e⟩ := List.mem_map.1 hc
    exact hroot y (by simp [hy]) e
  have hcx : x.1 ≠ c := hroot x (by simp)
  have hpm : p ∈ c :: l.map (·.1) := by rw [hxp]; simp
  have hqm : q ∈ r.map (·.1) ++ [c] := by rw [hq]; simp
  have nd1 : (c :: l.map (·.1)).Nodup := List.nodup_cons.2 ⟨hcl, n1⟩
  have nd2 : (r.map (·.1) ++ [c]).Nodup := List.nodup_append.2 ⟨n2.2, by simp, fun a ha b hb => by simp at hb; subst hb; exact fun e => hcr (e ▸ ha)⟩
  have hpl : p = c ∨ p ∈ l.map (·.1) := by simpa using hpm
  have hqr : q ∈ r.map (·.1) ∨ q = c := by simpa using hqm
  refine ⟨xs, p, q, ys, hxp, hq, ?_, ?_, ?_, ?_, ?_, ?_, ?_, ?_, ?_, ?_⟩
  · rw [List.map_append, List.map_cons, List.append_assoc, List.cons_append, hq, ← List.cons_append, hxp, List.append_assoc]; rfl
  · rw [List.map_append, List.append_assoc, hq, ← List.cons_append, hxp, List.append_assoc]; rfl
  · rcases hpl with h1 | h1
    · exact .inl h1
    · obtain ⟨y, hy, e⟩ := List.mem_map.1 h1
      exact .inr ⟨y, by simp [hy], e⟩
  · rcases hqr with h1 | h1
    · obtain ⟨y, hy, e⟩ := List.mem_map.1 h1
      exact .inr ⟨y, by simp [hy], e⟩
    · exact .inl h1
  · rcases hpl with h1 | h1
    · rw [h1]; exact fun e => hcx e.symm
    · exact n3 p h1 x.1 (by simp)
  · rcases hqr with h1 | h1
    · rintro rfl; exact n2.1 h1
    · rw [h1]; exact fun e => hcx e.symm
  · rw [hxp] at nd1
    exact fun hx => (List.nodup_append.1 nd1).2.2 p hx p (by simp) rfl
  · intro hpy
    rw [← hq, List.dropLast_concat] at hpy
    rcases hpl with h1 | h1
    · exact hcr (h1 ▸ hpy)
    · exact n3 p h1 p (by simp [hpy]) rfl
  · intro hqx
    rw [← hxp, List.tail_cons] at hqx
    rcases hqr with h1 | h1
    · exact n3 q hqx q (by simp [h1]) rfl
    · exact hcl (h1 ▸ hqx)
  · rw [hq] at nd2
    exact (List.nodup_cons.1 nd2).1
theorem atF_del {l r : List Nd} {b : Nat} {k : ByteArray} {s : Int} (h : ((l ++ (b, k, s) :: r).map (·.2.1)).Nodup) : ∀ x, fdel (atF (l ++ (b, k, s) :: r)) k x = atF (l ++ r) x := by
  rw [List.map_append, List.map_cons, List.nodup_append] at h
  obtain ⟨h1, h2, h3⟩ := h
  intro x
  unfold fdel
  by_cases hx : x = k
  · subst hx
    rw [if_pos rfl, atF_none]
    intro y hy
    rcases List.mem_append.1 hy with hy | hy
    · exact h3 y.2.1 (List.mem_map.2 ⟨y, hy, rfl⟩) x (by simp)
    · intro e
      exact (List.nodup_cons.1 h2).1 (List.mem_map.2 ⟨y, hy, e⟩)
  · rw [if_neg hx]
    unfold atF
    rw [List.find?_append, List.find?_append, List.find?_cons_of_neg (by simpa using fun e => hx e.symm)]
theorem Chn.taken {w W5 w6 : World} {n0 c mb : Nat} {l r : List Nd} {b : Nat} {k : ByteArray} {s : Int} (h : Chn w n0 c mb (l ++ (b, k, s) :: r)) {xs ys : List Nat} {p q : Nat} (e1 : c :: ((l ++ (b, k, s) :: r).map (·.1) ++ [c]) = xs ++ p :: b :: q :: ys) (e2 : c :: ((l ++ r).map (·.1) ++ [c]) = xs ++ p :: q :: ys)
    (hp : p ∉ xs) (hpy : p ∉ (q :: ys).dropLast) (hqx : q ∉ (xs ++ [p]).tail) (hqy : q ∉ ys) (t : Two n0 w W5 p q (ptr q) (ptr p)) (hm : MapS Try.prog w6 9 mb (fdel (atF (l ++ (b, k, s) :: r)) k) (l ++ r).length) (hg : W5.grownBy w6 (some mb)) : Chn w6 n0 c mb (l ++ r) := by
  have hmem : ∀ x ∈ l ++ r, x ∈ l ++ (b, k, s) :: r := fun x hx => by
    rcases List.mem_append.1 hx with hx | hx
    · exact List.mem_append_left _ hx
    · exact List.mem_append_right _ (List.mem_cons_of_mem _ hx)
  have hm5 := t.mp _ _ _ _ h.mp
  have sub : (l ++ r).Sublist (l ++ (b, k, s) :: r) := List.Sublist.append (List.Sublist.refl _) (List.sublist_cons_self ..)
  have h5 : Chn W5 n0 c mb (l ++ (b, k, s) :: r) → True := fun _ => trivial
  have hring : Links W5 (c :: ((l ++ r).map (·.1) ++ [c])) := by
    rw [e2]
    have := h.ring
    rw [e1] at this
    exact links_cut this hp hpy hqx hqy t.cp t.cq t.c3 t.c2
  have hne : ∀ x ∈ l ++ (b, k, s) :: r, some x.1 ≠ some mb := fun x hx e => by
    injection e with e
    obtain ⟨_, _, hb⟩ := h.node x hx
    exact h.mp.ne_blk hb e.symm
  have hcm : some c ≠ some mb := fun e => by
    injection e with e
    obtain ⟨_, _, hb⟩ := h.root
    exact h.mp.ne_blk hb e.symm
  have cells : ∀ a i v, (a = c ∨ ∃ x ∈ l ++ (b, k, s) :: r, x.1 = a) → W5.cell? ⟨a, i, none⟩ = some v → w6.cell? ⟨a, i, none⟩ = W5.cell? ⟨a, i, none⟩ := by
    intro a i v ha hv
    rw [hv]
    refine hg.cell hv ?_
    rcases ha with rfl | ⟨x, hx, rfl⟩
    · exact hcm
    · exact hne x hx
  have hmemc : ∀ a, a ∈ c :: ((l ++ r).map (·.1) ++ [c]) → (a = c ∨ ∃ x ∈ l ++ (b, k, s) :: r, x.1 = a) := by
    intro a ha
    simp only [List.mem_cons, List.mem_append, List.mem_map, List.not_mem_nil, or_false] at ha
    rcases ha with h1 | ⟨x, hx, h1⟩ | h1
    · exact .inl h1
    · exact .inr ⟨x, hmem x (List.mem_append.2 hx), h1⟩
    · exact .inl h1
  have ex23 : ∀ a, (a = c ∨ ∃ x ∈ l ++ (b, k, s) :: r, x.1 = a) → (∃ v, W5.cell? ⟨a, 2, none⟩ = some v) ∧ ∃ v, W5.cell? ⟨a, 3, none⟩ = some v := by
    intro a ha
    rcases ha with rfl | ⟨x, hx, rfl⟩
    · obtain ⟨pv, nx, hb⟩ := t.root _ _ h.root
      exact ⟨⟨pv, hb.cell 2⟩, ⟨nx, hb.cell 3⟩⟩
    · obtain ⟨pv, nx, hb⟩ := t.node _ (h.node x hx)
      exact ⟨⟨pv, hb.cell 2⟩, ⟨nx, hb.cell 3⟩⟩
  refine ⟨?_, fun x hx => ?_, ?_, (sub.map _).nodup h.nd, (sub.map _).nodup h.kd, hm.congr (atF_del h.kd) rfl, h.b0.1, h.b0.2.1, fun x hx => h.b0.2.2 x (hmem x hx)⟩
  · obtain ⟨pv, nx, hb⟩ := t.root _ _ h.root
    exact ⟨pv, nx, Blk.keptR hb hg hcm⟩
  · obtain ⟨pv, nx, hb⟩ := t.node _ (h.node x (hmem x hx))
    exact ⟨pv, nx, Blk.keptR hb hg (hne x (hmem x hx))⟩
  · refine hring.keep (fun a ha => ?_) (fun a ha => ?_)
    · have hm := hmemc a (List.dropLast_subset _ ha)
      obtain ⟨_, v, hv⟩ := ex23 a hm
      exact cells a 3 v hm hv
    · have hm := hmemc a (List.mem_of_mem_tail ha)
      obtain ⟨⟨v, hv⟩, _⟩ := ex23 a hm
      exact cells a 2 v hm hv
end
theorem Two.drewL {n0 : Nat} {W W5 : World} {p q : Nat} {u v : Value} (h : Two n0 W.drew W5 p q u v) : Two n0 W W5 p q u v :=
  ⟨h.cp, h.cq, h.c3, h.c2, h.oth, h.node, h.root, h.mp, ⟨⟨h.rf.bel.os, h.rf.bel.tape, h.rf.bel.output, h.rf.bel.size, h.rf.bel.block⟩, h.rf.fr⟩, h.sz⟩
set_option maxHeartbeats 2000000 in
theorem take_some (n0 c mb b : Nat) (l r : List Nd) (k : ByteArray) (s : Int) (w : World) (h : Chn w n0 c mb (l ++ (b, k, s) :: r)) (hks : k.size ≤ maxLen) :
    Calls Try.prog 51 #[ptr c, .string k] w fun e w' => e = .returned (.tuple #[.int .i64 s, .bool true]) ∧ Chn w' n0 c mb (l ++ r) ∧ RF [125, 122] n0 w w' ∧ w'.cell? ⟨b, 3, none⟩ = w.cell? ⟨b, 3, none⟩ := by
  obtain ⟨xs, p, q, ys, e1, e2, e3, e4, hpm, hqm, hpb, hqb, h1, h2, h3, h4⟩ := h.around
  have hpb' : p ≠ b := hpb
  have hqb' : q ≠ b := hqb
  have hring := h.ring
  rw [e3] at hring
  have hl1 := links_next hring
  have hl2 : Lk w b q := links_next (xs := xs ++ [p]) (by rw [List.append_assoc]; exact hring)
  obtain ⟨pv, nx, hnb⟩ := h.node (b, k, s) (by simp)
  obtain ⟨rp, rn, hrb⟩ := h.root
  have hp3 := hl1.1
  have hb2 := hl1.2
  have hb3 := hl2.1
  have hq2 := hl2.2
  have hb1 := hnb.cell 1
  have hc4 := hrb.cell 4
  have cp := h.cel hpm
  have cq := h.cel hqm
  have fp := cp.frozen 3
  have fq := cq.frozen 2
  have hlook := h.mp.look Try.underlying9 Try.underlying123 (z := .pointer none) (by kernel_rfl) hks
  rw [atF_mem h.kd] at hlook
  have hlk : (Instr.lookup 123 (.map (some mb)) (.string k) false).run Try.prog w = .ok (ptr b) w := hlook
  have HM := Lib.hid h.mp
  have hn0 : n0 ≤ w.heap.size := Nat.le_trans h.b0.1 (Nat.le_of_lt hrb.lt)
  have hmb0 := h.b0.2.1
  have hbm : some b ≠ some mb := fun e => by injection e with e; exact h.mp.ne_blk hnb e.symm
  have HCUT : Hid (∀ W5 w6, Two n0 w W5 p q (ptr q) (ptr p) → MapS Try.prog w6 9 mb (fdel (atF (l ++ (b, k, s) :: r)) k) (if (atF (l ++ (b, k, s) :: r) k).isSome then (l ++ (b, k, s) :: r).length - 1 else (l ++ (b, k, s) :: r).length) → W5.grownBy w6 (some mb) → Chn w6 n0 c mb (l ++ r)) := by
    intro W5 w6 ht hm hg
    rw [atF_mem h.kd] at hm
    exact h.taken e3 e4 h1 h2 h3 h4 ht (hm.congr (fun _ => rfl) (by simp)) hg
  have HG6 : Hid (∀ W5 w6, Two n0 w W5 p q (ptr q) (ptr p) → W5.grownBy w6 (some mb) → w6.cell? ⟨b, 3, none⟩ = w.cell? ⟨b, 3, none⟩) := by
    intro W5 w6 ht hg
    have := (ht.c3 b (fun e => hpb e.symm)).trans hb3
    exact (hg.cell this hbm).trans hb3.symm
  have HPB := Lib.hid hpb'
  have HQB := Lib.hid hqb'
  have HCP := Lib.hid cp
  have HCQ := Lib.hid cq
  have n3 : ∀ (W : World) (u : Value), (W.setCell ⟨p, 3, none⟩ u).cell? ⟨b, 2, none⟩ = W.cell? ⟨b, 2, none⟩ := fun W u => cell_set_ne W b p 3 2 u (.inr (by decide))
  have n4 : ∀ (W : World) (u : Value), (W.setCell ⟨p, 3, none⟩ u).cell? ⟨b, 3, none⟩ = W.cell? ⟨b, 3, none⟩ := fun W u => cell_set_ne W b p 3 3 u (.inl (Ne.symm hpb'))
  have n5 : ∀ (W : World) (u : Value), (W.setCell ⟨q, 2, none⟩ u).cell? ⟨b, 2, none⟩ = W.cell? ⟨b, 2, none⟩ := fun W u => cell_set_ne W b q 2 2 u (.inl (Ne.symm hqb'))
  have n6 : ∀ (W : World) (u : Value), (W.setCell ⟨q, 2, none⟩ u).cell? ⟨b, 3, none⟩ = W.cell? ⟨b, 3, none⟩ := fun W u => cell_set_ne W b q 2 3 u (.inr (by decide))
  have N3 := Lib.hid n3
  have N4 := Lib.hid n4
  have N5 := Lib.hid n5
  have N6 := Lib.hid n6
  have m1 : ∀ (W : World) (u : Value), (W.setCell ⟨p, 3, none⟩ u).cell? ⟨q, 2, none⟩ = W.cell? ⟨q, 2, none⟩ := fun W u => cell_set_ne W q p 3 2 u (.inr (by decide))
  have m2 : ∀ (W : World) (u : Value), (W.setCell ⟨q, 2, none⟩ u).cell? ⟨p, 3, none⟩ = W.cell? ⟨p, 3, none⟩ := fun W u => cell_set_ne W p q 2 3 u (.inr (by decide))
  have M1 := Lib.hid m1
  have M2 := Lib.hid m2
  clear n3 n4 n5 n6 m1 m2 hpb hqb hpb' hqb' hnb hrb hring hl1 hl2 hlook e1 e2 e3 e4 h1 h2 h3 h4 hpm hqm cp cq h
  go_enter Try.func51, Try.ntmps51
  go_wp2_with fail
  refine wp_region_plan (.take 0 (.take 1 (.take 2 (.take 3 (.take 4 (.take 5 (.take 6 (.take 7 (.take 8 (.take 9 (.take 10 (.take 11 (.take 12 (.take 13 (.take 14 (.take 15 (.take 16 (.take 17 (.eff 18 (.take 19 (.take 20 (.eff 21 .nil)))))))))))))))))))))) (fun w' => w'.cell? ⟨b, 2, none⟩ = some (ptr p) ∧ w'.cell? ⟨b, 3, none⟩ = some (ptr q)) (by kernel_rfl) (by kernel_rfl) (fun _ _ _ _ _ h => h) (by kernel_rfl) (by kernel_rfl) ?_ ?_
  · exact ⟨hb2, hb3⟩
  iterate 18 (first | (apply seqP_skip; (focus (simp only [List.getElem?_toArray, List.getElem?_cons_succ, List.getElem?_cons_zero]; rfl)); (focus rfl); simp only [Act.put, List.setIfInBounds_toArray, List.set_cons_zero, List.set_cons_succ]) | (apply seqP_take; (focus (simp only [List.getElem?_toArray, List.getElem?_cons_succ, List.getElem?_cons_zero]; rfl)); (focus rfl); (focus (intro w' hS; obtain ⟨s2, s3⟩ := hS; first | (go_simp; rfl) | (go_simp; done))); simp only [Act.put, List.setIfInBounds_toArray, List.set_cons_zero, List.set_cons_succ]))
  apply seqP_eff
  (focus (simp only [List.getElem?_toArray, List.getElem?_cons_succ, List.getElem?_cons_zero]; rfl))
  (focus rfl)
  intro K hK
  go_simp
  refine hK _ _ ⟨⟨(N3.out _ _).trans hb2, (N4.out _ _).trans hb3⟩, ?_⟩
  clear hK K
  iterate 2 (first | (apply seqP_skip; (focus (simp only [List.getElem?_toArray, List.getElem?_cons_succ, List.getElem?_cons_zero]; rfl)); (focus rfl); simp only [Act.put, List.setIfInBounds_toArray, List.set_cons_zero, List.set_cons_succ]) | (apply seqP_take; (focus (simp only [List.getElem?_toArray, List.getElem?_cons_succ, List.getElem?_cons_zero]; rfl)); (focus rfl); (focus (intro w' hS; obtain ⟨s2, s3⟩ := hS; first | (go_simp; rfl) | (go_simp; done))); simp only [Act.put, List.setIfInBounds_toArray, List.set_cons_zero, List.set_cons_succ]))
  apply seqP_eff
  (focus (simp only [List.getElem?_toArray, List.getElem?_cons_succ, List.getElem?_cons_zero]; rfl))
  (focus rfl)
  intro K hK
  have c2' := (M1.out w.drew (ptr q)).trans hq2
  have f2' := (HCQ.out.set_ p 3 (ptr q)).frozen 2
  change (w.drew.setCell ⟨p, 3, none⟩ (ptr q)).frozen? _ = _ at f2'
  go_simp
  refine hK _ _ ⟨⟨((N5.out _ _).trans (N3.out _ _)).trans hb2, ((N6.out _ _).trans (N4.out _ _)).trans hb3⟩, ?_⟩
  clear hK K c2' f2'
  refine seqP_nil ?_
  have hT : Two n0 w ((w.setCell ⟨p, 3, none⟩ (ptr q)).setCell ⟨q, 2, none⟩ (ptr p)).drew p q (ptr q) (ptr p) := Two.drewL (Two.ab (W := w.drew) HCP.out HCQ.out (ptr q) (ptr p))
  generalize ((w.setCell ⟨p, 3, none⟩ (ptr q)).setCell ⟨q, 2, none⟩ (ptr p)).drew = W5 at hT ⊢
  have c5 := (hT.oth c 4 (by decide) (by decide)).trans hc4
  have c51 := (hT.oth b 1 (by decide) (by decide)).trans hb1
  have HM5 := Lib.hid (hT.mp _ _ _ _ HM.out)
  have HT := Lib.hid hT
  clear hT
  go_wp2_with (at_delete; go_must (refine wpList_del rfl (.tmp 40) (.tmp 41) rfl rfl HM5.out Try.underlying9 Try.underlying123 k rfl hks ?_); intro w6 hm6 hg6; have c61 := hg6.cell c51 hbm; have c63 := HG6.out _ _ HT.out hg6)
  go_ret2
  refine ⟨rfl, HCUT.out _ _ HT.out hm6 hg6, ?_, c63⟩
  exact (HT.out.rf).grown hg6 (by rw [HT.out.sz]; exact hn0) (fun j hj => by cases hj; exact ⟨hmb0, by obtain ⟨es, ck, hm⟩ := HM5.out.isMapObj; exact ⟨_, hm, rfl⟩⟩)
theorem take_none (n0 c mb : Nat) (ns : List Nd) (k : ByteArray) (w : World) (h : Chn w n0 c mb ns) (hks : k.size ≤ maxLen) (hk : ∀ x ∈ ns, x.2.1 ≠ k) :
    Calls Try.prog 51 #[ptr c, .string k] w fun e w' => e = .returned (.tuple #[.int .i64 0, .bool false]) ∧ w = w' := by
  obtain ⟨rp, rn, hrb⟩ := h.root
  have hc4 := hrb.cell 4
  have hlook := h.mp.look Try.underlying9 Try.underlying123 (z := .pointer none) (by kernel_rfl) hks
  rw [atF_none hk] at hlook
  have hlk : (Instr.lookup 123 (.map (some mb)) (.string k) false).run Try.prog w = .ok (.pointer none) w := hlook
  clear hlook hrb h
  go_enter Try.func51, Try.ntmps51
  go_wp2_with fail
  go_ret2
  exact ⟨rfl, rfl⟩
end Go.Proofs.Ytnobcehiahcfkaa
