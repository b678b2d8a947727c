import Derived.Test.YtgnblkmpoigejaaGreatDoorU18
import Derived.Test.YtgnblkmpoigejaaGreatDoorU20
import Derived.Test.YtgnblkmpoigejaaGreatDoorU7
import Derived.Deep.MidRow
import Derived.Deep.WholeRow
import Derived.Test.YtgnblkmpoigejaaGreatDoorU3
import Derived.Test.YtgnblkmpoigejaaGreatDoorU12
set_option linter.unusedVariables false
set_option linter.unusedSimpArgs false
namespace Go.Proofs.YtgnblkmpoigejaaGreatDoor
set_option maxRecDepth 20000
open Go.RowKit Go.Shelf
namespace Ca
open Bk
def okM (ex : List TypeId) (ms : List Nat) (k : Nat) : Obj → Bool
 | .cells _ t _ => !ex.contains t
 | .map _ _ => !ms.contains k
 | _ => true
structure RM (ex : List TypeId) (ms : List Nat) (n0 : Lim) (w w' : World) : Prop where
 bel : Bel n0 w w'
 fr : ∀ (k : Nat) (o : Obj), w.heap[k]? = some o → okM ex ms k o = true → w'.heap[k]? = some o
section
variable {ex : List TypeId} {ms : List Nat} {n0 : Lim} {w w' w'' : World}
theorem RM.refl (ex : List TypeId) (ms : List Nat) (n0 : Lim) (w : World) : RM ex ms n0 w w := ⟨Bel.refl _ _, fun _ _ h _ => h⟩
theorem RM.trans (h : RM ex ms n0 w w') (k : RM ex ms n0 w' w'') : RM ex ms n0 w w'' := ⟨h.bel.trans k.bel, fun i o hi ho => k.fr i o (h.fr i o hi ho) ho⟩
theorem RM.size (h : RM ex ms n0 w w') : w.heap.size ≤ w'.heap.size := h.bel.size
theorem RM.of_below (h : Below w.heap.size w w') (hn : n0.lo ≤ w.heap.size) : RM ex ms n0 w w' := ⟨Bel.of h hn, fun k o hk _ => (h.block k (heap_lt' hk)).trans hk⟩
theorem RM.below (h : RM ex ms n0 w w') (hb : Below w'.heap.size w' w'') (hn : n0.lo ≤ w.heap.size) : RM ex ms n0 w w'' := h.trans (RM.of_below hb (Nat.le_trans hn h.size))
theorem RM.grown {row : Option Nat} (h : RM ex ms n0 w w') (hg : w'.grownBy w'' row) (hn : n0.lo ≤ w'.heap.size) (hrow : ∀ k, row = some k → n0.ok k ∧ ∃ o, w'.heap[k]? = some o ∧ okM ex ms k o = false) : RM ex ms n0 w w'' := by
 refine ⟨h.bel.grown hg hn (fun k hk => (hrow k hk).1), fun i o hi ho => ?_⟩
 have h1 := h.fr i o hi ho
 refine (hg.block i (heap_lt' h1) (fun e => ?_)).trans h1
 obtain ⟨_, o', ho', hf⟩ := hrow i e.symm
 rw [h1] at ho'
 cases ho'
 rw [ho] at hf
 cases hf
theorem RM.set_ (h : RM ex ms n0 w w') {g i : Nat} {t : TypeId} {cs : Array Value} (hb : Blk w' g t cs) (hn : n0.ok g) (ht : ex.contains t = true) (u : Value) : RM ex ms n0 w (w'.setCell ⟨g, i, none⟩ u) := by
 refine ⟨h.bel.setc hn u, fun k o hk ho => ?_⟩
 have h1 := h.fr k o hk ho
 refine (Below.heap_setCell _ _ _ _ ?_).trans h1
 rintro rfl
 unfold Blk at hb
 rw [h1] at hb
 cases hb
 simp only [okM, ht] at ho
 cases ho
theorem RM.of_rg {ex' : List TypeId} {mb : Nat} (h : RG ex' mb n0 w w') (he : ∀ t, ex'.contains t = true → ex.contains t = true) (hm : ms.contains mb = true) : RM ex ms n0 w w' :=
 ⟨h.bel, fun k o hk ho => h.fr k o hk (by
  cases o with
  | cells cs t fz =>
   simp only [okM, okG, Bool.not_eq_true'] at ho ⊢
   cases hc : ex'.contains t with
   | false => rfl
   | true => rw [he t hc] at ho; cases ho
  | map es ck =>
   simp only [okM, okG, Bool.not_eq_true', decide_eq_false_iff_not] at ho ⊢
   rintro rfl
   rw [hm] at ho
   cases ho
  | _ => rfl)⟩
theorem Owns.rm {α : Type} {base : Nat} {e : TypeId} {size : Nat} {enc : α → List Value} {v : Value} {xs : List α} (ho : Owns w base e size enc v xs) (h : RM ex ms n0 w w') (ht : ex.contains e = false) : Owns w' base e size enc v xs := by
 refine ⟨ho.1, ho.2.imp id ?_⟩
 rintro ⟨g, cap, cur, h1, h2, h3, h4⟩
 exact ⟨g, cap, cur, h1, h2, h.fr g _ h3 (by simp only [okM, ht]; rfl), h4⟩
theorem Blk.rm {g : Nat} {t : TypeId} {cs : Array Value} (hb : Blk w g t cs) (h : RM ex ms n0 w w') (ht : ex.contains t = false) : Blk w' g t cs := h.fr g _ hb (by simp only [okM, ht]; rfl)
end
structure Ce where
 b : Nat
 n : ByteArray
 h : Fr.Hd
 u : Value
 l : List Fld
 k : List Fld
 key : ByteArray
 pv : Value
def plH (h : Fr.Hd) (l k : List Fld) : Hp := ⟨h.rm, h.rt, h.rb, l, h.code, h.rs, k, h.bd, h.asked, h.came, h.mark⟩
def Ce.pl (x : Ce) : En := ⟨x.n, plH x.h x.l x.k, x.key⟩
def entC (x : Ce) : Array Value := #[.string x.h.rm, .string x.h.rt, x.h.rf, .string x.h.rb, .int .i64 x.h.code, .string x.h.rs, x.u, .string ByteArray.empty, .int .i64 x.h.asked, .int .i64 x.h.came, .int .i64 x.h.mark, .string x.key, x.pv]
structure EntB (w : World) (n0 : Lim) (M : Nat) (x : Ce) : Prop where
 blk : Blk w x.b 80 (entC x)
 rf : Owns w 0 57 2 e_ss x.h.rf x.l
 u : Owns w 0 57 2 e_ss x.u x.k
 pv : Owns w 0 9 1 Go.Proofs.YtgnblkmpoigejaaGreatDoor.es x.pv ((cutB x.h.bd).map hxn)
 bd : x.h.bd.size ≤ 5000
 wl : Fr.wt x.l ≤ M
 wk : Fr.wt x.k ≤ M
 ow : ∀ b, x.h.rf.ownBlock = some b ∨ x.u.ownBlock = some b ∨ x.pv.ownBlock = some b → n0.ok b
def eF (xs : List Ce) (k : ByteArray) : Option Value := (xs.find? (fun x => decide (x.n = k))).map fun x => ptr x.b
theorem eF_none {xs : List Ce} {k : ByteArray} (h : ∀ x ∈ xs, x.n ≠ k) : eF xs k = none := by
 unfold eF
 rw [List.find?_eq_none.2 (fun x hx => by simpa using h x hx)]
 rfl
theorem eF_some {xs : List Ce} {x : Ce} (hk : (xs.map (·.n)).Nodup) (hx : x ∈ xs) : eF xs x.n = some (ptr x.b) := by
 induction xs with
 | nil => cases hx
 | cons y l ih =>
  unfold eF
  rw [List.map_cons, List.nodup_cons] at hk
  rcases List.mem_cons.1 hx with rfl | hx
  ·simp
  ·have hne : ¬ y.n = x.n := fun e => hk.1 (List.mem_map.2 ⟨x, hx, e.symm⟩)
   rw [List.find?_cons_of_neg (by simpa using hne)]
   exact ih hk.2 hx
theorem eF_del {a b : List Ce} {x : Ce} (hk : ((a ++ x :: b).map (·.n)).Nodup) (k : ByteArray) : fdel (eF (a ++ x :: b)) x.n k = eF (a ++ b) k := by
 unfold fdel
 by_cases h : k = x.n
 ·subst h
  rw [if_pos rfl]
  refine (eF_none fun y hy e => ?_).symm
  rw [List.map_append, List.map_cons, List.nodup_append] at hk
  obtain ⟨h1, h2, h3⟩ := hk
  rcases List.mem_append.1 hy with hy | hy
  ·exact h3 y.n (List.mem_map.2 ⟨y, hy, rfl⟩) x.n (by simp) e
  ·exact (List.nodup_cons.1 h2).1 (List.mem_map.2 ⟨y, hy, e⟩)
 ·rw [if_neg h]
  unfold eF
  rw [List.find?_append, List.find?_append, List.find?_cons_of_neg (by simpa using fun e : x.n = k => h e.symm)]
theorem eF_add {xs : List Ce} {x : Ce} (h : ∀ y ∈ xs, y.n ≠ x.n) (k : ByteArray) : fput (eF xs) x.n (ptr x.b) k = eF (xs ++ [x]) k := by
 unfold fput
 by_cases hk : k = x.n
 ·subst hk
  rw [if_pos rfl]
  unfold eF
  rw [List.find?_append, List.find?_eq_none.2 (fun y hy => by simpa using h y hy)]
  simp
 ·rw [if_neg hk]
  unfold eF
  rw [List.find?_append]
  have : ¬ x.n = k := fun e => hk e.symm
  simp [this]
structure Ad where
 c : Nat
 pr : Nat
 cr : Nat
 mr : Nat
 pp : Nat
 mp : Nat
 me : Nat
 ex : List ByteArray
def Ad.ms (A : Ad) : List Nat := [A.mr, A.mp, A.me]
abbrev CT : List TypeId := [76, 80, 135, 183, 180, 129, 131]
abbrev GT : List TypeId := [135, 183, 180, 129, 131]
theorem RM.mono {ex ex' : List TypeId} {ms : List Nat} {n0 : Lim} {w w' : World} (h : RM ex ms n0 w w') (he : ∀ t, ex.contains t = true → ex'.contains t = true) : RM ex' ms n0 w w' :=
 ⟨h.bel, fun k o hk ho => h.fr k o hk (by
  cases o with
  | cells cs t fz =>
   simp only [okM, Bool.not_eq_true'] at ho ⊢
   cases hc : ex.contains t with
   | false => rfl
   | true => rw [he t hc] at ho; cases ho
  | _ => exact ho)⟩
theorem RM.ct {ms : List Nat} {n0 : Lim} {w w' : World} (h : RM GT ms n0 w w') : RM CT ms n0 w w' := h.mono fun t ht => by
 simp only [List.contains_cons, List.contains_nil, Bool.or_false, Bool.or_eq_true] at ht ⊢
 exact .inr (.inr ht)
theorem gt_ry : ∀ t, RY.contains t = true → GT.contains t = true := by
 intro t ht
 simp only [List.contains_cons, List.contains_nil, Bool.or_false, Bool.or_eq_true] at ht ⊢
 rcases ht with h | h | h
 ·exact .inl h
 ·exact .inr (.inl h)
 ·exact .inr (.inr (.inl h))
theorem gt_rp : ∀ t, RP.contains t = true → GT.contains t = true := by
 intro t ht
 simp only [List.contains_cons, List.contains_nil, Bool.or_false, Bool.or_eq_true] at ht ⊢
 rcases ht with h | h
 ·exact .inr (.inr (.inr (.inl h)))
 ·exact .inr (.inr (.inr (.inr h)))
theorem ct_ry : ∀ t, RY.contains t = true → CT.contains t = true := by
 intro t ht
 simp only [List.contains_cons, List.contains_nil, Bool.or_false, Bool.or_eq_true] at ht ⊢
 rcases ht with h | h | h
 ·exact .inr (.inr (.inl h))
 ·exact .inr (.inr (.inr (.inl h)))
 ·exact .inr (.inr (.inr (.inr (.inl h))))
theorem ct_rp : ∀ t, RP.contains t = true → CT.contains t = true := by
 intro t ht
 simp only [List.contains_cons, List.contains_nil, Bool.or_false, Bool.or_eq_true] at ht ⊢
 rcases ht with h | h
 ·exact .inr (.inr (.inr (.inr (.inr (.inl h)))))
 ·exact .inr (.inr (.inr (.inr (.inr (.inr h)))))
def chunksC (xs : List Ce) : List ByteArray := xs.flatMap fun x => cutB x.h.bd
theorem chunksC_pl (xs : List Ce) : chunksC xs = chunksE (xs.map Ce.pl) := by
 unfold chunksC chunksE
 rw [List.flatMap_map]
 rfl
theorem chunksC_app (a b : List Ce) : chunksC (a ++ b) = chunksC a ++ chunksC b := by simp [chunksC]
structure CaT (w : World) (n0 : Lim) (A : Ad) (room : Int) (M : Nat) (xs : List Ce) (made : Nat) : Prop where
 blk : Blk w A.c 76 #[.int .i64 room, ptr A.pr, ptr A.pp, .map (some A.me), .int .i64 (made : Int)]
 pile : ∃ es cs, PV w n0 A.pp A.mp 1000000 es cs ∧ cs.Perm (chunksC xs ++ A.ex)
 mp : MapS Tryz.prog w 9 A.me (eF xs) xs.length
 ent : ∀ x ∈ xs, EntB w n0 M x
 nd : (xs.map (·.b)).Nodup
 kd : (xs.map (·.n)).Nodup
 nm : ∀ x ∈ xs, ∃ i : Nat, 1 ≤ i ∧ i ≤ made ∧ x.n = nameE i
 b0 : n0.ok A.c ∧ n0.ok A.me ∧ ∀ x ∈ xs, n0.ok x.b
 ne : A.mr ≠ A.mp ∧ A.mr ≠ A.me ∧ A.mp ≠ A.me
 len : xs.length ≤ 20
 exl : A.ex.length ≤ 5000
structure CaS (w : World) (n0 : Lim) (A : Ad) (room : Int) (M : Nat) (xs : List Ce) (made : Nat) : Prop where
 t : CaT w n0 A room M xs made
 row : ∃ ns, RowS w n0 A.pr room A.cr A.mr ns ∧ kv ns = xs.map fun x => kvE x.pl
section
variable {w w' : World} {n0 : Lim} {M made : Nat} {A : Ad} {room : Int} {xs : List Ce} {x : Ce}
theorem EntB.below (h : EntB w n0 M x) (hb : Below w.heap.size w w') : EntB w' n0 M x := ⟨h.blk.below hb h.blk.lt, h.rf.below hb, h.u.below hb, h.pv.below hb, h.bd, h.wl, h.wk, h.ow⟩
theorem EntB.mono {M' : Nat} (h : EntB w n0 M x) (hm : M ≤ M') : EntB w n0 M' x := ⟨h.blk, h.rf, h.u, h.pv, h.bd, Nat.le_trans h.wl hm, Nat.le_trans h.wk hm, h.ow⟩
theorem EntB.rgX {ex : List TypeId} {mq : Nat} {h0 : Lim} (h : EntB w n0 M x) (hr : RG ex mq h0 w w') (h1 : ex.contains 80 = false) (h2 : ex.contains 57 = false) (h3 : ex.contains 9 = false) : EntB w' n0 M x :=
 ⟨Blk.rgX h.blk hr h1, Owns.rgX h.rf hr h2, Owns.rgX h.u hr h2, Owns.rgX h.pv hr h3, h.bd, h.wl, h.wk, h.ow⟩
theorem CaT.below (h : CaT w n0 A room M xs made) (hb : Below w.heap.size w w') : CaT w' n0 A room M xs made := by
 obtain ⟨es, cs, hp, hc⟩ := h.pile
 exact ⟨h.blk.below hb h.blk.lt, ⟨es, cs, hp.below hb, hc⟩, h.mp.below hb, fun x hx => (h.ent x hx).below hb, h.nd, h.kd, h.nm, h.b0, h.ne, h.len, h.exl⟩
theorem CaT.mono {M' : Nat} (h : CaT w n0 A room M xs made) (hm : M ≤ M') : CaT w n0 A room M' xs made := ⟨h.blk, h.pile, h.mp, fun x hx => (h.ent x hx).mono hm, h.nd, h.kd, h.nm, h.b0, h.ne, h.len, h.exl⟩
theorem CaT.n0w (h : CaT w n0 A room M xs made) : n0.lo ≤ w.heap.size := by obtain ⟨_, _, hp, _⟩ := h.pile; exact hp.st.hz
theorem CaT.row (h : CaT w n0 A room M xs made) {h0 : Lim} (hr : RG RY A.mr h0 w w') : CaT w' n0 A room M xs made := by
 obtain ⟨es, cs, hp, hc⟩ := h.pile
 exact ⟨Blk.rgX h.blk hr rfl, ⟨es, cs, PV.rgX hp hr rfl rfl h.ne.1.symm, hc⟩, MapS.rgX h.mp hr h.ne.2.1.symm, fun x hx => (h.ent x hx).rgX hr rfl rfl rfl, h.nd, h.kd, h.nm, h.b0, h.ne, h.len, h.exl⟩
theorem CaS.below (h : CaS w n0 A room M xs made) (hb : Below w.heap.size w w') : CaS w' n0 A room M xs made := by
 obtain ⟨ns, hr, hk⟩ := h.row
 exact ⟨h.t.below hb, ns, hr.below hb, hk⟩
theorem CaS.mono {M' : Nat} (h : CaS w n0 A room M xs made) (hm : M ≤ M') : CaS w n0 A room M' xs made := ⟨h.t.mono hm, h.row⟩
theorem CaS.n0w (h : CaS w n0 A room M xs made) : n0.lo ≤ w.heap.size := h.t.n0w
end
theorem CaT.del {w w1 w2 : World} {n0 : Lim} {M made : Nat} {A : Ad} {room : Int} {a b : List Ce} {x : Ce} {es : List Pe} {cs : List ByteArray} (h : CaT w n0 A room M (a ++ x :: b) made) (hr : RG RP A.mp n0 w w1) (hp : PV w1 n0 A.pp A.mp 1000000 es cs) (hc : cs.Perm (chunksC (a ++ b) ++ A.ex))
  (hm : MapS Tryz.prog w2 9 A.me (fdel (eF (a ++ x :: b)) x.n) (if (eF (a ++ x :: b) x.n).isSome then (a ++ x :: b).length - 1 else (a ++ x :: b).length)) (hg : w1.grownBy w2 (some A.me)) (hm1 : ∃ es ck, w1.heap[A.me]? = some (.map es ck)) : CaT w2 n0 A room M (a ++ b) made := by
 obtain ⟨mes, mck, hmo⟩ := hm1
 have hne : ∀ {g : Nat} {t : TypeId} {cs : Array Value}, Blk w1 g t cs → some g ≠ some A.me := fun hb e => by
  injection e with e
  subst e
  unfold Blk at hb
  rw [hmo] at hb
  cases hb
 have ho : ∀ {α : Type} {base size : Nat} {e : TypeId} {en : α → List Value} {v : Value} {ys : List α}, Owns w1 base e size en v ys → Owns w2 base e size en v ys := fun ho => ho.grownOther hg (Owns.noIter ho ⟨_, hmo, fun _ _ _ e => by cases e⟩)
 have hsub : ∀ y ∈ a ++ b, y ∈ a ++ x :: b := fun y hy => by
  rcases List.mem_append.1 hy with hy | hy
  ·exact List.mem_append_left _ hy
  ·exact List.mem_append_right _ (List.mem_cons_of_mem _ hy)
 have hsl : (a ++ b).Sublist (a ++ x :: b) := List.Sublist.append (List.Sublist.refl _) (List.sublist_cons_self _ _)
 refine ⟨Blk.keptR (Blk.rgX h.blk hr rfl) hg (hne (Blk.rgX h.blk hr rfl)), ⟨es, cs, ⟨?_, hp.rep⟩, hc⟩, ?_, fun y hy => ?_, (hsl.map _).nodup h.nd, (hsl.map _).nodup h.kd, fun y hy => h.nm y (hsub y hy), ⟨h.b0.1, h.b0.2.1, fun y hy => h.b0.2.2 y (hsub y hy)⟩, h.ne, ?_, h.exl⟩
 ·exact (hp.st.toT.kept hg (hne hp.st.blk) (fun e => by injection e with e; exact h.ne.2.2 e) (fun z hz => hne (hp.st.node z hz))).toS hp.st.rm hp.st.sz hp.st.us
 ·refine hm.congr (eF_del h.kd) ?_
  rw [eF_some h.kd (by simp)]
  simp <;> omega
 ·have hy' := (h.ent y (hsub y hy)).rgX hr rfl rfl rfl
  exact ⟨Blk.keptR hy'.blk hg (hne hy'.blk), ho hy'.rf, ho hy'.u, ho hy'.pv, hy'.bd, hy'.wl, hy'.wk, hy'.ow⟩
 ·have := hsl.length_le
  have := h.len
  omega
end Ca
set_option maxRecDepth 20000
namespace Ca
open Bk
theorem cutB_len16 {s : ByteArray} (hs : s.size ≤ 5000) : (cutB s).length ≤ 313 := by
 have h1 := cutB_sum s
 have h2 : ∀ i (h : i < (cutB s).length), i + 1 < (cutB s).length → 16 ≤ (cutB s)[i].size := by
  intro i h h'
  unfold cutB at h h' ⊢
  rw [List.length_map] at h h'
  rw [List.getElem_map, mkS_size]
  exact (Pc.cut_sizes (g := gear) (sl s) i h).2.2 h'
 generalize cutB s = l at *
 have key : ∀ l : List ByteArray, (∀ i (h : i < l.length), i + 1 < l.length → 16 ≤ l[i].size) → 16 * l.length ≤ (l.map (·.size)).sum + 16 := by
  intro l
  induction l with
  | nil => intro _; simp
  | cons x t ih =>
   intro h
   rw [List.map_cons, List.sum_cons, List.length_cons]
   cases t with
   | nil => simp
   | cons y t =>
    have h0 := h 0 (by simp) (by simp)
    have h3 := ih (fun i hi hi' => by
     have := h (i + 1) (by simpa using hi) (by simpa using hi')
     simpa using this)
    simp only [List.getElem_cons_zero] at h0
    omega
 have := key l h2
 omega
theorem nodup_len : ∀ {l m : List ByteArray}, l.Nodup → (∀ x ∈ l, x ∈ m) → l.length ≤ m.length
 | [], _, _, _ => by simp
 | x :: l, m, hn, hm => by
  rw [List.nodup_cons] at hn
  obtain ⟨a, b, rfl⟩ := List.append_of_mem (hm x (by simp))
  have := nodup_len (l := l) (m := a ++ b) hn.2 (fun y hy => by
   have := hm y (List.mem_cons_of_mem _ hy)
   simp only [List.mem_append, List.mem_cons] at this ⊢
   rcases this with h | h | h
   ·exact .inl h
   ·subst h; exact absurd hy hn.1
   ·exact .inr h)
  simp only [List.length_append, List.length_cons] at this ⊢
  omega
theorem RepS.in_ {es : List Pe} {cs : List ByteArray} (h : RepS es cs) : ∀ x ∈ es, x.t ∈ cs := fun x hx => by
 have := h.ent x hx
 exact cntK_pos.1 (by omega)
theorem RepS.len_ {es : List Pe} {cs : List ByteArray} (h : RepS es cs) (hk : (es.map (·.n)).Nodup) : es.length ≤ cs.length := by
 have := nodup_len (h.tnd hk) (m := cs) (fun t ht => by
  obtain ⟨x, hx, rfl⟩ := List.mem_map.1 ht
  exact RepS.in_ h x hx)
 rwa [List.length_map] at this
theorem coll_of {es : List Pe} {cs ds : List ByteArray} (h : RepS es cs) (hx : ∃ t ∈ ds, (∃ u ∈ ds, hxn u = hxn t ∧ ¬ u = t) ∨ (∃ x ∈ es, x.n = hxn t ∧ ¬ x.t = t)) : Coll cs ds := by
 obtain ⟨t, ht, ⟨u, hu, h1, h2⟩ | ⟨x, hx, h1, h2⟩⟩ := hx
 ·exact ⟨t, ht, u, .inl hu, h1, h2⟩
 ·exact ⟨t, ht, x.t, .inr (RepS.in_ h x hx), by rw [← (h.ent x hx).1]; exact h1, h2⟩
theorem not_coll {es : List Pe} {cs ds : List ByteArray} (h : RepS es (cs ++ ds)) (hk : (es.map (·.n)).Nodup) : ¬ Coll cs ds := by
 rintro ⟨t, ht, u, hu, h1, h2⟩
 obtain ⟨x, hx, e⟩ := h.mem t (List.mem_append_right _ ht)
 obtain ⟨y, hy, e2⟩ := h.mem u (by
  rcases hu with hu | hu
  ·exact List.mem_append_right _ hu
  ·exact List.mem_append_left _ hu)
 have : y = x := nodup_inj hk hy hx (by rw [(h.ent y hy).1, (h.ent x hx).1, e, e2, h1])
 subst this
 exact h2 (e2.symm.trans e)
theorem sum_le_len {l : List ByteArray} {K : Nat} (h : ∀ t ∈ l, t.size ≤ K) : (l.map (·.size)).sum ≤ K * l.length := by
 induction l with
 | nil => simp
 | cons x t ih =>
  have h1 := ih (fun y hy => h y (List.mem_cons_of_mem _ hy))
  have h2 := h x (by simp)
  rw [List.map_cons, List.sum_cons, List.length_cons, Nat.mul_succ]
  omega
theorem putP_ca (n0 : Lim) (p mb : Nat) (es : List Pe) (cs : List ByteArray) (s : ByteArray) (w : World) (h : PV w n0 p mb 1000000 es cs) (hs : s.size ≤ 5000) (hl : cs.length ≤ 6260) (ht : ∀ t ∈ cs, t.size ≤ 128) :
  Calls Tryz.prog 32 #[ptr p, .string s] w fun e w' => RG RP mb n0 w w' ∧ ∃ es',
   (Coll cs (cutB s) ∧ e = .returned (.tuple #[.slice none 0 0, .int .i64 9]) ∧ PV w' n0 p mb 1000000 es' cs) ∨
   (¬ Coll cs (cutB s) ∧ ∃ v, e = .returned (.tuple #[v, .int .i64 0]) ∧ PV w' n0 p mb 1000000 es' (cs ++ cutB s) ∧ Owns w' w.heap.size 9 1 Go.Proofs.YtgnblkmpoigejaaGreatDoor.es v ((cutB s).map hxn)) := by
 refine (putP_mainG n0 p mb 1000000 es s w h.st hs (fun x hx => by have := h.rep.cb x hx; omega) h.rep.nz).mono ?_
 rintro e w' ⟨v, q, rfl, hrg, ⟨rfl, es', hst, hm, hpr, ho⟩ | ⟨rfl, rfl, hst, hc⟩ | ⟨rfl, rfl, hst, fs, hf, hc⟩⟩
 ·have hrep := h.rep.put h.st.kd hpr
  exact ⟨hrg, es', .inr ⟨not_coll hrep hst.kd, v, rfl, ⟨hst, hrep⟩, ho⟩⟩
 ·exact ⟨hrg, es, .inl ⟨coll_of h.rep hc, rfl, ⟨hst, h.rep⟩⟩⟩
 ·exfalso
  have h1 := used_le (h.rep.tnd h.st.kd) (RepS.in_ h.rep)
  have h2 := RepS.len_ h.rep h.st.kd
  have h3 := sub_sum hf.sub
  have h4 := hf.sub.length_le
  have h5 := cutB_len16 hs
  have h6 := cutB_sum s
  have h7 := sum_le_len ht
  omega
end Ca
end Go.Proofs.YtgnblkmpoigejaaGreatDoor
namespace Go.Proofs.YtgnblkmpoigejaaGreatDoor
open Go.RowKit
section
variable {P : Program} {ops : Array Oper} {Q : Exit → Act → World → Prop} {S : World → Prop} {md : Region.Mode} {c : Nat}
def waits (md : Region.Mode) (ops : Array Oper) (i j : Nat) : Bool := match ops[j]? with
 | some oj => oj.after.any (fun e => Region.binds md e && e.on == i)
 | none => false
def reach (md : Region.Mode) (ops : Array Oper) (c : Nat) : Nat → Nat → Bool
 | 0, i => waits md ops i c
 | n + 1, i => waits md ops i c || (List.range c).any fun j => waits md ops i j && reach md ops c n j
theorem waits_spec {i j : Nat} (h : waits md ops i j = true) : ∃ oj, ops[j]? = some oj ∧ ∃ e ∈ oj.after, Region.binds md e = true ∧ e.on = i := by
 unfold waits at h
 cases hoj : ops[j]? with
 | none => rw [hoj] at h; cases h
 | some oj =>
  rw [hoj] at h
  obtain ⟨e, he, hb⟩ := Array.any_eq_true'.1 h
  simp only [Bool.and_eq_true, beq_iff_eq] at hb
  exact ⟨oj, rfl, e, he, hb⟩
theorem reach_ahead {listed : Array Bool} (h : Closed md ops listed) (hl : ∀ oj, ops[c]? = some oj → ∀ e ∈ oj.after, Region.binds md e = true → listed.getD e.on false = true) :
  ∀ (n i : Nat), reach md ops c n i = true → listed.getD i false = true := by
 intro n
 induction n with
 | zero =>
  intro i hr
  obtain ⟨oj, hoj, e, he, hb, rfl⟩ := waits_spec (show waits md ops i c = true from hr)
  exact hl oj hoj e he hb
 | succ n ih =>
  intro i hr
  simp only [reach, Bool.or_eq_true, List.any_eq_true, Bool.and_eq_true] at hr
  rcases hr with hr | ⟨j, _, hw, hr⟩
  ·obtain ⟨oj, hoj, e, he, hb, rfl⟩ := waits_spec hr
   exact hl oj hoj e he hb
  ·obtain ⟨oj, hoj, e, he, hb, rfl⟩ := waits_spec hw
   exact h j oj hoj (ih j hr) e he hb
theorem reach_listed {listed : Array Bool} (h : Closed md ops listed) {n i : Nat} (hr : reach md ops c n i = true) (hu : listed.getD i false = false) : listed.getD c false = false := by
 cases hcl : listed.getD c false with
 | false => rfl
 | true =>
  have := reach_ahead h (fun oj hoj => h c oj hoj hcl) n i hr
  rw [hu] at this; cases this
theorem wpAnyM_take {i : Nat} {oi : Oper} {v : Value} (T : World → Prop) (hi : ops[i]? = some oi) (hic : i ≠ c) (hT : (∀ w, T w) ∨ ((∃ n, reach md ops c n i = true) ∧ ∀ w, S w → T w)) (hsel : ∀ (j : Nat) (o : Oper) cs b, ops[j]? = some o → o.op ≠ .select cs b)
  (hQ : ∀ c a w, Q (.panic c) (a.put oi.dst v) w → Q (.panic c) a w) :
  ∀ (fuel : Nat) (listed : Array Bool) (a : Act) (w : World), Closed md ops listed →
   (∀ j oj, ops[j]? = some oj → j ≠ i → listed.getD j true = false → (∀ e ∈ oj.after, Region.binds md e = true → e.on ≠ i) → oi.apart ops oj = true) →
   i ∈ Region.ready md ops listed → YieldsIf P ops T oi v a → (listed.getD c false = false → S w) →
   wpAnyM P md ops Q S c fuel (listed.setIfInBounds i true) (a.put oi.dst v) w → wpAnyM P md ops Q S c (fuel + 1) listed a w := by
 have hTw : ∀ {listed : Array Bool} {w : World}, Closed md ops listed → i ∈ Region.ready md ops listed → (listed.getD c false = false → S w) → T w := by
  intro listed w hcl hr hS
  rcases hT with h | ⟨⟨n, h⟩, h2⟩
  ·exact h w
  ·exact h2 w (hS (reach_listed hcl h (ready_unlisted hr)))
 intro fuel
 induction fuel with
 | zero =>
  intro listed a w hcl _ hr hy hS H
  refine ⟨fun h => (by rw [h] at hr; cases hr), fun j hj => ?_⟩
  by_cases hji : j = i
  ·subst hji; exact hy.wpOp hi (hTw hcl hr hS) ⟨fun _ h => hS h, H⟩
  ·have := ready_mono hj hji
   rw [H.1] at this
   cases this
 | succ fuel ih =>
  intro listed a w hcl hfree hr hy hS H
  refine ⟨fun h => (by rw [h] at hr; cases hr), fun j hj => ?_⟩
  by_cases hji : j = i
  ·subst hji; exact hy.wpOp hi (hTw hcl hr hS) ⟨fun _ h => hS h, H⟩
  ·have h1 := H.2 j (ready_mono hj hji)
   obtain ⟨hjun, oj, hoj, hall⟩ := mem_ready.1 hj
   have hnot : ∀ e ∈ oj.after, Region.binds md e = true → e.on ≠ i := fun e he hb heq => by
    have h1 := hall e he hb
    have h0 := (mem_ready.1 hr).1
    rw [heq] at h1
    rcases Nat.lt_or_ge i listed.size with h' | h'
    ·simp [h'] at h0 h1; rw [h0] at h1; cases h1
    ·simp [Array.getElem?_eq_none h'] at h1
   have h2 := wpOp_putIf hoj (hfree j oj hoj hji hjun hnot) (fun cs b => hsel i oi cs b hi) (fun cs b => hsel j oj cs b hoj) hQ hy h1
   have hfree' : ∀ k ok, ops[k]? = some ok → k ≠ i → (listed.setIfInBounds j true).getD k true = false →
     (∀ e ∈ ok.after, Region.binds md e = true → e.on ≠ i) → oi.apart ops ok = true := fun k ok hk hki hun hno => by
    refine hfree k ok hk hki ?_ hno
    by_cases hjk : j = k
    ·subst hjk; exact hjun
    ·rw [getD_set_ne true hjk] at hun; exact hun
   refine wpOp_mono (fun a' w' h3 => ⟨fun hjc hcf => h3.2.1 hjc (by rw [getD_set_ne false hic]; exact hcf), ih (listed.setIfInBounds j true) a' w' (hcl.step hj) hfree' (ready_mono hr (Ne.symm hji)) h3.1 (fun hcf => ?_) ?_⟩) h2
   ·by_cases hjc : j = c
    ·subst hjc
     rw [getD_set_self hjun] at hcf
     cases hcf
    ·rw [getD_set_ne false hjc] at hcf
     exact h3.2.1 hjc (by rw [getD_set_ne false hic]; exact hcf)
   ·rw [Array.setIfInBounds_comm _ _ hji]
    exact h3.2.2
def seqN (P : Program) (ops : Array Oper) (Q : Exit → Act → World → Prop) (S : World → Prop) (c : Nat) : List (Bool × Nat) → Act → World → Prop
 | [], a, w => Q .normal a w
 | (true, i) :: l, a, w => ∃ o v, ops[i]? = some o ∧ YieldsIf P ops (fun w' => reach .any ops c ops.size i = true → S w') o v a ∧ seqN P ops Q S c l (a.put o.dst v) w
 | (false, i) :: l, a, w => wpOp P ops Q i (fun a' w' => (i < c → S w') ∧ seqN P ops Q S c l a' w') a w
def okSeqN (ops : Array Oper) (c : Nat) : List (Bool × Nat) → Array Bool → Bool
 | [], listed => (Region.ready .any ops listed).isEmpty
 | (true, i) :: l, listed => decide (i ≠ c) && (Region.ready .any ops listed).contains i && Region.free .any ops listed i && okSeqN ops c l (listed.setIfInBounds i true)
 | (false, i) :: l, listed => (Region.ready .any ops listed == [i]) && (decide (i < c) || i == c || (decide (c < i) && listed.getD c false)) && okSeqN ops c l (listed.setIfInBounds i true)
theorem seqN_sound (hs : Region.noSelect ops = true) (hQ : ∀ (d : Option Tmp) (v : Value) c a w, Q (.panic c) (a.put d v) w → Q (.panic c) a w) :
  ∀ (l : List (Bool × Nat)) (fuel : Nat) (listed : Array Bool) (a : Act) (w : World), Closed .any ops listed → l.length ≤ fuel → okSeqN ops c l listed = true → (listed.getD c false = false → S w) → seqN P ops Q S c l a w → wpAnyM P .any ops Q S c fuel listed a w
 | [], fuel, listed, a, w, _, _, hok, _, h => by
  have hr : Region.ready .any ops listed = [] := by simpa [okSeqN] using hok
  cases fuel with
  | zero => exact ⟨hr, h⟩
  | succ fuel => exact ⟨fun _ => h, by rw [hr]; simp⟩
 | (true, i) :: l, 0, listed, a, w, _, hl, _, _, _ => by simp at hl
 | (true, i) :: l, fuel + 1, listed, a, w, hcl, hl, hok, hS, h => by
  simp only [okSeqN, Bool.and_eq_true, decide_eq_true_eq] at hok
  obtain ⟨o, v, ho, hy, hr⟩ := h
  have hri : i ∈ Region.ready .any ops listed := by simpa using hok.1.1.2
  have hT : (∀ w : World, (fun w' => reach .any ops c ops.size i = true → S w') w) ∨ ((∃ n, reach .any ops c n i = true) ∧ ∀ w, S w → (fun w' => reach .any ops c ops.size i = true → S w') w) := by
   cases hq : reach .any ops c ops.size i with
   | false => exact .inl fun w h => by cases h
   | true => exact .inr ⟨⟨_, hq⟩, fun w h _ => h⟩
  exact wpAnyM_take _ ho hok.1.1.1 hT (Region.noSelect_spec hs) (hQ _ _) fuel listed a w hcl (Region.free_spec ho hok.1.2) hri hy hS
   (seqN_sound hs hQ l fuel _ _ w (hcl.step hri) (by simp at hl; omega) hok.2 (fun h' => hS (by rwa [getD_set_ne false hok.1.1.1] at h')) hr)
 | (false, i) :: l, 0, listed, a, w, _, hl, _, _, _ => by simp at hl
 | (false, i) :: l, fuel + 1, listed, a, w, hcl, hl, hok, hS, h => by
  simp only [okSeqN, Bool.and_eq_true, Bool.or_eq_true, beq_iff_eq, decide_eq_true_eq] at hok
  obtain ⟨⟨h1, hic⟩, h3⟩ := hok
  have hri : i ∈ Region.ready .any ops listed := by rw [h1]; simp
  have hset : ∀ {w' : World}, (i < c → S w') → ((listed.setIfInBounds i true).getD c false = false → S w') := by
   intro w' hw' h'
   rcases hic with (hic | hic) | ⟨hci, hcc⟩
   ·exact hw' hic
   ·rw [← hic, getD_set_self (mem_ready.1 hri).1] at h'; cases h'
   ·rw [getD_set_true hcc] at h'; cases h'
  refine ⟨fun h0 => (by rw [h0] at hri; cases hri), fun j hj => ?_⟩
  obtain rfl : j = i := by rw [h1] at hj; simpa using hj
  refine wpOp_mono (fun a' w' h2 => ⟨fun hne hcu => ?_, seqN_sound hs hQ l fuel _ a' w' (hcl.step hri) (by simp at hl; omega) h3 (hset h2.1) h2.2⟩) h
  rcases hic with (hic | hic) | ⟨hci, hcc⟩
  ·exact h2.1 hic
  ·exact absurd hic hne
  ·rw [hcc] at hcu; cases hcu
theorem wp_region_effs {id : Nat} {a : Act} {w : World} (l : List (Bool × Nat)) (c : Nat) (S : World → Prop) (hm : P.follows .mixedOrders = true) (hs : Region.noSelect ops = true)
  (hQ : ∀ (d : Tmp) (v : Value) c (a : Act) w, Q (.panic c) { a with tmps := a.tmps.setIfInBounds d v } w → Q (.panic c) a w) (hlen : decide (l.length ≤ ops.size) = true)
  (hok : okSeqN ops c l (Array.replicate ops.size false) = true) (hS : S w.drew) (h : seqN P ops Q S c l a w.drew) : (Code.region id ops true).wp P Q a w :=
 wp_region_any hm (wpAny_of_mid _ _ _ _ (seqN_sound hs (fun d v c a w h => by cases d with | none => exact h | some d => exact hQ d v c a w h) l ops.size _ a w.drew (Closed.start _) (of_decide_eq_true hlen) hok (fun _ => hS) h))
theorem seqN_nil {a : Act} {w : World} (h : Q .normal a w) : seqN P ops Q S c [] a w := h
theorem seqN_pure {i : Nat} {o : Oper} {v : Value} {l : List (Bool × Nat)} {a : Act} {w : World} (ho : ops[i]? = some o) (hw : Region.wanted o (yielded ops a.tmps) = true)
  (hy : ∀ w', (execOp a.eval o).run P w' = .ok (.value v) w') (h : seqN P ops Q S c l (a.put o.dst v) w) : seqN P ops Q S c ((true, i) :: l) a w := ⟨o, v, ho, .inl ⟨hw, fun w' _ => hy w'⟩, h⟩
theorem seqN_take {i : Nat} {o : Oper} {v : Value} {l : List (Bool × Nat)} {a : Act} {w : World} (ho : ops[i]? = some o) (hr : reach .any ops c ops.size i = true) (hw : Region.wanted o (yielded ops a.tmps) = true)
  (hy : ∀ w', S w' → (execOp a.eval o).run P w' = .ok (.value v) w') (h : seqN P ops Q S c l (a.put o.dst v) w) : seqN P ops Q S c ((true, i) :: l) a w := ⟨o, v, ho, .inl ⟨hw, fun w' hS => hy w' (hS hr)⟩, h⟩
theorem seqN_skip {i : Nat} {o : Oper} {l : List (Bool × Nat)} {a : Act} {w : World} (ho : ops[i]? = some o) (hw : Region.wanted o (yielded ops a.tmps) = false)
  (h : seqN P ops Q S c l (a.put o.dst undef) w) : seqN P ops Q S c ((true, i) :: l) a w := ⟨o, undef, ho, .inr ⟨hw, rfl⟩, h⟩
theorem seqN_eff {i : Nat} {o : Oper} {l : List (Bool × Nat)} {a : Act} {w : World} (ho : ops[i]? = some o) (hw : Region.wanted o (yielded ops a.tmps) = true)
  (h : ∀ K : Act → World → Prop, (∀ a' w', (i < c → S w') ∧ seqN P ops Q S c l a' w' → K a' w') → o.wp P a w K Q) : seqN P ops Q S c ((false, i) :: l) a w := by
 show wpOp P ops Q i _ a w
 unfold wpOp
 simp only [ho, hw, if_true]
 exact .inl (h _ fun _ _ h => h)
end
attribute [irreducible] seqN
set_option maxRecDepth 20000
open Go.RowKit Go.Shelf
namespace Ca
open Bk
theorem ownNe {α : Type} {w : World} {base : Nat} {e : TypeId} {size : Nat} {en : α → List Value} {v : Value} {xs : List α} {g : Nat} {t : TypeId} {cs : Array Value} (ho : Owns w base e size en v xs) (hb : Blk w g t cs) (hne : e ≠ t) : v.ownBlock = none ∨ v.ownBlock ≠ some g := by
 rcases ho.2 with ⟨rfl, _⟩ | ⟨g', cap, cur, rfl, _, hh, _⟩
 ·exact .inl rfl
 ·refine .inr fun e => ?_
  have hgr : g' = g := by simpa [Value.ownBlock] using e
  subst hgr
  unfold Blk at hb
  rw [hh] at hb
  injection hb with hb
  injection hb with _ hb
  exact hne hb
theorem gsetRow (w : World) (g : Nat) (cs : Array Value) : w.grownBy (w.setRow g cs) (some g) := ⟨rfl, rfl, rfl, by simp, fun k _ hne => setRow_other _ _ _ _ (fun e => hne (by rw [e]))⟩
def rqV (m t : ByteArray) (u : Value) (b : ByteArray) : Value := .agg #[.string m, .string t, u, .string b]
def rsV (c : Int) (r : ByteArray) (u : Value) (b : ByteArray) : Value := .agg #[.int .i64 c, .string r, u, .string b]
set_option maxHeartbeats 2000000 in
theorem copyRq_any (m t : ByteArray) (u : Value) (b : ByteArray) (l : List Fld) (w : World) (h : SlR w e_ss u l) (hl : l.length * 32 ≤ 140737488355328) :
  Calls Tryz.prog 33 #[rqV m t u b] w fun e w' => (∃ v, e = .returned (rqV m t v b) ∧ Owns w' w.heap.size 57 2 e_ss v l) ∧ Below w.heap.size w w' := by
 have hb2 : Below w.heap.size w ((w.alloc (.cells #[.string m, .string t, u, .string b] 25)).alloc (.cells #[.string ⟨#[]⟩, .string ⟨#[]⟩, .slice none 0 0, .string ⟨#[]⟩] 25)) := ((Below.refl _ w).alloc (Nat.le_refl _) _).alloc (by simp) _
 have HK := Lib.hid (cloneFld_any u l _ (h.below hb2) hl)
 have hx : Blk ((w.alloc (.cells #[.string m, .string t, u, .string b] 25)).alloc (.cells #[.string ⟨#[]⟩, .string ⟨#[]⟩, .slice none 0 0, .string ⟨#[]⟩] 25)) w.heap.size 25 #[.string m, .string t, u, .string b] := (Blk.new w _ _).alloc _
 have hy : Blk ((w.alloc (.cells #[.string m, .string t, u, .string b] 25)).alloc (.cells #[.string ⟨#[]⟩, .string ⟨#[]⟩, .slice none 0 0, .string ⟨#[]⟩] 25)) (w.heap.size + 1) 25 #[.string ⟨#[]⟩, .string ⟨#[]⟩, .slice none 0 0, .string ⟨#[]⟩] := by
  have := Blk.new (w.alloc (.cells #[.string m, .string t, u, .string b] 25)) 25 #[.string ⟨#[]⟩, .string ⟨#[]⟩, .slice none 0 0, .string ⟨#[]⟩]
  rwa [World.size_alloc] at this
 obtain ⟨Au, cu, rfl, hcu⟩ := h.form
 clear h hcu
 unfold rqV
 go_enter Tryz.func33, Tryz.ntmps33
 go_wp2_with fail
 generalize ((w.alloc (.cells #[.string m, .string t, .slice Au l.length cu, .string b] 25)).alloc (.cells #[.string ⟨#[]⟩, .string ⟨#[]⟩, .slice none 0 0, .string ⟨#[]⟩] 25)) = w2 at *
 refine HK.out.mono ?_
 rintro e w3 ⟨⟨v, rfl, ho⟩, b3⟩
 obtain ⟨Av, cv, rfl, -⟩ := (SlR.of_owns ho).form
 have hx3 := hx.below b3 hx.lt
 have hy3 := hy.below b3 hy.lt
 have B3 : Below w.heap.size w w3 := hb2.trans (b3.mono hb2.size)
 have HO : Hid (Owns w3 w.heap.size 57 2 e_ss (.slice Av l.length cv) l) := ho.mono hb2.size
 have x2 := hx3.cell 2
 have f2 := hx3.frozen 2
 have hx4 := hx3.set_ 2 (.slice Av l.length cv)
 have hy4 := hy3.far (p := ⟨w.heap.size, 2, none⟩) (by simp) (.slice Av l.length cv)
 have HB4 : Hid (Below w.heap.size w (w3.setCell ⟨w.heap.size, 2, none⟩ (.slice Av l.length cv))) := B3.setCell (p := ⟨w.heap.size, 2, none⟩) (Nat.le_refl _) _
 have HO4 : Hid (Owns (w3.setCell ⟨w.heap.size, 2, none⟩ (.slice Av l.length cv)) w.heap.size 57 2 e_ss (.slice Av l.length cv) l) := HO.out.grownOther (gcell w3 ⟨w.heap.size, 2, none⟩ _) (ownNe HO.out hx3 (by decide))
 clear hx hy HK hb2
 go_wp2_with (first
  | refine wpList_load_row rfl 25 (.tmp 1) rfl w.heap.size rfl 25 _ (0, 0) _ hx4 Tryz.underlying25 rfl (by kernel_rfl) ?_
  | refine wpList_store_row rfl _ _ _ rfl (w.heap.size + 1) _ rfl rfl 25 _ hy4 (by kernel_rfl) (by kernel_rfl) (by kernel_rfl) ?_)
 exact bodyPost_ret (results_cell_row rfl _ _ (w.heap.size + 1) _ _ (0, 0) _ (by kernel_rfl) (setRow_heap _ _ _ _ _ _ hy4) Tryz.underlying25 rfl (by kernel_rfl)) (by kernel_rfl) ⟨⟨_, rfl, HO4.out.grownOther (gsetRow _ _ _) (ownNe HO4.out hy4 (by decide))⟩, HB4.out.grown (gsetRow _ _ _) HB4.out.size (fun k hk => by cases hk; omega)⟩
set_option maxHeartbeats 2000000 in
theorem copyRs_any (c : Int) (r : ByteArray) (u : Value) (b : ByteArray) (l : List Fld) (w : World) (h : SlR w e_ss u l) (hl : l.length * 32 ≤ 140737488355328) :
  Calls Tryz.prog 34 #[rsV c r u b] w fun e w' => (∃ v, e = .returned (rsV c r v b) ∧ Owns w' w.heap.size 57 2 e_ss v l) ∧ Below w.heap.size w w' := by
 have hb2 : Below w.heap.size w ((w.alloc (.cells #[.int .i64 c, .string r, u, .string b] 27)).alloc (.cells #[.int .i64 0, .string ⟨#[]⟩, .slice none 0 0, .string ⟨#[]⟩] 27)) := ((Below.refl _ w).alloc (Nat.le_refl _) _).alloc (by simp) _
 have HK := Lib.hid (cloneFld_any u l _ (h.below hb2) hl)
 have hx : Blk ((w.alloc (.cells #[.int .i64 c, .string r, u, .string b] 27)).alloc (.cells #[.int .i64 0, .string ⟨#[]⟩, .slice none 0 0, .string ⟨#[]⟩] 27)) w.heap.size 27 #[.int .i64 c, .string r, u, .string b] := (Blk.new w _ _).alloc _
 have hy : Blk ((w.alloc (.cells #[.int .i64 c, .string r, u, .string b] 27)).alloc (.cells #[.int .i64 0, .string ⟨#[]⟩, .slice none 0 0, .string ⟨#[]⟩] 27)) (w.heap.size + 1) 27 #[.int .i64 0, .string ⟨#[]⟩, .slice none 0 0, .string ⟨#[]⟩] := by
  have := Blk.new (w.alloc (.cells #[.int .i64 c, .string r, u, .string b] 27)) 27 #[.int .i64 0, .string ⟨#[]⟩, .slice none 0 0, .string ⟨#[]⟩]
  rwa [World.size_alloc] at this
 obtain ⟨Au, cu, rfl, hcu⟩ := h.form
 clear h hcu
 unfold rsV
 go_enter Tryz.func34, Tryz.ntmps34
 go_wp2_with fail
 generalize ((w.alloc (.cells #[.int .i64 c, .string r, .slice Au l.length cu, .string b] 27)).alloc (.cells #[.int .i64 0, .string ⟨#[]⟩, .slice none 0 0, .string ⟨#[]⟩] 27)) = w2 at *
 refine HK.out.mono ?_
 rintro e w3 ⟨⟨v, rfl, ho⟩, b3⟩
 obtain ⟨Av, cv, rfl, -⟩ := (SlR.of_owns ho).form
 have hx3 := hx.below b3 hx.lt
 have hy3 := hy.below b3 hy.lt
 have B3 : Below w.heap.size w w3 := hb2.trans (b3.mono hb2.size)
 have HO : Hid (Owns w3 w.heap.size 57 2 e_ss (.slice Av l.length cv) l) := ho.mono hb2.size
 have x2 := hx3.cell 2
 have f2 := hx3.frozen 2
 have hx4 := hx3.set_ 2 (.slice Av l.length cv)
 have hy4 := hy3.far (p := ⟨w.heap.size, 2, none⟩) (by simp) (.slice Av l.length cv)
 have HB4 : Hid (Below w.heap.size w (w3.setCell ⟨w.heap.size, 2, none⟩ (.slice Av l.length cv))) := B3.setCell (p := ⟨w.heap.size, 2, none⟩) (Nat.le_refl _) _
 have HO4 : Hid (Owns (w3.setCell ⟨w.heap.size, 2, none⟩ (.slice Av l.length cv)) w.heap.size 57 2 e_ss (.slice Av l.length cv) l) := HO.out.grownOther (gcell w3 ⟨w.heap.size, 2, none⟩ _) (ownNe HO.out hx3 (by decide))
 clear hx hy HK hb2
 go_wp2_with (first
  | refine wpList_load_row rfl 27 (.tmp 1) rfl w.heap.size rfl 27 _ (0, 0) _ hx4 Tryz.underlying27 rfl (by kernel_rfl) ?_
  | refine wpList_store_row rfl _ _ _ rfl (w.heap.size + 1) _ rfl rfl 27 _ hy4 (by kernel_rfl) (by kernel_rfl) (by kernel_rfl) ?_)
 exact bodyPost_ret (results_cell_row rfl _ _ (w.heap.size + 1) _ _ (0, 0) _ (by kernel_rfl) (setRow_heap _ _ _ _ _ _ hy4) Tryz.underlying27 rfl (by kernel_rfl)) (by kernel_rfl) ⟨⟨_, rfl, HO4.out.grownOther (gsetRow _ _ _) (ownNe HO4.out hy4 (by decide))⟩, HB4.out.grown (gsetRow _ _ _) HB4.out.size (fun k hk => by cases hk; omega)⟩
end Ca
set_option maxRecDepth 20000
namespace Ca
def ffn (g3 g4 g5 : Nat) : Value := .func (.func 71) #[] #[ptr g3, ptr g4, ptr g5]
def FitsP (W0 : World) (g3 g4 g5 : Nat) (xs : List ByteArray) (p : ByteArray → Bool) : Prop :=
 ∀ W, Below W0.heap.size W0 W → ∀ n ∈ xs, Calls Tryz.prog 71 #[.string n, ptr g3, ptr g4, ptr g5] W fun e w' => e = .returned (.bool (p n)) ∧ Below W.heap.size W w'
def idxP {α : Type} (p : α → Bool) (l : List α) : Int := match l.findIdx? p with | some k => (k : Int) | none => -1
theorem idp_no {α : Type} {p : α → Bool} {l : List α} (h : l.any p = false) : idxP p l = -1 := by
 unfold idxP
 rw [List.findIdx?_eq_none_iff.2]
 intro x hx
 rw [List.any_eq_false] at h
 simpa using h x hx
theorem idp_yes {α : Type} {p : α → Bool} {l : List α} {k : Nat} (hk : k < l.length) (h : (l.take k).any p = false) (hp : p l[k] = true) : idxP p l = k := by
 have e : l.findIdx? p = some k := List.findIdx?_eq_some_iff_getElem.2 ⟨hk, hp, fun j hj => by
  rw [List.any_eq_false] at h
  simpa using h _ (by rw [List.mem_take_iff_getElem]; exact ⟨j, by omega, rfl⟩)⟩
 unfold idxP
 rw [e]
theorem idp_some {α : Type} {p : α → Bool} {l : List α} (h : l.any p = true) : ∃ k, ∃ hk : k < l.length, idxP p l = (k : Int) ∧ (l.take k).any p = false ∧ p l[k] = true := by
 cases hf : l.findIdx? p with
 | none =>
  rw [List.findIdx?_eq_none_iff] at hf
  rw [List.any_eq_true] at h
  obtain ⟨x, hx, hp⟩ := h
  rw [hf x hx] at hp; cases hp
 | some k =>
  obtain ⟨hk, hp, hj⟩ := List.findIdx?_eq_some_iff_getElem.1 hf
  refine ⟨k, hk, by unfold idxP; rw [hf], ?_, hp⟩
  rw [List.any_eq_false]
  intro x hx
  rw [List.mem_take_iff_getElem] at hx
  obtain ⟨j, hj', rfl⟩ := hx
  exact hj j (by omega)
theorem keepP_snoc {α : Type} {p : α → Bool} {l : List α} {j : Nat} (h : j < l.length) : (l.take (j + 1)).filter (fun f => !p f) = (l.take j).filter (fun f => !p f) ++ (if p l[j] = true then [] else [l[j]]) := by
 rw [List.take_add_one, List.getElem?_eq_getElem h, List.filter_append]
 congr 1
 cases hq : p l[j] <;> simp [hq]
theorem keepP_none {α : Type} {p : α → Bool} {l : List α} (h : l.any p = false) : l.filter (fun f => !p f) = l := by
 rw [List.filter_eq_self]
 intro x hx
 rw [List.any_eq_false] at h
 simpa using h x hx
theorem putS {w : World} {base g n cap : Nat} {xs : List ByteArray} (h : Owns w base 9 1 es (.slice (some ⟨g, 0, none⟩) n cap) xs) (i : Nat) (hi : i < xs.length) (x : ByteArray) :
  Owns (w.setCell ⟨g, i, none⟩ (.string x)) base 9 1 es (.slice (some ⟨g, 0, none⟩) n cap) (xs.set i x) := by
 obtain ⟨hb, rfl, hn, hm, cur, hh, hs, ht⟩ := h.row
 have := Owns.of_row (w := w.setCell ⟨g, i, none⟩ (.string x)) (e := 9) (xs := xs.set i x) (en := es) (size := 1) (cap := cap) (fun _ => rfl) hb (by rw [List.length_set]; exact hn) hm (hh.set_ i (.string x)) (by simpa using hs) (by
  rw [es_map] at ht ⊢
  rw [List.length_set, Array.toList_setIfInBounds, List.take_set, ht, List.map_set])
 rwa [List.length_set] at this
theorem cellS {w : World} {base g n cap : Nat} {xs : List ByteArray} (h : Owns w base 9 1 es (.slice (some ⟨g, 0, none⟩) n cap) xs) (i : Nat) (hi : i < xs.length) : w.cell? ⟨g, i, none⟩ = some (.string xs[i]) ∧ w.frozen? ⟨g, i, none⟩ = false := by
 obtain ⟨hb, rfl, hn, hm, cur, hh, hs, ht⟩ := h.row
 refine ⟨?_, hh.frozen i⟩
 rw [hh.cell i]
 rw [es_map] at ht
 have h1 : (cur.toList.take (xs.length * 1))[i]? = some (.string xs[i]) := by rw [ht, List.getElem?_map, List.getElem?_eq_getElem hi]; rfl
 rw [List.getElem?_take, if_pos (by omega)] at h1
 simpa using h1
set_option maxHeartbeats 1600000 in
theorem indexN_any (W0 : World) (g3 g4 g5 : Nat) (p : ByteArray → Bool) (v : Value) (xs : List ByteArray) (w : World) (hF : FitsP W0 g3 g4 g5 xs p) (hb0 : Below W0.heap.size W0 w) (h : SlR w es v xs) (hl : xs.length ≤ 140737488351232) :
  Calls Tryz.prog 112 #[v, ffn g3 g4 g5] w fun e w' => e = .returned (.int .i64 (idxP p xs)) ∧ Below w.heap.size w w' := by
 have h2 := Lib.hid (fun hn => h.texts hn)
 obtain ⟨A, c, rfl, hcc, -⟩ := h
 have HF := Lib.hid hF
 have HB0 := Lib.hid hb0
 clear hF hb0
 unfold ffn
 go_enter Tryz.func112, Tryz.ntmps112
 go_wp2_with fail
 go_loopw [8] (fun i wr => ∃ k : Nat, k ≤ xs.length ∧ i = .int .i64 k ∧ (xs.take k).any p = false ∧ Below w.heap.size w wr) (fun i _ => xs.length - (intOf i).toNat)
 case atStart => exact ⟨0, by omega, rfl, rfl, Below.refl _ _⟩
 case round =>
  obtain ⟨k, hk, rfl, hN, hbel⟩ := hrel
  have HN := Lib.hid hN
  clear hN
  by_cases hlt : k < xs.length
  ·obtain ⟨b, o, c', he, _, hb, hcell⟩ := h2.out (by omega)
   obtain ⟨rfl, rfl⟩ : A = some ⟨b, o, none⟩ ∧ c = c' := by injection he with h1 h2 h3; exact ⟨h1, h3⟩
   have c0 := (hbel.cell (p := ⟨b, o + k, none⟩) hb).trans (hcell k hlt)
   have HT : Hid ((xs.take (k + 1)).any p = p xs[k]) := by
    show _ = _; rw [List.take_add_one, List.getElem?_eq_getElem hlt, List.any_append, HN.out]; simp
   have HI : Hid (p xs[k] = true → idxP p xs = k) := fun hp => idp_yes hlt HN.out hp
   have HP := Lib.hid (fun W hW => HF.out W hW xs[k] (List.getElem_mem hlt))
   clear hcell h2 he
   generalize xs[k] = n at *
   cases hq : p n
   all_goals
    have HQ := Lib.hid hq
    clear hq
    go_wp2_with fail
    refine (HP.out _ (HB0.out.trans (hbel.mono HB0.out.size))).mono ?_
    rintro e w1 ⟨rfl, b1⟩
    rw [HQ.out]
    go_wp2_with fail
   ·go_roundw
    case rel => exact ⟨k + 1, by omega, by go_num, by rw [HT.out, HQ.out], hbel.trans (b1.mono hbel.size)⟩
    case measure => simp [intOf]; omega
   ·go_ret
    exact ⟨ret_int (HI.out HQ.out).symm, hbel.trans (b1.mono hbel.size)⟩
  ·have HA : Hid (idxP p xs = -1) := idp_no (by have := HN.out; rwa [List.take_of_length_le (by omega)] at this)
   go_wp2_with fail
   go_ret
   exact ⟨ret_int HA.out.symm, hbel⟩
theorem str_z : ∀ v ∈ (Value.string ByteArray.empty).cells.toList, v.oneCell' = true := by simp [Value.cells, Value.oneCell']
set_option maxHeartbeats 3200000 in
theorem deleteN_any (W0 : World) (g3 g4 g5 : Nat) (p : ByteArray → Bool) (v : Value) (l : List ByteArray) (base : Nat) (w : World) (hF : FitsP W0 g3 g4 g5 l p) (hb0 : Below W0.heap.size W0 w) (hbase : W0.heap.size ≤ base) (h : Owns w base 9 1 es v l) (hl : l.length ≤ 140737488351232) :
  Calls Tryz.prog 70 #[v, ffn g3 g4 g5] w fun e w' => (∃ u, e = .returned u ∧ Owns w' base 9 1 es u (l.filter (fun f => !p f))) ∧ w.grownBy w' v.ownBlock := by
 have HO := Lib.hid h
 have HF := Lib.hid hF
 have HB0 := Lib.hid hb0
 have HI0 := Lib.hid (indexN_any W0 g3 g4 g5 p v l w hF hb0 (SlR.of_owns h) hl)
 clear hF hb0
 by_cases hany : l.any p = true
 ·obtain ⟨k, hk, hi, hpre, hp⟩ := idp_some hany
  obtain ⟨g, cap, rfl⟩ : ∃ g cap, v = .slice (some ⟨g, 0, none⟩) l.length cap := by
   rcases h.form with ⟨_, h0⟩ | h0
   ·rw [h0] at hk; simp at hk
   ·exact h0
  obtain ⟨-, -, hcap, hcm, -⟩ := h.row
  have HG : Hid (W0.heap.size ≤ g) := Nat.le_trans hbase (h.lt g rfl).1
  unfold maxLen at hcm
  have HI := HI0
  rw [hi] at HI
  have hK : Hid (l.take k = (l.take (k + 1)).filter (fun f => !p f)) := by
   show _ = _
   rw [keepP_snoc hk, if_pos hp, List.append_nil, keepP_none hpre]
  clear hi hpre hp hany h HI0 hbase
  have hk1 : ((k : Int) == -1) = false := by rw [beq_eq_false_iff_ne]; omega
  unfold ffn at HI ⊢
  go_enter Tryz.func70, Tryz.ntmps70
  go_wp2_with fail
  refine HI.out.mono ?_
  rintro e w1 ⟨rfl, b1⟩
  have HO1 := Lib.hid (HO.out.below b1)
  have HB1 := Lib.hid (HB0.out.trans (b1.mono HB0.out.size))
  go_wp2_with fail
  go_loopw [5, 6] (fun i j wr => ∃ (i' j' : Nat) (L : List ByteArray), i' < j' ∧ j' ≤ l.length ∧ L.length = l.length ∧ i = .int .i64 i' ∧ j = .int .i64 j' ∧ L.take i' = (l.take j').filter (fun f => !p f) ∧ L.drop j' = l.drop j' ∧ Owns wr base 9 1 es (.slice (some ⟨g, 0, none⟩) l.length cap) L ∧ w1.grownBy wr (some g)) (fun _ j _ => l.length - (intOf j).toNat)
  case atStart => exact ⟨k, k + 1, l, by omega, by omega, rfl, rfl, by go_num, hK.out, rfl, HO1.out, World.grownBy.refl _ _⟩
  case round =>
   obtain ⟨i, j, L, hij, hj, hL, rfl, rfl, htk, hdr, hown, hgr⟩ := hrel
   have HL := Lib.hid hL
   have HT := Lib.hid htk
   have HD := Lib.hid hdr
   have HW := Lib.hid hown
   have hglt : g < wr.heap.size := (hown.lt g rfl).2
   have HBr : Hid (Below W0.heap.size W0 wr) := HB1.out.grown hgr HB1.out.size (fun k hk => by cases hk; exact HG.out)
   clear hL htk hdr hown
   by_cases hlt : j < l.length
   ·have hjL : j < L.length := by rw [HL.out]; exact hlt
    have hiL : i < L.length := by omega
    have hLj : L[j] = l[j] := by
     have e := HD.out
     rw [List.drop_eq_getElem_cons hjL, List.drop_eq_getElem_cons hlt] at e
     injection e
    obtain ⟨c0, -⟩ := cellS HW.out j hjL
    obtain ⟨q0, f0⟩ := cellS HW.out i hiL
    rw [hLj] at c0
    have HS := Lib.hid (keepP_snoc (p := p) hlt)
    have HP := Lib.hid (fun x : ByteArray => putS HW.out i hiL x)
    have HC := Lib.hid (fun W hW => HF.out W hW l[j] (List.getElem_mem hlt))
    generalize L[i] = fi at q0
    generalize l[j] = f at c0 HS HC
    clear hLj
    cases hq : p f
    all_goals
     have HQ := Lib.hid hq
     clear hq
     go_wp2_with fail
     refine (HC.out _ HBr.out).mono ?_
     rintro e w2 ⟨rfl, b2⟩
     rw [HQ.out]
     have hgr2 := gr_below hgr b2
     have HS2 := HS.out
     rw [HQ.out] at HS2
     have HS3 := Lib.hid HS2
     clear HS2
    ·have d0 : w2.cell? ⟨g, i, none⟩ = some (.string fi) := (b2.cell hglt).trans q0
     have g0 : w2.frozen? ⟨g, i, none⟩ = false := (b2.frozen hglt).trans f0
     have HW2 := Lib.hid (putS (HW.out.below b2) i hiL f)
     clear q0 f0 c0
     go_wp2_with fail
     go_roundw
     case rel =>
      refine ⟨i + 1, j + 1, L.set i f, by omega, by omega, by rw [List.length_set]; exact HL.out, by go_num, by go_num, ?_, ?_, HW2.out, gr_set hgr2 _ _⟩
      ·rw [HS3.out, ← HT.out, if_neg (by decide), List.take_add_one, List.take_set_of_le (Nat.le_refl _), List.getElem?_set_self hiL]; rfl
      ·rw [List.drop_set_of_lt (by omega)]
       have e := HD.out
       rw [List.drop_eq_getElem_cons hjL, List.drop_eq_getElem_cons hlt] at e
       injection e
     case measure => simp [intOf]; omega
    ·go_wp2_with fail
     go_roundw
     case rel =>
      refine ⟨i, j + 1, L, by omega, by omega, HL.out, rfl, by go_num, ?_, ?_, HW.out.below b2, hgr2⟩
      ·rw [HS3.out, ← HT.out, if_pos trivial, List.append_nil]
      ·have e := HD.out
       rw [List.drop_eq_getElem_cons hjL, List.drop_eq_getElem_cons hlt] at e
       injection e
     case measure => simp [intOf]; omega
   ·have hE : Hid (L.take i = l.filter (fun f => !p f)) := by
     show _ = _; rw [HT.out, List.take_of_length_le (by omega)]
    have hiL : i ≤ L.length := by rw [HL.out]; omega
    have i1 : (i : Int) ≤ (l.length : Int) := by omega
    go_wp2_with ((refine wpList_clear_owns (size := 1) rfl (.tmp 38) 59 rfl _ Tryz.underlying59 Tryz.zeroValue9 rfl (by decide) str_z (fun _ => rfl) HW.out i (l.length - i) _ (by rw [HL.out]; omega) (by rw [Nat.mul_one]; rfl) ?_); intro w3 ho3 hg3)
    go_ret
    refine ⟨⟨_, rfl, by rw [← hE.out]; exact ho3⟩, gr_trans (gr_trans (gr_of b1) hgr) hg3⟩
 ·have hidx : idxP p l = -1 := idp_no (by simpa using hany)
  have hkp : l.filter (fun f => !p f) = l := keepP_none (by simpa using hany)
  have HI := HI0
  rw [hidx] at HI
  rw [hkp]
  clear hany h hidx hkp HI0
  unfold ffn at HI ⊢
  go_enter Tryz.func70, Tryz.ntmps70
  go_wp2_with fail
  refine HI.out.mono ?_
  rintro e w1 ⟨rfl, b1⟩
  go_wp2_with fail
  go_ret
  exact ⟨⟨_, rfl, HO.out.below b1⟩, gr_of b1⟩
end Ca
end Go.Proofs.YtgnblkmpoigejaaGreatDoor
