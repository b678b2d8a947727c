import Derived.Test.YtgnblkmpoigejaaGreatDoorU1
import Derived.Test.YtgnblkmpoigejaaGreatDoorU0
import Derived.Laws.BitsAllLaws
import Derived.BigQuiet
import Derived.Deep.QuietTactic
set_option linter.unusedVariables false
set_option linter.unusedSimpArgs false
namespace Go.Proofs.YtgnblkmpoigejaaGreatDoor
set_option maxRecDepth 20000
open Go.RowKit
theorem atF_put {ns : List Nd} {b : Nat} {k : ByteArray} {s : Int} (h : ∀ x ∈ ns, x.2.1 ≠ k) : ∀ x, fput (atF ns) k (ptr b) x = atF (ns ++ [(b, k, s)]) x := by
 intro x
 unfold fput
 by_cases hx : x = k
 ·subst hx
  rw [if_pos rfl]
  unfold atF
  rw [List.find?_append, List.find?_eq_none.2 (fun y hy => by simp [h y hy])]
  simp
 ·rw [if_neg hx]
  unfold atF
  rw [List.find?_append]
  cases hf : ns.find? (fun y => decide (y.2.1 = x)) with
  | none => simp [Ne.symm hx]
  | some y => rfl
theorem Chn.pushed {w W5 w6 : World} {n0 : Lim} {c mb : Nat} {ns : List Nd} {b p : Nat} {k : ByteArray} {s : Int} {xs : List Nat} (h : Chn w n0 c mb ns) (hk : ∀ x ∈ ns, x.2.1 ≠ k) (hb0 : n0.ok b) (hb : Blk w b 180 #[.string k, .int .i64 s, ptr p, ptr c]) (hf : ∀ x ∈ ns, x.1 ≠ b) (e1 : c :: ns.map (·.1) = xs ++ [p])
  (t : Two n0 w W5 p c (ptr b) (ptr b)) (hm : MapS Tryz.prog w6 9 mb (fput (atF ns) k (ptr b)) (ns.length + 1)) (hg : W5.grownBy w6 (some mb)) : Chn w6 n0 c mb (ns ++ [(b, k, s)]) := by
 have hroot := h.ne_root
 have hbc : b ≠ c := by
  intro e
  subst e
  obtain ⟨_, _, hr⟩ := h.root
  unfold Blk at hb hr
  rw [hr] at hb
  injection hb with hb
  injection hb with _ hb
  revert hb
  decide
 have hcl : c ∉ ns.map (·.1) := fun hc => by
  obtain ⟨y, hy, e⟩ := List.mem_map.1 hc
  exact hroot y hy e
 have nd1 : (c :: ns.map (·.1)).Nodup := List.nodup_cons.2 ⟨hcl, h.nd⟩
 have hbn : b ∉ ns.map (·.1) := fun hc => by
  obtain ⟨y, hy, e⟩ := List.mem_map.1 hc
  exact hf y hy e
 have hpx : p ∉ xs := by
  rw [e1] at nd1
  exact fun hx => (List.nodup_append.1 nd1).2.2 p hx p (by simp) rfl
 have hbx : b ∉ xs ++ [p] := by
  rw [← e1]
  simp only [List.mem_cons, not_or]
  exact ⟨hbc, hbn⟩
 have hbp : b ≠ p := fun e => hbx (by rw [e]; simp)
 have e2 : c :: (ns.map (·.1) ++ [c]) = xs ++ p :: [c] := by rw [← List.cons_append, e1, List.append_assoc]; rfl
 have e3 : c :: ((ns ++ [(b, k, s)]).map (·.1) ++ [c]) = xs ++ p :: b :: [c] := by rw [List.map_append, List.append_assoc, ← List.cons_append, e1, List.append_assoc]; rfl
 have hb5 : NodeB W5 (b, k, s) := t.node (b, k, s) ⟨_, _, hb⟩
 have hring : Links W5 (c :: ((ns ++ [(b, k, s)]).map (·.1) ++ [c])) := by
  rw [e3]
  have := h.ring
  rw [e2] at this
  exact links_add this hpx (by rw [← e1]; exact hcl) hbx ⟨t.cp, (t.c2 b hbc).trans (hb.cell 2)⟩ ⟨(t.c3 b hbp).trans (hb.cell 3), t.cq⟩ (fun a ha _ => t.c3 a ha) (fun a ha _ => t.c2 a ha)
 have hall : ∀ x ∈ ns ++ [(b, k, s)], NodeB W5 x := by
  intro x hx
  rcases List.mem_append.1 hx with hx | hx
  ·exact t.node x (h.node x hx)
  ·simp only [List.mem_cons, List.not_mem_nil, or_false] at hx
   subst hx
   exact hb5
 have hm5 := t.mp _ _ _ _ h.mp
 have hne : ∀ x ∈ ns ++ [(b, k, s)], some x.1 ≠ some mb := fun x hx e => by
  injection e with e
  obtain ⟨_, _, hb⟩ := hall x hx
  exact hm5.ne_blk hb e.symm
 have hcm : some c ≠ some mb := fun e => by
  injection e with e
  obtain ⟨_, _, hb⟩ := t.root _ _ h.root
  exact hm5.ne_blk hb e.symm
 have hmemc : ∀ a, a ∈ c :: ((ns ++ [(b, k, s)]).map (·.1) ++ [c]) → (a = c ∨ ∃ x ∈ ns ++ [(b, k, s)], x.1 = a) := by
  intro a ha
  rw [List.mem_cons, List.mem_append, List.mem_map, List.mem_singleton] at ha
  rcases ha with h1 | ⟨x, hx, h1⟩ | h1
  ·exact .inl h1
  ·exact .inr ⟨x, hx, h1⟩
  ·exact .inl h1
 have ex23 : ∀ a, (a = c ∨ ∃ x ∈ ns ++ [(b, k, s)], x.1 = a) → (∃ v, W5.cell? ⟨a, 2, none⟩ = some v) ∧ ∃ v, W5.cell? ⟨a, 3, none⟩ = some v := by
  intro a ha
  rcases ha with rfl | ⟨x, hx, rfl⟩
  ·obtain ⟨pv, nx, hb⟩ := t.root _ _ h.root
   exact ⟨⟨pv, hb.cell 2⟩, ⟨nx, hb.cell 3⟩⟩
  ·obtain ⟨pv, nx, hb⟩ := hall x hx
   exact ⟨⟨pv, hb.cell 2⟩, ⟨nx, hb.cell 3⟩⟩
 have cells : ∀ a i v, (a = c ∨ ∃ x ∈ ns ++ [(b, k, s)], x.1 = a) → W5.cell? ⟨a, i, none⟩ = some v → w6.cell? ⟨a, i, none⟩ = W5.cell? ⟨a, i, none⟩ := by
  intro a i v ha hv
  rw [hv]
  refine hg.cell hv ?_
  rcases ha with rfl | ⟨x, hx, rfl⟩
  ·exact hcm
  ·exact hne x hx
 refine ⟨?_, fun x hx => ?_, ?_, ?_, ?_, hm.congr (atF_put hk) (by simp), ⟨h.b0.1, h.b0.2.1, fun x hx => ?_⟩, by have := h.hz; have := t.sz; have := hg.size; omega⟩
 ·obtain ⟨pv, nx, hb⟩ := t.root _ _ h.root
  exact ⟨pv, nx, Blk.keptR hb hg hcm⟩
 ·obtain ⟨pv, nx, hb⟩ := hall x hx
  exact ⟨pv, nx, Blk.keptR hb hg (hne x hx)⟩
 ·refine hring.keep (fun a ha => ?_) (fun a ha => ?_)
  ·have hm := hmemc a (List.dropLast_subset _ ha)
   obtain ⟨_, v, hv⟩ := ex23 a hm
   exact cells a 3 v hm hv
  ·have hm := hmemc a (List.mem_of_mem_tail ha)
   obtain ⟨⟨v, hv⟩, _⟩ := ex23 a hm
   exact cells a 2 v hm hv
 ·rw [List.map_append, List.nodup_append]
  exact ⟨h.nd, by simp, fun a ha x hx => by simp at hx; subst hx; exact fun e => hbn (e ▸ ha)⟩
 ·rw [List.map_append, List.nodup_append]
  refine ⟨h.kd, by simp, fun a ha x hx => ?_⟩
  simp at hx
  subst hx
  obtain ⟨y, hy, e⟩ := List.mem_map.1 ha
  exact fun e' => hk y hy (e.trans e')
 ·rcases List.mem_append.1 hx with hx | hx
  ·exact h.b0.2.2 x hx
  ·simp only [List.mem_cons, List.not_mem_nil, or_false] at hx
   subst hx
   exact hb0
set_option maxHeartbeats 2000000 in
theorem push_any (n0 : Lim) (c mb : Nat) (ns : List Nd) (k : ByteArray) (s : Int) (w : World) (h : Chn w n0 c mb ns) (hks : k.size ≤ maxLen) (hk : ∀ x ∈ ns, x.2.1 ≠ k) (hc : ns.length < maxLen) :
  Calls Tryz.prog 79 #[ptr c, .string k, .int .i64 s] w fun e w' => e = .returned (.tuple #[]) ∧ Chn w' n0 c mb (ns ++ [(w.heap.size, k, s)]) ∧ RG [183, 180] mb n0 w w' := by
 obtain ⟨xs, p, hxp⟩ := list_last c (ns.map (·.1))
 have hpm : p = c ∨ ∃ x ∈ ns, x.1 = p := by
  have : p ∈ c :: ns.map (·.1) := by rw [hxp]; simp
  simp only [List.mem_cons, List.mem_map] at this
  exact this
 have hring := h.ring
 rw [show c :: (ns.map (·.1) ++ [c]) = xs ++ p :: c :: [] by rw [← List.cons_append, hxp, List.append_assoc]; rfl] at hring
 have hl := links_next hring
 obtain ⟨rp, rn, hrb⟩ := h.root
 have hp3 := hl.1
 have hc2 := hl.2
 have hc4 := hrb.cell 4
 have hn0 : n0.lo ≤ w.heap.size := h.hz
 have hmb0 := h.b0.2.1
 have H := Lib.hid h
 have HXP := Lib.hid hxp
 have HFN : Hid (∀ x ∈ ns, x.1 ≠ w.heap.size) := fun x hx => Nat.ne_of_lt (h.node x hx).lt
 have HPM := Lib.hid hpm
 clear hring hl hpm hxp h
 go_enter Tryz.func79, Tryz.ntmps79
 go_wp2_with fail
 refine wp_region_plan (.take 0 (.take 1 (.take 2 (.take 3 (.take 4 (.take 5 (.take 6 (.take 7 (.take 8 (.take 9 (.take 10 (.eff 11 (.take 12 .nil))))))))))))) (fun w' => Below w.heap.size w w') (by kernel_rfl) (by kernel_rfl) (fun _ _ _ _ _ h => h) (by kernel_rfl) (by kernel_rfl) ?_ ?_
 ·exact (Below.refl _ _).drew
 iterate 11 (first | (apply seqP_skip; (focus (simp only [List.getElem?_toArray, List.getElem?_cons_succ, List.getElem?_cons_zero]; rfl)); (focus rfl); simp only [Act.put, List.setIfInBounds_toArray, List.set_cons_zero, List.set_cons_succ]) | (apply seqP_take; (focus (simp only [List.getElem?_toArray, List.getElem?_cons_succ, List.getElem?_cons_zero]; rfl)); (focus rfl); (focus (intro w' hS; have c2' := (hS.cell (p := ⟨c, 2, none⟩) hrb.lt).trans hc2; first | (go_simp; rfl) | (go_simp; done))); simp only [Act.put, List.setIfInBounds_toArray, List.set_cons_zero, List.set_cons_succ]))
 apply seqP_eff
 (focus (simp only [List.getElem?_toArray, List.getElem?_cons_succ, List.getElem?_cons_zero]; rfl))
 (focus rfl)
 intro K hK
 go_simp
 have hA : Below w.heap.size w (w.alloc (.cells #[.string k, .int .i64 s, ptr p, ptr c] 180)).drew := ((Below.refl _ w).alloc (Nat.le_refl _) _).drew
 have hN : Blk (w.alloc (.cells #[.string k, .int .i64 s, ptr p, ptr c] 180)).drew w.heap.size 180 #[.string k, .int .i64 s, ptr p, ptr c] := (Blk.new w _ _).drew
 have HC1 := Lib.hid (H.out.below hA)
 have hz1 : (w.alloc (.cells #[.string k, .int .i64 s, ptr p, ptr c] 180)).drew.heap.size = w.heap.size + 1 := World.size_alloc ..
 refine hK _ _ ⟨hA, ?_⟩
 clear hK K
 iterate 1 (first | (apply seqP_skip; (focus (simp only [List.getElem?_toArray, List.getElem?_cons_succ, List.getElem?_cons_zero]; rfl)); (focus rfl); simp only [Act.put, List.setIfInBounds_toArray, List.set_cons_zero, List.set_cons_succ]) | (apply seqP_take; (focus (simp only [List.getElem?_toArray, List.getElem?_cons_succ, List.getElem?_cons_zero]; rfl)); (focus rfl); (focus (intro w' hS; skip; first | (go_simp; rfl) | (go_simp; done))); simp only [Act.put, List.setIfInBounds_toArray, List.set_cons_zero, List.set_cons_succ]))
 refine seqP_nil ?_
 go_wp2_with fail
 obtain ⟨b, hb⟩ : ∃ b, b = w.heap.size := ⟨_, rfl⟩
 rw [← hb] at hN HFN hz1 ⊢
 have HB := Lib.hid hb
 clear hb
 generalize (w.alloc (.cells #[.string k, .int .i64 s, ptr p, ptr c] 180)).drew = W1 at *
 have b2 := hN.cell 2
 have b3 := hN.cell 3
 have cp : Cel W1 n0 p := HC1.out.cel HPM.out
 have cc : Cel W1 n0 c := HC1.out.cel (.inl rfl)
 have fp := cp.frozen 3
 have fc := cc.frozen 2
 have hrb1 : W1.cell? ⟨c, 4, none⟩ = some (.map (some mb)) := by obtain ⟨_, _, hr⟩ := HC1.out.root; exact hr.cell 4
 have hpb : p ≠ b := by
  rcases HPM.out with rfl | ⟨x, hx, rfl⟩
  ·intro e
   have := hrb.lt
   have := HB.out
   omega
  ·exact HFN.out x hx
 have hcb : c ≠ b := by
  intro e
  have := hrb.lt
  have := HB.out
  omega
 have hp31 : ∃ v, W1.cell? ⟨p, 3, none⟩ = some v := by
  obtain ⟨_, t, cs, hbk, _, hsz⟩ := cp
  exact ⟨_, (hbk.cell 3).trans (Array.getElem?_eq_getElem (by omega))⟩
 have hc21 : ∃ v, W1.cell? ⟨c, 2, none⟩ = some v := by
  obtain ⟨_, _, hr⟩ := HC1.out.root
  exact ⟨_, hr.cell 2⟩
 obtain ⟨vp, hp31⟩ := hp31
 obtain ⟨vc, hc21⟩ := hc21
 have n3 := Lib.hid (fun (W : World) (u : Value) => cell_set_ne W b p 3 2 u (.inr (by decide)))
 have n4 := Lib.hid (fun (W : World) (u : Value) => cell_set_ne W b p 3 3 u (.inl (Ne.symm hpb)))
 have n5 := Lib.hid (fun (W : World) (u : Value) => cell_set_ne W b c 2 2 u (.inl (Ne.symm hcb)))
 have n6 := Lib.hid (fun (W : World) (u : Value) => cell_set_ne W b c 2 3 u (.inr (by decide)))
 have CP := Lib.hid cp
 have CC := Lib.hid cc
 have HN := Lib.hid hN
 have hn01 : n0.lo ≤ W1.heap.size := by have := HB.out; omega
 clear hN hpb hcb cp cc hrb hc2 hp3 hc4 HPM
 refine wp_region_plan (.take 0 (.take 1 (.take 2 (.take 3 (.take 4 (.take 5 (.take 6 (.take 7 (.take 8 (.take 9 (.take 10 (.take 11 (.eff 12 (.take 13 (.take 14 (.eff 15 .nil)))))))))))))))) (fun w' => w'.cell? ⟨b, 2, none⟩ = some (ptr p) ∧ w'.cell? ⟨b, 3, none⟩ = some (ptr c)) (by kernel_rfl) (by kernel_rfl) (fun _ _ _ _ _ h => h) (by kernel_rfl) (by kernel_rfl) ?_ ?_
 ·exact ⟨b2, b3⟩
 iterate 12 (first | (apply seqP_skip; (focus (simp only [List.getElem?_toArray, List.getElem?_cons_succ, List.getElem?_cons_zero]; rfl)); (focus rfl); simp only [Act.put, List.setIfInBounds_toArray, List.set_cons_zero, List.set_cons_succ]) | (apply seqP_take; (focus (simp only [List.getElem?_toArray, List.getElem?_cons_succ, List.getElem?_cons_zero]; rfl)); (focus rfl); (focus (intro w' hS; obtain ⟨s2, s3⟩ := hS; first | (go_simp; rfl) | (go_simp; done))); simp only [Act.put, List.setIfInBounds_toArray, List.set_cons_zero, List.set_cons_succ]))
 apply seqP_eff
 (focus (simp only [List.getElem?_toArray, List.getElem?_cons_succ, List.getElem?_cons_zero]; rfl))
 (focus rfl)
 intro K hK
 go_simp
 refine hK _ _ ⟨⟨(n3.out _ _).trans b2, (n4.out _ _).trans b3⟩, ?_⟩
 clear hK K
 iterate 2 (first | (apply seqP_skip; (focus (simp only [List.getElem?_toArray, List.getElem?_cons_succ, List.getElem?_cons_zero]; rfl)); (focus rfl); simp only [Act.put, List.setIfInBounds_toArray, List.set_cons_zero, List.set_cons_succ]) | (apply seqP_take; (focus (simp only [List.getElem?_toArray, List.getElem?_cons_succ, List.getElem?_cons_zero]; rfl)); (focus rfl); (focus (intro w' hS; obtain ⟨s2, s3⟩ := hS; first | (go_simp; rfl) | (go_simp; done))); simp only [Act.put, List.setIfInBounds_toArray, List.set_cons_zero, List.set_cons_succ]))
 apply seqP_eff
 (focus (simp only [List.getElem?_toArray, List.getElem?_cons_succ, List.getElem?_cons_zero]; rfl))
 (focus rfl)
 intro K hK
 have c2' := (cell_set_ne W1.drew c p 3 2 (ptr b) (.inr (by decide))).trans hc21
 have f2' := (CC.out.set_ p 3 (ptr b)).frozen 2
 change (W1.drew.setCell ⟨p, 3, none⟩ (ptr b)).frozen? _ = _ at f2'
 go_simp
 refine hK _ _ ⟨⟨((n5.out _ _).trans (n3.out _ _)).trans b2, ((n6.out _ _).trans (n4.out _ _)).trans b3⟩, ?_⟩
 clear hK K c2' f2'
 refine seqP_nil ?_
 have hT : Two n0 W1 ((W1.setCell ⟨p, 3, none⟩ (ptr b)).setCell ⟨c, 2, none⟩ (ptr b)).drew p c (ptr b) (ptr b) := Two.drewL (Two.ab (W := W1.drew) CP.out CC.out (ptr b) (ptr b))
 generalize ((W1.setCell ⟨p, 3, none⟩ (ptr b)).setCell ⟨c, 2, none⟩ (ptr b)).drew = W5 at hT ⊢
 have c5 := (hT.oth c 4 (by decide) (by decide)).trans hrb1
 have HM5 := Lib.hid (hT.mp _ _ _ _ HC1.out.mp)
 have HT := Lib.hid hT
 clear hT
 go_wp2_with (at_mapUpdate; go_must (refine wpList_upd rfl (.tmp 36) (.tmp 37) (.tmp 38) rfl rfl HM5.out Tryz.underlying9 Tryz.underlying181 k (ptr b) rfl rfl hks hc ?_); intro w6 hm6 hg6)
 refine Great.bodyPost_end0 rfl rfl ⟨rfl, ?_, ?_⟩
 ·rw [← HB.out]
  rw [atF_none hk] at hm6
  exact HC1.out.pushed hk (.inl (by have := HB.out; omega)) HN.out HFN.out HXP.out HT.out hm6 hg6
 ·have hRA : RG [183, 180] mb n0 w W1 := RG.of_below hA hn0
  exact (hRA.trans (HT.out.rf mb)).grown hg6 (by rw [HT.out.sz]; exact hn01) (fun j hj => by cases hj; exact ⟨hmb0, by obtain ⟨es, ck, hm⟩ := HM5.out.isMapObj; exact ⟨_, hm, by simp [okG]⟩⟩)
theorem newChain_any (w : World) : Calls Tryz.prog 111 #[] w fun e w' => ∃ c mb, e = .returned (ptr c) ∧ Chn w' w.heap.size c mb [] ∧ Below w.heap.size w w' := by
 have hmm := @run_makeMap Tryz.prog
 have hm0 := (MapS.made w Tryz.prog 9).alloc (.cells #[.string ByteArray.empty, .int .i64 0, .pointer none, .pointer none, .map (some w.heap.size)] 183)
 have hN : Blk ((w.alloc (.map #[] 0)).alloc (.cells #[.string ByteArray.empty, .int .i64 0, .pointer none, .pointer none, .map (some w.heap.size)] 183)) (w.heap.size + 1) 183 #[.string ByteArray.empty, .int .i64 0, .pointer none, .pointer none, .map (some w.heap.size)] := by
  have := Blk.new (w.alloc (.map #[] 0)) 183 #[.string ByteArray.empty, .int .i64 0, .pointer none, .pointer none, .map (some w.heap.size)]
  rwa [World.size_alloc] at this
 have hA : Below w.heap.size w ((w.alloc (.map #[] 0)).alloc (.cells #[.string ByteArray.empty, .int .i64 0, .pointer none, .pointer none, .map (some w.heap.size)] 183)) := ((Below.refl _ w).alloc (Nat.le_refl _) _).alloc (by simp) _
 go_enter Tryz.func111, Tryz.ntmps111
 go_wp2_with fail
 obtain ⟨mb, hmb⟩ : ∃ mb, mb = w.heap.size := ⟨_, rfl⟩
 change Code.wp _ _ _ _ ((w.alloc (.map #[] 0)).alloc (.cells #[.string ByteArray.empty, .int .i64 0, .pointer none, .pointer none, .map (some w.heap.size)] 183))
 generalize (w.alloc (.map #[] 0)).alloc (.cells #[.string ByteArray.empty, .int .i64 0, .pointer none, .pointer none, .map (some w.heap.size)] 183) = W1 at hm0 hN hA ⊢
 rw [← hmb] at hm0 hN ⊢
 have HMB := Lib.hid hmb
 clear hmb
 obtain ⟨c, hc⟩ : ∃ c, c = mb + 1 := ⟨_, rfl⟩
 rw [← hc] at hN ⊢
 have HC := Lib.hid hc
 clear hc
 have c2 := hN.cell 2
 have c3 := hN.cell 3
 have f2 := hN.frozen 2
 have f3 := hN.frozen 3
 refine wp_region_plan (.take 0 (.take 1 (.take 2 (.take 3 (.take 4 (.take 5 (.take 6 (.take 7 (.take 8 (.take 9 (.take 10 (.eff 11 (.take 12 (.take 13 (.take 14 (.eff 15 .nil)))))))))))))))) (fun w' => True) (by kernel_rfl) (by kernel_rfl) (fun _ _ _ _ _ h => h) (by kernel_rfl) (by kernel_rfl) ?_ ?_
 ·trivial
 iterate 11 (first | (apply seqP_skip; (focus (simp only [List.getElem?_toArray, List.getElem?_cons_succ, List.getElem?_cons_zero]; rfl)); (focus rfl); simp only [Act.put, List.setIfInBounds_toArray, List.set_cons_zero, List.set_cons_succ]) | (apply seqP_take; (focus (simp only [List.getElem?_toArray, List.getElem?_cons_succ, List.getElem?_cons_zero]; rfl)); (focus rfl); (focus (intro w' hS; skip; first | (go_simp; rfl) | (go_simp; done))); simp only [Act.put, List.setIfInBounds_toArray, List.set_cons_zero, List.set_cons_succ]))
 apply seqP_eff
 (focus (simp only [List.getElem?_toArray, List.getElem?_cons_succ, List.getElem?_cons_zero]; rfl))
 (focus rfl)
 intro K hK
 go_simp
 refine hK _ _ ⟨trivial, ?_⟩
 clear hK K
 iterate 3 (first | (apply seqP_skip; (focus (simp only [List.getElem?_toArray, List.getElem?_cons_succ, List.getElem?_cons_zero]; rfl)); (focus rfl); simp only [Act.put, List.setIfInBounds_toArray, List.set_cons_zero, List.set_cons_succ]) | (apply seqP_take; (focus (simp only [List.getElem?_toArray, List.getElem?_cons_succ, List.getElem?_cons_zero]; rfl)); (focus rfl); (focus (intro w' hS; skip; first | (go_simp; rfl) | (go_simp; done))); simp only [Act.put, List.setIfInBounds_toArray, List.set_cons_zero, List.set_cons_succ]))
 apply seqP_eff
 (focus (simp only [List.getElem?_toArray, List.getElem?_cons_succ, List.getElem?_cons_zero]; rfl))
 (focus rfl)
 intro K hK
 have hN1 : Blk (W1.drew.setCell ⟨c, 2, none⟩ (ptr c)) c 183 #[.string ByteArray.empty, .int .i64 0, ptr c, .pointer none, .map (some mb)] := hN.drew.set_ 2 (ptr c)
 have d3 := hN1.cell 3
 have g3 := hN1.frozen 3
 change (W1.drew.setCell ⟨c, 2, none⟩ (ptr c)).cell? _ = _ at d3
 go_simp
 refine hK _ _ ⟨trivial, ?_⟩
 clear hK K
 refine seqP_nil ?_
 have hN2 : Blk (((W1.setCell ⟨c, 2, none⟩ (ptr c)).setCell ⟨c, 3, none⟩ (ptr c))).drew c 183 #[.string ByteArray.empty, .int .i64 0, ptr c, ptr c, .map (some mb)] := (hN1.set_ 3 (ptr c))
 have hm2 : MapS Tryz.prog ((W1.setCell ⟨c, 2, none⟩ (ptr c)).setCell ⟨c, 3, none⟩ (ptr c)).drew 9 mb (fun _ => none) 0 := ((hm0.drew.setCell hN.drew (ptr c)).setCell hN1 (ptr c))
 have hA2 : Below w.heap.size w ((W1.setCell ⟨c, 2, none⟩ (ptr c)).setCell ⟨c, 3, none⟩ (ptr c)).drew := ((hA.setCell (p := ⟨c, 2, none⟩) (by have := HC.out; have := HMB.out; show w.heap.size ≤ c; omega) (ptr c)).setCell (p := ⟨c, 3, none⟩) (by have := HC.out; have := HMB.out; show w.heap.size ≤ c; omega) (ptr c)).drew
 clear d3 g3 c2 c3 f2 f3 hN hN1 hm0 hA
 generalize ((W1.setCell ⟨c, 2, none⟩ (ptr c)).setCell ⟨c, 3, none⟩ (ptr c)).drew = W2 at hN2 hm2 hA2 ⊢
 go_wp2_with fail
 go_ret
 refine ⟨c, mb, rfl, ⟨⟨_, _, hN2⟩, (by intro x hx; cases hx), ⟨⟨hN2.cell 3, hN2.cell 2⟩, trivial⟩, List.nodup_nil, List.nodup_nil, hm2, ⟨.inl ?_, .inl ?_, (by intro x hx; cases hx)⟩, hA2.size⟩, hA2⟩
 ·have := HC.out; have := HMB.out; show w.heap.size ≤ _; omega
 ·have := HMB.out; show w.heap.size ≤ _; omega
set_option maxRecDepth 20000
def usedOf (ns : List Nd) : Int := (ns.map (·.2.2)).sum
theorem usedOf_app (a b : List Nd) : usedOf (a ++ b) = usedOf a + usedOf b := by simp [usedOf]
theorem usedOf_cons (x : Nd) (b : List Nd) : usedOf (x :: b) = x.2.2 + usedOf b := by simp [usedOf]
theorem usedOf_len {ns : List Nd} (h : ∀ x ∈ ns, 1 ≤ x.2.2) : (ns.length : Int) ≤ usedOf ns := by
 induction ns with
 | nil => simp [usedOf]
 | cons x ns ih =>
  rw [usedOf_cons, List.length_cons]
  have h1 := h x (by simp)
  have h2 := ih (fun y hy => h y (by simp [hy]))
  omega
structure RowS (w : World) (n0 : Lim) (p : Nat) (room : Int) (c mb : Nat) (ns : List Nd) : Prop where
 blk : Blk w p 135 #[.int .i64 room, .int .i64 (usedOf ns), ptr c]
 p0 : n0.ok p
 ch : Chn w n0 c mb ns
 rm : 1 ≤ room ∧ room ≤ 1000000
 sz : ∀ x ∈ ns, 1 ≤ x.2.2
 us : usedOf ns ≤ room
 ks : ∀ x ∈ ns, x.2.1.size ≤ maxLen
abbrev RX : List TypeId := [183, 180]
abbrev RY : List TypeId := [135, 183, 180]
theorem RG.toY {mb : Nat} {n0 : Lim} {w w' : World} (h : RG RX mb n0 w w') : RG RY mb n0 w w' := h.mono (fun t ht => by
 simp only [List.contains_cons, List.contains_nil, Bool.or_false, Bool.or_eq_true] at ht ⊢
 exact .inr ht)
section
variable {w w' : World} {n0 : Lim} {p c mb : Nat} {room : Int} {ns : List Nd}
theorem RowS.keptT {row : Option Nat} (h : RowS w n0 p room c mb ns) (hg : w.grownBy w' row) (hrow : ∀ k, row = some k → ∃ cs t fr, w.heap[k]? = some (.cells cs t fr) ∧ t ≠ 135 ∧ t ≠ 183 ∧ t ≠ 180) : RowS w' n0 p room c mb ns :=
 ⟨Blk.keptR h.blk hg (fun e => by
  obtain ⟨cs, t, fr, hh, h1, _⟩ := hrow p e.symm
  have hb := h.blk
  unfold Blk at hb
  rw [hh] at hb
  injection hb with hb
  injection hb with _ hb
  exact h1 hb), h.p0, h.ch.keptT hg (fun k hk => by obtain ⟨cs, t, fr, hh, _, h2⟩ := hrow k hk; exact ⟨cs, t, fr, hh, h2⟩), h.rm, h.sz, h.us, h.ks⟩
theorem RowS.below (h : RowS w n0 p room c mb ns) (hb : Below w.heap.size w w') : RowS w' n0 p room c mb ns := ⟨h.blk.below hb h.blk.lt, h.p0, h.ch.below hb, h.rm, h.sz, h.us, h.ks⟩
theorem RowS.drew (h : RowS w n0 p room c mb ns) : RowS w.drew n0 p room c mb ns := ⟨h.blk.drew, h.p0, h.ch.drew, h.rm, h.sz, h.us, h.ks⟩
theorem RowS.alloc (h : RowS w n0 p room c mb ns) (o : Obj) : RowS (w.alloc o) n0 p room c mb ns := ⟨h.blk.alloc o, h.p0, h.ch.alloc o, h.rm, h.sz, h.us, h.ks⟩
theorem RowS.n0w (h : RowS w n0 p room c mb ns) : n0.lo ≤ w.heap.size := h.ch.hz
theorem RowS.len (h : RowS w n0 p room c mb ns) : ns.length ≤ 1000000 := by
 have h1 := usedOf_len h.sz
 have h2 := h.us
 have h3 := h.rm.2
 omega
end
set_option maxHeartbeats 1000000 in
theorem drop_some (n0 : Lim) (p c mb b : Nat) (room : Int) (l r : List Nd) (k : ByteArray) (s : Int) (w : World) (h : RowS w n0 p room c mb (l ++ (b, k, s) :: r)) :
  Calls Tryz.prog 72 #[ptr p, .string k] w fun e w' => e = .returned (.int .i64 0) ∧ RowS w' n0 p room c mb (l ++ r) ∧ RG RY mb n0 w w' ∧ w'.cell? ⟨b, 3, none⟩ = w.cell? ⟨b, 3, none⟩ := by
 have hks := h.ks (b, k, s) (by simp)
 have p2 := h.blk.cell 2
 have hs1 : 1 ≤ s := h.sz (b, k, s) (by simp)
 have hul := usedOf_len h.sz
 have hus := h.us
 have hrm := h.rm.2
 have hue : usedOf (l ++ (b, k, s) :: r) = usedOf (l ++ r) + s := by rw [usedOf_app, usedOf_app, usedOf_cons]; dsimp only; omega
 have hul2 : 0 ≤ usedOf (l ++ r) := by
  have := usedOf_len (ns := l ++ r) (fun x hx => h.sz x (by
   rcases List.mem_append.1 hx with hx | hx
   ·exact List.mem_append_left _ hx
   ·exact List.mem_append_right _ (List.mem_cons_of_mem _ hx)))
  omega
 have hwr : IntKind.i64.wrap (usedOf (l ++ (b, k, s) :: r) - s) = usedOf (l ++ r) := by rw [IntKind.wrap_i64]; omega
 have HW := Lib.hid hwr
 have HUE := Lib.hid hue
 have H := Lib.hid h
 clear hwr hue h
 go_enter Tryz.func72, Tryz.ntmps72
 go_wp2_with fail
 refine (take_some n0 c mb b l r k s w H.out.ch hks).mono ?_
 rintro e w1 ⟨rfl, hc1, rf1, hb3⟩
 have hP1 := H.out.blk.rf rf1.toRF (by decide)
 have p1 := hP1.cell 1
 have f1 := hP1.frozen 1
 have hnb : p ≠ b := by
  intro e
  obtain ⟨_, _, hb⟩ := H.out.ch.node (b, k, s) (by simp)
  have hbl := H.out.blk
  rw [e] at hbl
  unfold Blk at hb hbl
  rw [hbl] at hb
  injection hb with hb
  injection hb with _ hb
  revert hb
  decide
 have hwr := HW.out
 have hP2 := hP1.set_ 1 (.int .i64 (usedOf (l ++ r)))
 have hC2 : Chn (w1.setCell ⟨p, 1, none⟩ (.int .i64 (usedOf (l ++ r)))) n0 c mb (l ++ r) := hc1.keptT (row := some p) ⟨rfl, rfl, rfl, by simp [World.setCell], fun k _ hne => Below.heap_setCell _ _ _ _ (fun e => hne (by rw [e]))⟩ (fun j hj => by cases hj; exact ⟨_, _, _, hP1, by decide, by decide⟩)
 have hR2 : RG RY mb n0 w (w1.setCell ⟨p, 1, none⟩ (.int .i64 (usedOf (l ++ r)))) := rf1.toY.set_ hP1 H.out.p0 (by decide) _
 have hb32 : (w1.setCell ⟨p, 1, none⟩ (.int .i64 (usedOf (l ++ r)))).cell? ⟨b, 3, none⟩ = w.cell? ⟨b, 3, none⟩ := (cell_set_ne w1 b p 1 3 _ (.inl (Ne.symm hnb))).trans hb3
 have HX : Hid (RowS (w1.setCell ⟨p, 1, none⟩ (.int .i64 (usedOf (l ++ r)))) n0 p room c mb (l ++ r) ∧ RG RY mb n0 w (w1.setCell ⟨p, 1, none⟩ (.int .i64 (usedOf (l ++ r)))) ∧ (w1.setCell ⟨p, 1, none⟩ (.int .i64 (usedOf (l ++ r)))).cell? ⟨b, 3, none⟩ = w.cell? ⟨b, 3, none⟩) := by
  have hsub : ∀ x ∈ l ++ r, x ∈ l ++ (b, k, s) :: r := fun x hx => by
   rcases List.mem_append.1 hx with hx | hx
   ·exact List.mem_append_left _ hx
   ·exact List.mem_append_right _ (List.mem_cons_of_mem _ hx)
  exact ⟨⟨hP2, H.out.p0, hC2, H.out.rm, fun x hx => H.out.sz x (hsub x hx), by have := H.out.us; have := HUE.out; omega, fun x hx => H.out.ks x (hsub x hx)⟩, hR2, hb32⟩
 clear hb3 hb32 hR2 hC2 hP2 hnb hP1 rf1 hc1 hul hus hrm hul2 p2
 generalize usedOf (l ++ r) = U at *
 generalize usedOf (l ++ (b, k, s) :: r) = U1 at *
 go_wp2_with fail
 go_ret
 exact ⟨rfl, HX.out⟩
theorem drop_none (n0 : Lim) (p c mb : Nat) (room : Int) (ns : List Nd) (k : ByteArray) (w : World) (h : RowS w n0 p room c mb ns) (hks : k.size ≤ maxLen) (hk : ∀ x ∈ ns, x.2.1 ≠ k) :
  Calls Tryz.prog 72 #[ptr p, .string k] w fun e w' => e = .returned (.int .i64 4) ∧ w = w' := by
 have p2 := h.blk.cell 2
 have H := Lib.hid h
 clear h
 go_enter Tryz.func72, Tryz.ntmps72
 go_wp2_with fail
 refine (take_none n0 c mb ns k w H.out.ch hks hk).mono ?_
 rintro e w1 ⟨rfl, rfl⟩
 go_wp2_with fail
 go_ret
 exact ⟨rfl, rfl⟩
theorem not_key {l r : List Nd} {b : Nat} {k : ByteArray} {s : Int} (h : ((l ++ (b, k, s) :: r).map (·.2.1)).Nodup) : ∀ x ∈ l ++ r, x.2.1 ≠ k := by
 rw [List.map_append, List.map_cons, List.nodup_append] at h
 obtain ⟨h1, h2, h3⟩ := h
 intro y hy
 rcases List.mem_append.1 hy with hy | hy
 ·exact h3 y.2.1 (List.mem_map.2 ⟨y, hy, rfl⟩) k (by simp)
 ·intro e
  exact (List.nodup_cons.1 h2).1 (List.mem_map.2 ⟨y, hy, e⟩)
set_option maxHeartbeats 1000000 in
theorem touch_some (n0 : Lim) (p c mb b : Nat) (room : Int) (l r : List Nd) (k : ByteArray) (s : Int) (w : World) (h : RowS w n0 p room c mb (l ++ (b, k, s) :: r)) :
  Calls Tryz.prog 40 #[ptr p, .string k] w fun e w' => e = .returned (.bool true) ∧ (∃ b', RowS w' n0 p room c mb (l ++ r ++ [(b', k, s)])) ∧ RG RY mb n0 w w' := by
 have hks := h.ks (b, k, s) (by simp)
 have hnk := not_key h.ch.kd
 have p2 := h.blk.cell 2
 have H := Lib.hid h
 have hlen := h.len
 clear h
 go_enter Tryz.func40, Tryz.ntmps40
 go_wp2_with fail
 refine (take_some n0 c mb b l r k s w H.out.ch hks).mono ?_
 rintro e w1 ⟨rfl, hc1, rf1, hb3⟩
 have hP1 := H.out.blk.rf rf1.toRF (by decide)
 have p21 := hP1.cell 2
 clear hb3
 go_wp2_with fail
 refine (push_any n0 c mb (l ++ r) k s w1 hc1 hks hnk (by simp only [maxLen]; simp at hlen ⊢; omega)).mono ?_
 rintro e w2 ⟨rfl, hc2, rf2⟩
 have hP2 := hP1.rf rf2.toRF (by decide)
 have HR := Lib.hid (rf1.trans rf2).toY
 have HX : Hid (RowS w2 n0 p room c mb (l ++ r ++ [(w1.heap.size, k, s)])) := by
  have hue : usedOf (l ++ r ++ [(w1.heap.size, k, s)]) = usedOf (l ++ (b, k, s) :: r) := by rw [usedOf_app, usedOf_app, usedOf_app, usedOf_cons, usedOf_cons]; simp [usedOf]; omega
  have hsub : ∀ (P : Nd → Prop), (∀ x ∈ l ++ (b, k, s) :: r, P x) → (∀ b', P (b, k, s) → P (b', k, s)) → ∀ x ∈ l ++ r ++ [(w1.heap.size, k, s)], P x := by
   intro P h1 h2 x hx
   rcases List.mem_append.1 hx with hx | hx
   ·refine h1 x ?_
    rcases List.mem_append.1 hx with hx | hx
    ·exact List.mem_append_left _ hx
    ·exact List.mem_append_right _ (List.mem_cons_of_mem _ hx)
   ·simp only [List.mem_cons, List.not_mem_nil, or_false] at hx
    subst hx
    exact h2 _ (h1 _ (by simp))
  exact ⟨by rw [hue]; exact hP2, H.out.p0, hc2, H.out.rm, hsub (fun x => 1 ≤ x.2.2) H.out.sz (fun _ h => h), by rw [hue]; exact H.out.us, hsub (fun x => x.2.1.size ≤ maxLen) H.out.ks (fun _ h => h)⟩
 clear hP1 hP2 p21 hc1 hc2 rf1 rf2
 go_wp2_with fail
 go_ret
 exact ⟨rfl, ⟨_, HX.out⟩, HR.out⟩
theorem newRow_any (room : Int) (w : World) (h1 : 1 ≤ room) (h2 : room ≤ 1000000) :
  Calls Tryz.prog 68 #[.int .i64 room] w fun e w' => ∃ p c mb, e = .returned (.tuple #[ptr p, .int .i64 0]) ∧ RowS w' w.heap.size p room c mb [] ∧ Below w.heap.size w w' := by
 go_enter Tryz.func68, Tryz.ntmps68
 go_wp2_with fail
 refine (newChain_any _).mono ?_
 rintro e w1 ⟨c, mb, rfl, hc, b1⟩
 have HC := Lib.hid hc
 have HB := Lib.hid b1
 clear hc b1
 go_wp2_with fail
 go_ret2
 have hn := HB.out.size
 refine ⟨w1.heap.size, c, mb, rfl, ⟨Blk.new w1 _ _, .inl hn, HC.out.alloc _, ⟨h1, h2⟩, (by intro x hx; cases hx), (by simp [usedOf]; omega), (by intro x hx; cases hx)⟩, HB.out.alloc hn _⟩
def Buf (w : World) (g : Nat) (l : List UInt8) : Prop := g < w.heap.size ∧ ∀ j (hj : j < l.length), w.cell? ⟨g, j, none⟩ = some (bv l[j]) ∧ w.frozen? ⟨g, j, none⟩ = false
theorem Buf.cell {w : World} {g : Nat} {l : List UInt8} (h : Buf w g l) (j : Nat) (hj : j < l.length) : w.cell? ⟨g, j, none⟩ = some (bv l[j]) := (h.2 j hj).1
theorem Buf.free {w : World} {g : Nat} {l : List UInt8} (h : Buf w g l) (j : Nat) (hj : j < l.length) : w.frozen? ⟨g, j, none⟩ = false := (h.2 j hj).2
theorem Buf.put {w : World} {g : Nat} {l : List UInt8} (h : Buf w g l) (i : Nat) (hi : i < l.length) (c : UInt8) : Buf (w.setCell ⟨g, i, none⟩ (bv c)) g (l.set i c) := by
 refine ⟨by simpa using h.1, fun j hj => ?_⟩
 rw [List.length_set] at hj
 refine ⟨?_, by rw [World.frozen?_setCell]; exact h.free j hj⟩
 by_cases e : i = j
 ·subst e
  rw [World.cell?_setCell_same _ _ _ (h.cell i hi)]
  simp
 ·rw [World.cell?_setCell_other _ _ _ _ (by intro h; injection h with _ h2 _; exact e h2), h.cell j hj]
  simp [e]
section
variable {P : Program}
theorem buf_new (w : World) (e : TypeId) (s : ByteArray) (cap : Nat) (fr : Nat × Nat) (h0 : s.size ≤ fr.1) : Buf (w.drew.alloc (.cells (bytesRow s cap) e fr)) w.heap.size (sl s) := by
 refine ⟨by simp, fun j hj => ?_⟩
 have hj' : j < s.size := by rwa [sl_len] at hj
 have hh : (w.drew.alloc (.cells (bytesRow s cap) e fr)).heap[w.heap.size]? = some (.cells (bytesRow s cap) e fr) := heap_alloc_new w.drew _
 constructor
 ·rw [cell_of_row _ _ j _ _ _ hh]
  simp [bytesRow, sl, bv, Array.getElem?_append, hj']
 ·simp only [World.frozen?, hh]
  simp
  omega
theorem wpList_to_bytes {ops : Array Oper} {rest : List Oper} {o : Oper} {a : Act} {Q : Exit → Act → World → Prop} {w : World} (hgd : o.guard = none) (x : Operand) (src dst e : TypeId)
  (ho : o.op = .convert src dst x) (hs : P.underlying src = some .string) (hd : P.underlying dst = some (.slice e)) (he : P.underlying e = some (.int .u8)) (s : ByteArray) (hx : a.eval x = .string s)
  (h : ∀ c w1, s.size ≤ c → Buf w1 w.heap.size (sl s) → Below w.heap.size w w1 → w1.heap.size = w.heap.size + 1 → wpList P ops Q rest (a.put o.dst (.slice (some ⟨w.heap.size, 0, none⟩) s.size c)) w1) : wpList P ops Q (o :: rest) a w := by
 refine wpList_plain hgd fun K hK => ?_
 unfold Oper.wp execOp
 simp only [ho, hx, Sem.run_bind, Result.andThen_ok, run_bytes_of_string w src dst e s hs hd he]
 have hc : s.size ≤ grownCap w s.size 0 e := grownCap_ge _ _ _ _
 refine hK _ _ (h _ _ hc (buf_new w e s _ _ ?_) ((Below.refl _ _).drew.alloc (by simp) _) (by simp))
 simp [bytesRow]
theorem run_string_buf {src dst e : TypeId} (hs : P.underlying src = some (.slice e)) (he : P.underlying e = some (.int .u8)) (hd : P.underlying dst = some .string) {w : World} {g : Nat} {l : List UInt8} (h : Buf w g l) (cap : Nat) :
  (convert src dst (.slice (some ⟨g, 0, none⟩) l.length cap)).run P w = .ok (.string (mkS l)) w := by
 refine run_convert_bytes_back w src dst e ⟨g, 0, none⟩ cap l hs he hd (fun j hj => ?_)
 have e : ((⟨g, 0, none⟩ : Addr).add j) = ⟨g, j, none⟩ := by unfold Addr.add; split <;> simp_all
 rw [e]; exact h.cell j hj
end
set_option maxRecDepth 20000
open Go.RowKit Go.Shelf
structure Pe where
 b : Nat
 n : ByteArray
 t : ByteArray
 c : Int
def pF (es : List Pe) (k : ByteArray) : Option Value := (es.find? (fun x => decide (x.n = k))).map fun x => ptr x.b
def usedP (es : List Pe) : Int := (es.map fun x => (x.t.size : Int)).sum
structure PileS (w : World) (n0 : Lim) (p : Nat) (room : Int) (mb : Nat) (es : List Pe) : Prop where
 blk : Blk w p 129 #[.int .i64 room, .int .i64 (usedP es), .map (some mb)]
 node : ∀ x ∈ es, Blk w x.b 131 #[.string x.t, .int .i64 x.c]
 mp : MapS Tryz.prog w 9 mb (pF es) es.length
 nd : (es.map (·.b)).Nodup
 kd : (es.map (·.n)).Nodup
 b0 : n0.ok p ∧ n0.ok mb ∧ ∀ x ∈ es, n0.ok x.b
 hz : n0.lo ≤ w.heap.size
 rm : 1 ≤ room ∧ room ≤ 1000000
 sz : ∀ x ∈ es, 1 ≤ x.t.size
 us : usedP es ≤ room
section
variable {w w' : World} {n0 : Lim} {p mb : Nat} {room : Int} {es : List Pe}
theorem PileS.below (h : PileS w n0 p room mb es) (hb : Below w.heap.size w w') : PileS w' n0 p room mb es :=
 ⟨h.blk.below hb h.blk.lt, fun x hx => (h.node x hx).below hb (h.node x hx).lt, h.mp.below hb, h.nd, h.kd, h.b0, Nat.le_trans h.hz hb.size, h.rm, h.sz, h.us⟩
theorem PileS.drew (h : PileS w n0 p room mb es) : PileS w.drew n0 p room mb es := ⟨h.blk.drew, fun x hx => (h.node x hx).drew, h.mp.drew, h.nd, h.kd, h.b0, h.hz, h.rm, h.sz, h.us⟩
theorem usedP_len {es : List Pe} (h : ∀ x ∈ es, 1 ≤ x.t.size) : (es.length : Int) ≤ usedP es := by
 induction es with
 | nil => simp [usedP]
 | cons x l ih =>
  have h1 := ih (fun y hy => h y (List.mem_cons_of_mem _ hy))
  have h2 := h x (by simp)
  simp only [usedP, List.map_cons, List.sum_cons, List.length_cons] at h1 ⊢
  omega
theorem PileS.len (h : PileS w n0 p room mb es) : es.length ≤ 1000000 := by
 have h1 := usedP_len h.sz
 have h2 := h.us
 have h3 := h.rm.2
 omega
theorem pF_none {es : List Pe} {k : ByteArray} (h : ∀ x ∈ es, x.n ≠ k) : pF es k = none := by
 unfold pF
 rw [List.find?_eq_none.2 (fun x hx => by simpa using h x hx)]
 rfl
theorem pF_some {es : List Pe} {x : Pe} (hk : (es.map (·.n)).Nodup) (hx : x ∈ es) : pF es x.n = some (ptr x.b) := by
 induction es with
 | nil => cases hx
 | cons y l ih =>
  unfold pF
  rw [List.map_cons, List.nodup_cons] at hk
  rcases List.mem_cons.1 hx with rfl | hx
  ·simp
  ·have hne : ¬ y.n = x.n := fun e => hk.1 (List.mem_map.2 ⟨x, hx, e.symm⟩)
   rw [List.find?_cons_of_neg (by simpa using hne)]
   exact ih hk.2 hx
theorem pe_split (es : List Pe) (k : ByteArray) : (∀ x ∈ es, x.n ≠ k) ∨ ∃ x ∈ es, x.n = k := by
 by_cases h : ∃ x ∈ es, x.n = k
 ·exact .inr h
 ·exact .inl fun x hx e => h ⟨x, hx, e⟩
end
theorem newP_any (room : Int) (w : World) (h1 : 1 ≤ room) (h2 : room ≤ 1000000) :
  Calls Tryz.prog 69 #[.int .i64 room] w fun e w' => ∃ p mb, e = .returned (.tuple #[ptr p, .int .i64 0]) ∧ PileS w' w.heap.size p room mb [] ∧ Below w.heap.size w w' := by
 have hmm := @run_makeMap Tryz.prog
 have hm0 := (MapS.made w Tryz.prog 9).alloc (.cells #[.int .i64 room, .int .i64 0, .map (some w.heap.size)] 129)
 have hN : Blk ((w.alloc (.map #[] 0)).alloc (.cells #[.int .i64 room, .int .i64 0, .map (some w.heap.size)] 129)) (w.heap.size + 1) 129 #[.int .i64 room, .int .i64 0, .map (some w.heap.size)] := by
  have := Blk.new (w.alloc (.map #[] 0)) 129 #[.int .i64 room, .int .i64 0, .map (some w.heap.size)]
  rwa [World.size_alloc] at this
 have hA : Below w.heap.size w ((w.alloc (.map #[] 0)).alloc (.cells #[.int .i64 room, .int .i64 0, .map (some w.heap.size)] 129)) := ((Below.refl _ w).alloc (Nat.le_refl _) _).alloc (by simp) _
 go_enter Tryz.func69, Tryz.ntmps69
 go_wp2_with fail
 go_ret2
 exact ⟨w.heap.size + 1, w.heap.size, by simp, ⟨hN, by simp, hm0, by simp, by simp, ⟨Lim.of_le (by show w.heap.size ≤ _; omega), Lim.of_le (by show w.heap.size ≤ _; omega), by simp⟩, hA.size, ⟨h1, h2⟩, by simp, by simp [usedP]; omega⟩, hA⟩
set_option maxRecDepth 20000
def sumT (l : List Pe) : Nat := (l.map fun x => x.t.size).sum
def flatT (l : List Pe) : List UInt8 := l.flatMap fun x => sl x.t
theorem sumT_snoc (l : List Pe) (x : Pe) : sumT (l ++ [x]) = sumT l + x.t.size := by simp [sumT]
theorem flatT_snoc (l : List Pe) (x : Pe) : flatT (l ++ [x]) = flatT l ++ sl x.t := by simp [flatT]
theorem flatT_len (l : List Pe) : (flatT l).length = sumT l := by
 induction l with
 | nil => rfl
 | cons x l ih => simp only [flatT, sumT, List.flatMap_cons, List.length_append, List.map_cons, List.sum_cons] at ih ⊢; rw [ih, sl_len]
theorem usedP_mem {es : List Pe} {x : Pe} (hx : x ∈ es) : (x.t.size : Int) ≤ usedP es := by
 induction es with
 | nil => cases hx
 | cons y l ih =>
  have hp : 0 ≤ usedP l := by
   clear ih hx
   induction l with
   | nil => simp [usedP]
   | cons z l ih => simp only [usedP, List.map_cons, List.sum_cons] at ih ⊢; omega
  simp only [usedP, List.map_cons, List.sum_cons] at ih hp ⊢
  rcases List.mem_cons.1 hx with rfl | hx
  ·omega
  ·have := ih hx; omega
set_option maxHeartbeats 4000000 in
theorem getP_all (n0 : Lim) (p mb : Nat) (room : Int) (es xs : List Pe) (v : Value) (w : World) (h : PileS w n0 p room mb es) (hx : ∀ x ∈ xs, x ∈ es) (hv : SlR w Go.Proofs.YtgnblkmpoigejaaGreatDoor.es v (xs.map (·.n))) (hl : xs.length ≤ 1048576) (hn : ∀ x ∈ es, x.n.size ≤ maxLen) :
  Calls Tryz.prog 81 #[ptr p, v] w fun e w' => e = .returned (if sumT xs ≤ 5000 then .tuple #[.string (mkS (flatT xs)), .int .i64 0] else .tuple #[.string ByteArray.empty, .int .i64 2]) ∧ Below w.heap.size w w' := by
 have HS := Lib.hid h
 have HX := Lib.hid hx
 have HN := Lib.hid hn
 have hzz : ∀ x ∈ xs, x.t.size ≤ 1000000 := fun x hxx => by have h1 := usedP_mem (hx x hxx); have h2 := h.us; have h3 := h.rm.2; omega
 have hsum : ∀ k, sumT (xs.take k) ≤ 1000000 * k := by
  intro k
  induction k with
  | zero => simp [sumT]
  | succ k ih =>
   rw [List.take_add_one]
   cases hq : xs[k]? with
   | none => simp; omega
   | some y =>
    have hy := hzz y (List.mem_of_getElem? hq)
    simp only [Option.toList_some, sumT_snoc]
    omega
 have HZ := Lib.hid hsum
 have HT := Lib.hid (fun hn => SlR.texts (xs := xs.map (·.n)) hv hn)
 have hml : (xs.map (·.n)).length = xs.length := List.length_map ..
 obtain ⟨A, c, rfl, hc⟩ := SlR.form (xs := xs.map (·.n)) hv
 clear h hx hv hn hsum
 go_enter Tryz.func81, Tryz.ntmps81
 go_wp2_with fail
 rw [hml] at *
 go_loopw [6, 7, 13] (fun bv mv iv wr => ∃ (k : Nat) (L : List UInt8), iv = .int .i64 (k : Int) ∧ k ≤ xs.length ∧ mv = .int .i64 (sumT (xs.take k) : Int) ∧ Owns wr w.heap.size 5 1 eb bv L ∧ L.length ≤ 5000 ∧ (sumT (xs.take k) ≤ 5000 → L = flatT (xs.take k)) ∧ Below w.heap.size w wr) (fun _ _ iv _ => xs.length - (intOf iv).toNat)
 case atStart => exact ⟨0, [], rfl, Nat.zero_le _, rfl, Owns.nil .., by simp, fun _ => rfl, Below.refl _ _⟩
 case round =>
  obtain ⟨k, L, rfl, hk, rfl, how, hL5, hLe, hbel⟩ := hrel
  by_cases hlt : k < xs.length
  ·obtain ⟨bb, off, c3, hv2, hc3, hbb, hcell⟩ := HT.out (by simp; omega)
   injection hv2 with g1 g2 g3
   subst g1 g3
   have c0 := (hbel.cell (p := ⟨bb, off + k, none⟩) hbb).trans (hcell k (by simpa using hlt))
   rw [List.getElem_map] at c0
   have HTK : Hid (xs.take (k + 1) = xs.take k ++ [xs[k]]) := by show _ = _; rw [List.take_add_one, List.getElem?_eq_getElem hlt]; rfl
   have hxe := HX.out xs[k] (List.getElem_mem hlt)
   have hz1 := HZ.out k
   have hz2 := hzz xs[k] (List.getElem_mem hlt)
   clear hcell g2
   generalize xs[k] = x at *
   have hS := HS.out.below hbel
   have p2 := hS.blk.cell 2
   have x0 := (hS.node x hxe).cell 0
   have hlk := hS.mp.look (t := 127) (e := 126) (k := x.n) Tryz.underlying9 Tryz.underlying127 (z := .pointer none) rfl (HN.out x hxe)
   rw [pF_some hS.kd hxe] at hlk
   have HO := Lib.hid how
   obtain ⟨A6, c6, rfl⟩ := how.slice
   have hS1 : IntKind.i64.wrap ((sumT (xs.take k) : Int) + (x.t.size : Int)) = ((sumT (xs.take (k + 1)) : Nat) : Int) := by
    rw [HTK.out, sumT_snoc, IntKind.wrap_i64]; omega
   have hS2 : sumT (xs.take (k + 1)) = sumT (xs.take k) + x.t.size := by rw [HTK.out, sumT_snoc]
   have HS2 := Lib.hid hS2
   by_cases hfit : sumT (xs.take (k + 1)) ≤ 5000
   ·have hd : decide ((sumT (xs.take (k + 1)) : Int) ≤ 5000) = true := by rw [decide_eq_true_iff]; omega
    have hLf := hLe (by omega)
    have hLl : L.length + x.t.size ≤ 5000 := by rw [hLf, flatT_len]; omega
    clear hS2 how hLe
    go_wp2_with (at_builtin; go_must (refine wpList_append_text rfl (.tmp 34) (.tmp 38) _ _ rfl w.heap.size 5 Tryz.underlying106 Tryz.underlying9 byteInfo _ L rfl HO.out x.t rfl (by omega) hbel.size ?_); intro v1 w1 ho1 hg1)
    refine ⟨⟨k + 1, L ++ sl x.t, by simp, by omega, rfl, ho1, by rw [List.length_append, sl_len]; omega, fun _ => by rw [HTK.out, flatT_snoc, hLf], hbel.grown hg1 hbel.size (fun j hj => (HO.out.lt j hj).1)⟩, by simp only [intOf]; omega⟩
   ·have hd : decide ((sumT (xs.take (k + 1)) : Int) ≤ 5000) = false := by rw [decide_eq_false_iff_not]; omega
    clear hS2 how
    go_wp2_with fail
    exact ⟨⟨k + 1, L, by simp, by omega, rfl, HO.out, hL5, fun h => absurd h hfit, hbel⟩, by simp only [intOf]; omega⟩
  ·obtain rfl : k = xs.length := by omega
   have htk : xs.take xs.length = xs := List.take_of_length_le (Nat.le_refl _)
   rw [htk] at hLe ⊢
   by_cases hfit : sumT xs ≤ 5000
   ·have hd : decide ((5000 : Int) < (sumT xs : Int)) = false := by rw [decide_eq_false_iff_not]; omega
    have hLf := hLe hfit
    subst hLf
    have hrs := run_string_own (dst := 9) Tryz.underlying106 Tryz.underlying5 Tryz.underlying9 (by rw [← eb_map]; exact how)
    go_wp2_with fail
    go_ret2
    exact ⟨rfl, hbel⟩
   ·have hd : decide ((5000 : Int) < (sumT xs : Int)) = true := by rw [decide_eq_true_iff]; omega
    go_wp2_with fail
    go_ret2
    exact ⟨rfl, hbel⟩
end Go.Proofs.YtgnblkmpoigejaaGreatDoor
namespace Go.Proofs.YtgnblkmpoigejaaGreatDoor
set_option maxRecDepth 20000
open Go.RowKit
def rotF (a b x : Int) : Int := bits .or .u32 (x * a % 4294967296) (x / b)
set_option maxHeartbeats 1000000 in
theorem rotl_16 (x : Int) (w : World) :
  Calls Tryz.prog 225 #[.int .u32 x, .int .i64 (-16)] w fun e w' => e = .returned (.int .u32 (rotF 65536 65536 x)) ∧ w' = w := by
 have hA : bits .and .u64 (IntKind.u64.wrap (-16)) 31 = 16 := by decide +kernel
 go_enter Tryz.func225, Tryz.ntmps225
 go_wp2_with fail
 go_ret
 exact ⟨rfl, rfl⟩
set_option maxHeartbeats 1000000 in
theorem rotl_12 (x : Int) (w : World) :
  Calls Tryz.prog 225 #[.int .u32 x, .int .i64 (-12)] w fun e w' => e = .returned (.int .u32 (rotF 1048576 4096 x)) ∧ w' = w := by
 have hA : bits .and .u64 (IntKind.u64.wrap (-12)) 31 = 20 := by decide +kernel
 go_enter Tryz.func225, Tryz.ntmps225
 go_wp2_with fail
 go_ret
 exact ⟨rfl, rfl⟩
set_option maxHeartbeats 1000000 in
theorem rotl_8 (x : Int) (w : World) :
  Calls Tryz.prog 225 #[.int .u32 x, .int .i64 (-8)] w fun e w' => e = .returned (.int .u32 (rotF 16777216 256 x)) ∧ w' = w := by
 have hA : bits .and .u64 (IntKind.u64.wrap (-8)) 31 = 24 := by decide +kernel
 go_enter Tryz.func225, Tryz.ntmps225
 go_wp2_with fail
 go_ret
 exact ⟨rfl, rfl⟩
set_option maxHeartbeats 1000000 in
theorem rotl_7 (x : Int) (w : World) :
  Calls Tryz.prog 225 #[.int .u32 x, .int .i64 (-7)] w fun e w' => e = .returned (.int .u32 (rotF 33554432 128 x)) ∧ w' = w := by
 have hA : bits .and .u64 (IntKind.u64.wrap (-7)) 31 = 25 := by decide +kernel
 go_enter Tryz.func225, Tryz.ntmps225
 go_wp2_with fail
 go_ret
 exact ⟨rfl, rfl⟩
def mx4 (vs : Array Value) (i0 i1 i2 i3 : Nat) (a b c d : Int) : Array Value := (((vs.setIfInBounds i0 (.int .u32 a)).setIfInBounds i1 (.int .u32 b)).setIfInBounds i2 (.int .u32 c)).setIfInBounds i3 (.int .u32 d)
structure Four (n i0 i1 i2 i3 : Nat) : Prop where
 h0 : i0 < n
 h1 : i1 < n
 h2 : i2 < n
 h3 : i3 < n
 n01 : i0 ≠ i1
 n02 : i0 ≠ i2
 n03 : i0 ≠ i3
 n12 : i1 ≠ i2
 n13 : i1 ≠ i3
 n23 : i2 ≠ i3
theorem setIf_same (xs : Array Value) (i : Nat) (a b : Value) : (xs.setIfInBounds i a).setIfInBounds i b = xs.setIfInBounds i b := by
 apply Array.ext_getElem?; intro j; simp only [Array.getElem?_setIfInBounds, Array.size_setIfInBounds]; split <;> rfl
theorem setIf_comm (xs : Array Value) {i j : Nat} (h : i ≠ j) (a b : Value) : (xs.setIfInBounds i a).setIfInBounds j b = (xs.setIfInBounds j b).setIfInBounds i a := by
 apply Array.ext_getElem?; intro k; simp only [Array.getElem?_setIfInBounds, Array.size_setIfInBounds]
 by_cases h1 : i = k
 ·subst h1
  rw [if_neg (fun e => h e.symm), if_pos rfl, if_pos rfl]
 ·rw [if_neg h1, if_neg h1]
section
variable {vs : Array Value} {i0 i1 i2 i3 : Nat} {a b c d : Int}
theorem mx4_a (h : Four vs.size i0 i1 i2 i3) : (mx4 vs i0 i1 i2 i3 a b c d)[i0]? = some (.int .u32 a) := by
 obtain ⟨h0, h1, h2, h3, n01, n02, n03, n12, n13, n23⟩ := h
 unfold mx4; grind
theorem mx4_b (h : Four vs.size i0 i1 i2 i3) : (mx4 vs i0 i1 i2 i3 a b c d)[i1]? = some (.int .u32 b) := by
 obtain ⟨h0, h1, h2, h3, n01, n02, n03, n12, n13, n23⟩ := h
 unfold mx4; grind
theorem mx4_c (h : Four vs.size i0 i1 i2 i3) : (mx4 vs i0 i1 i2 i3 a b c d)[i2]? = some (.int .u32 c) := by
 obtain ⟨h0, h1, h2, h3, n01, n02, n03, n12, n13, n23⟩ := h
 unfold mx4; grind
theorem mx4_d (h : Four vs.size i0 i1 i2 i3) : (mx4 vs i0 i1 i2 i3 a b c d)[i3]? = some (.int .u32 d) := by
 obtain ⟨h0, h1, h2, h3, n01, n02, n03, n12, n13, n23⟩ := h
 unfold mx4; grind
theorem mx4_setA (h : Four vs.size i0 i1 i2 i3) (u : Int) : (mx4 vs i0 i1 i2 i3 a b c d).setIfInBounds i0 (.int .u32 u) = mx4 vs i0 i1 i2 i3 u b c d := by
 unfold mx4; rw [setIf_comm _ h.n03.symm, setIf_comm _ h.n02.symm, setIf_comm _ h.n01.symm, setIf_same]
theorem mx4_setB (h : Four vs.size i0 i1 i2 i3) (u : Int) : (mx4 vs i0 i1 i2 i3 a b c d).setIfInBounds i1 (.int .u32 u) = mx4 vs i0 i1 i2 i3 a u c d := by
 unfold mx4; rw [setIf_comm _ h.n13.symm, setIf_comm _ h.n12.symm, setIf_same]
theorem mx4_setC (h : Four vs.size i0 i1 i2 i3) (u : Int) : (mx4 vs i0 i1 i2 i3 a b c d).setIfInBounds i2 (.int .u32 u) = mx4 vs i0 i1 i2 i3 a b u d := by
 unfold mx4; rw [setIf_comm _ h.n23.symm, setIf_same]
theorem mx4_setD (u : Int) : (mx4 vs i0 i1 i2 i3 a b c d).setIfInBounds i3 (.int .u32 u) = mx4 vs i0 i1 i2 i3 a b c u := by
 unfold mx4; rw [setIf_same]
theorem mx4_self (h0 : vs[i0]? = some (.int .u32 a)) (h1 : vs[i1]? = some (.int .u32 b)) (h2 : vs[i2]? = some (.int .u32 c)) (h3 : vs[i3]? = some (.int .u32 d)) : mx4 vs i0 i1 i2 i3 a b c d = vs := by
 unfold mx4; apply Array.ext_getElem?; intro j; grind
end
theorem set_grown (W : World) (b i : Nat) (v : Value) : W.grownBy (W.setCell ⟨b, i, none⟩ v) (some b) :=
 ⟨rfl, rfl, rfl, by simp [World.setCell], fun k _ hne => Below.heap_setCell _ _ _ _ (fun e => hne (by rw [e]))⟩
structure Mx (w0 w : World) (g : Nat) (t : TypeId) (vs : Array Value) (i0 i1 i2 i3 : Nat) (a b c d : Int) : Prop where
 blk : Blk w g t (mx4 vs i0 i1 i2 i3 a b c d)
 four : Four vs.size i0 i1 i2 i3
 gr : w0.grownBy w (some g)
section
variable {w0 w : World} {g : Nat} {t : TypeId} {vs : Array Value} {i0 i1 i2 i3 : Nat} {a b c d : Int}
theorem Mx.ata (h : Mx w0 w g t vs i0 i1 i2 i3 a b c d) : w.cell? ⟨g, i0, none⟩ = some (.int .u32 a) := (h.blk.cell i0).trans (mx4_a h.four)
theorem Mx.atb (h : Mx w0 w g t vs i0 i1 i2 i3 a b c d) : w.cell? ⟨g, i1, none⟩ = some (.int .u32 b) := (h.blk.cell i1).trans (mx4_b h.four)
theorem Mx.atc (h : Mx w0 w g t vs i0 i1 i2 i3 a b c d) : w.cell? ⟨g, i2, none⟩ = some (.int .u32 c) := (h.blk.cell i2).trans (mx4_c h.four)
theorem Mx.atd (h : Mx w0 w g t vs i0 i1 i2 i3 a b c d) : w.cell? ⟨g, i3, none⟩ = some (.int .u32 d) := (h.blk.cell i3).trans (mx4_d h.four)
theorem grow_set {w0 w : World} {g : Nat} (h : w0.grownBy w (some g)) (i : Nat) (v : Value) : w0.grownBy (w.setCell ⟨g, i, none⟩ v) (some g) :=
 ⟨h.os, h.tape, h.output, by have := h.size; simpa [World.setCell] using this, fun k hk hne => (Below.heap_setCell _ _ _ _ (fun e => hne (by rw [e]))).trans (h.block k hk hne)⟩
theorem Mx.drew (h : Mx w0 w g t vs i0 i1 i2 i3 a b c d) : Mx w0 w.drew g t vs i0 i1 i2 i3 a b c d := ⟨h.blk, h.four, ⟨h.gr.os, h.gr.tape, h.gr.output, h.gr.size, h.gr.block⟩⟩
theorem Mx.drewN (h : Mx w0 w g t vs i0 i1 i2 i3 a b c d) (n : Nat) : Mx w0 (w.drewN n) g t vs i0 i1 i2 i3 a b c d := ⟨h.blk, h.four, ⟨h.gr.os, h.gr.tape, h.gr.output, h.gr.size, h.gr.block⟩⟩
theorem Mx.setA (h : Mx w0 w g t vs i0 i1 i2 i3 a b c d) (u : Int) : Mx w0 (w.setCell ⟨g, i0, none⟩ (.int .u32 u)) g t vs i0 i1 i2 i3 u b c d :=
 ⟨by rw [← mx4_setA h.four]; exact h.blk.set_ i0 _, h.four, grow_set h.gr i0 _⟩
theorem Mx.setB (h : Mx w0 w g t vs i0 i1 i2 i3 a b c d) (u : Int) : Mx w0 (w.setCell ⟨g, i1, none⟩ (.int .u32 u)) g t vs i0 i1 i2 i3 a u c d :=
 ⟨by rw [← mx4_setB h.four]; exact h.blk.set_ i1 _, h.four, grow_set h.gr i1 _⟩
theorem Mx.setC (h : Mx w0 w g t vs i0 i1 i2 i3 a b c d) (u : Int) : Mx w0 (w.setCell ⟨g, i2, none⟩ (.int .u32 u)) g t vs i0 i1 i2 i3 a b u d :=
 ⟨by rw [← mx4_setC h.four]; exact h.blk.set_ i2 _, h.four, grow_set h.gr i2 _⟩
theorem Mx.setD (h : Mx w0 w g t vs i0 i1 i2 i3 a b c d) (u : Int) : Mx w0 (w.setCell ⟨g, i3, none⟩ (.int .u32 u)) g t vs i0 i1 i2 i3 a b c u :=
 ⟨by rw [← mx4_setD]; exact h.blk.set_ i3 _, h.four, grow_set h.gr i3 _⟩
end
def mixF (a b c d x y : Int) : Int × Int × Int × Int :=
 let a1 := IntKind.u32.wrap (a + IntKind.u32.wrap (b + x))
 let d1 := rotF 65536 65536 (bits .xor .u32 d a1)
 let c1 := IntKind.u32.wrap (c + d1)
 let b1 := rotF 1048576 4096 (bits .xor .u32 b c1)
 let a2 := IntKind.u32.wrap (a1 + IntKind.u32.wrap (b1 + y))
 let d2 := rotF 16777216 256 (bits .xor .u32 d1 a2)
 let c2 := IntKind.u32.wrap (c1 + d2)
 let b2 := rotF 33554432 128 (bits .xor .u32 b1 c2)
 (a2, b2, c2, d2)
end Go.Proofs.YtgnblkmpoigejaaGreatDoor
