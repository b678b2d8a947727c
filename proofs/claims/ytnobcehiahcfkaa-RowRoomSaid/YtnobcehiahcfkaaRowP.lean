/- A chain's push and making: the walks. -/
import Derived.Test.YtnobcehiahcfkaaRowB
namespace Go.Proofs.Ytnobcehiahcfkaa
set_option maxRecDepth 20000
open Go.RowKit
theorem atF_put {ns : List Nd} {b : Nat} {k : ByteArray} {s : Int} (h : ∀ x ∈ ns, x.2.1 ≠ k) : ∀ x, fput (atF ns) k (ptr b) x = atF (ns ++ [(b, k, s)]) x := by
  intro x
  unfold fput
  by_cases hx : x = k
  · subst hx
    rw [if_pos rfl]
    unfold atF
    rw [List.find?_append, List.find?_eq_none.2 (fun y hy => by simp [h y hy])]
    simp
  · rw [if_neg hx]
    unfold atF
    rw [List.find?_append]
    cases hf : ns.find? (fun y => decide (y.2.1 = x)) with
    | none => simp [Ne.symm hx]
    | some y => rfl
theorem Chn.pushed {w W5 w6 : World} {n0 c mb : Nat} {ns : List Nd} {b p : Nat} {k : ByteArray} {s : Int} {xs : List Nat} (h : Chn w n0 c mb ns) (hk : ∀ x ∈ ns, x.2.1 ≠ k) (hb0 : n0 ≤ b) (hb : Blk w b 122 #[.string k, .int .i64 s, ptr p, ptr c]) (hf : ∀ x ∈ ns, x.1 ≠ b) (e1 : c :: ns.map (·.1) = xs ++ [p])
    (t : Two n0 w W5 p c (ptr b) (ptr b)) (hm : MapS Try.prog w6 9 mb (fput (atF ns) k (ptr b)) (ns.length + 1)) (hg : W5.grownBy w6 (some mb)) : Chn w6 n0 c mb (ns ++ [(b, k, s)]) := by
  have hroot := h.ne_root
  have hbc : b ≠ c := by
    intro e
    subst e
    obtain ⟨_, _, hr⟩ := h.root
    unfold Blk at hb hr
    rw [hr] at hb
    injection hb with hb
    injection hb with _ hb
    revert hb
    decide
  have hcl : c ∉ ns.map (·.1) := fun hc => by
    obtain ⟨y, hy, e⟩ := List.mem_map.1 hc
    exact hroot y hy e
  have nd1 : (c :: ns.map (·.1)).Nodup := List.nodup_cons.2 ⟨hcl, h.nd⟩
  have hbn : b ∉ ns.map (·.1) := fun hc => by
    obtain ⟨y, hy, e⟩ := List.mem_map.1 hc
    exact hf y hy e
  have hpx : p ∉ xs := by
    rw [e1] at nd1
    exact fun hx => (List.nodup_append.1 nd1).2.2 p hx p (by simp) rfl
  have hbx : b ∉ xs ++ [p] := by
    rw [← e1]
    simp only [List.mem_cons, not_or]
    exact ⟨hbc, hbn⟩
  have hbp : b ≠ p := fun e => hbx (by rw [e]; simp)
  have e2 : c :: (ns.map (·.1) ++ [c]) = xs ++ p :: [c] := by rw [← List.cons_append, e1, List.append_assoc]; rfl
  have e3 : c :: ((ns ++ [(b, k, s)]).map (·.1) ++ [c]) = xs ++ p :: b :: [c] := by rw [List.map_append, List.append_assoc, ← List.cons_append, e1, List.append_assoc]; rfl
  have hb5 : NodeB W5 (b, k, s) := t.node (b, k, s) ⟨_, _, hb⟩
  have hring : Links W5 (c :: ((ns ++ [(b, k, s)]).map (·.1) ++ [c])) := by
    rw [e3]
    have := h.ring
    rw [e2] at this
    exact links_add this hpx (by rw [← e1]; exact hcl) hbx ⟨t.cp, (t.c2 b hbc).trans (hb.cell 2)⟩ ⟨(t.c3 b hbp).trans (hb.cell 3), t.cq⟩ (fun a ha _ => t.c3 a ha) (fun a ha _ => t.c2 a ha)
  have hall : ∀ x ∈ ns ++ [(b, k, s)], NodeB W5 x := by
    intro x hx
    rcases List.mem_append.1 hx with hx | hx
    · exact t.node x (h.node x hx)
    · simp only [List.mem_cons, List.not_mem_nil, or_false] at hx
      subst hx
      exact hb5
  have hm5 := t.mp _ _ _ _ h.mp
  have hne : ∀ x ∈ ns ++ [(b, k, s)], some x.1 ≠ some mb := fun x hx e => by
    injection e with e
    obtain ⟨_, _, hb⟩ := hall x hx
    exact hm5.ne_blk hb e.symm
  have hcm : some c ≠ some mb := fun e => by
    injection e with e
    obtain ⟨_, _, hb⟩ := t.root _ _ h.root
    exact hm5.ne_blk hb e.symm
  have hmemc : ∀ a, a ∈ c :: ((ns ++ [(b, k, s)]).map (·.1) ++ [c]) → (a = c ∨ ∃ x ∈ ns ++ [(b, k, s)], x.1 = a) := by
    intro a ha
    rw [List.mem_cons, List.mem_append, List.mem_map, List.mem_singleton] at ha
    rcases ha with h1 | ⟨x, hx, h1⟩ | h1
    · exact .inl h1
    · exact .inr ⟨x, hx, h1⟩
    · exact .inl h1
  have ex23 : ∀ a, (a = c ∨ ∃ x ∈ ns ++ [(b, k, s)], x.1 = a) → (∃ v, W5.cell? ⟨a, 2, none⟩ = some v) ∧ ∃ v, W5.cell? ⟨a, 3, none⟩ = some v := by
    intro a ha
    rcases ha with rfl | ⟨x, hx, rfl⟩
    · obtain ⟨pv, nx, hb⟩ := t.root _ _ h.root
      exact ⟨⟨pv, hb.cell 2⟩, ⟨nx, hb.cell 3⟩⟩
    · obtain ⟨pv, nx, hb⟩ := hall x hx
      exact ⟨⟨pv, hb.cell 2⟩, ⟨nx, hb.cell 3⟩⟩
  have cells : ∀ a i v, (a = c ∨ ∃ x ∈ ns ++ [(b, k, s)], x.1 = a) → W5.cell? ⟨a, i, none⟩ = some v → w6.cell? ⟨a, i, none⟩ = W5.cell? ⟨a, i, none⟩ := by
    intro a i v ha hv
    rw [hv]
    refine hg.cell hv ?_
    rcases ha with rfl | ⟨x, hx, rfl⟩
    · exact hcm
    · exact hne x hx
  refine ⟨?_, fun x hx => ?_, ?_, ?_, ?_, hm.congr (atF_put hk) (by simp), h.b0.1, h.b0.2.1, fun x hx => ?_⟩
  · obtain ⟨pv, nx, hb⟩ := t.root _ _ h.root
    exact ⟨pv, nx, Blk.keptR hb hg hcm⟩
  · obtain ⟨pv, nx, hb⟩ := hall x hx
    exact ⟨pv, nx, Blk.keptR hb hg (hne x hx)⟩
  · refine hring.keep (fun a ha => ?_) (fun a ha => ?_)
    · have hm := hmemc a (List.dropLast_subset _ ha)
      obtain ⟨_, v, hv⟩ := ex23 a hm
      exact cells a 3 v hm hv
    · have hm := hmemc a (List.mem_of_mem_tail ha)
      obtain ⟨⟨v, hv⟩, _⟩ := ex23 a hm
      exact cells a 2 v hm hv
  · rw [List.map_append, List.nodup_append]
    exact ⟨h.nd, by simp, fun a ha x hx => by simp at hx; subst hx; exact fun e => hbn (e ▸ ha)⟩
  · rw [List.map_append, List.nodup_append]
    refine ⟨h.kd, by simp, fun a ha x hx => ?_⟩
    simp at hx
    subst hx
    obtain ⟨y, hy, e⟩ := List.mem_map.1 ha
    exact fun e' => hk y hy (e.trans e')
  · rcases List.mem_append.1 hx with hx | hx
    · exact h.b0.2.2 x hx
    · simp only [List.mem_cons, List.not_mem_nil, or_false] at hx
      subst hx
      exact hb0
set_option maxHeartbeats 2000000 in
theorem push_any (n0 c mb : Nat) (ns : List Nd) (k : ByteArray) (s : Int) (w : World) (h : Chn w n0 c mb ns) (hks : k.size ≤ maxLen) (hk : ∀ x ∈ ns, x.2.1 ≠ k) (hc : ns.length < maxLen) :
    Calls Try.prog 50 #[ptr c, .string k, .int .i64 s] w fun e w' => e = .returned (.tuple #[]) ∧ Chn w' n0 c mb (ns ++ [(w.heap.size, k, s)]) ∧ RF [125, 122] n0 w w' := by
  obtain ⟨xs, p, hxp⟩ := list_last c (ns.map (·.1))
  have hpm : p = c ∨ ∃ x ∈ ns, x.1 = p := by
    have : p ∈ c :: ns.map (·.1) := by rw [hxp]; simp
    simp only [List.mem_cons, List.mem_map] at this
    exact this
  have hring := h.ring
  rw [show c :: (ns.map (·.1) ++ [c]) = xs ++ p :: c :: [] by rw [← List.cons_append, hxp, List.append_assoc]; rfl] at hring
  have hl := links_next hring
  obtain ⟨rp, rn, hrb⟩ := h.root
  have hp3 := hl.1
  have hc2 := hl.2
  have hc4 := hrb.cell 4
  have hn0 : n0 ≤ w.heap.size := Nat.le_trans h.b0.1 (Nat.le_of_lt hrb.lt)
  have hmb0 := h.b0.2.1
  have H := Lib.hid h
  have HXP := Lib.hid hxp
  have HFN : Hid (∀ x ∈ ns, x.1 ≠ w.heap.size) := fun x hx => Nat.ne_of_lt (h.node x hx).lt
  have HPM := Lib.hid hpm
  clear hring hl hpm hxp h
  go_enter Try.func50, Try.ntmps50
  go_wp2_with fail
  refine wp_region_plan (.take 0 (.take 1 (.take 2 (.take 3 (.take 4 (.take 5 (.take 6 (.take 7 (.take 8 (.take 9 (.take 10 (.eff 11 (.take 12 .nil))))))))))))) (fun w' => Below w.heap.size w w') (by kernel_rfl) (by kernel_rfl) (fun _ _ _ _ _ h => h) (by kernel_rfl) (by kernel_rfl) ?_ ?_
  · exact (Below.refl _ _).drew
  iterate 11 (first | (apply seqP_skip; (focus (simp only [List.getElem?_toArray, List.getElem?_cons_succ, List.getElem?_cons_zero]; rfl)); (focus rfl); simp only [Act.put, List.setIfInBounds_toArray, List.set_cons_zero, List.set_cons_succ]) | (apply seqP_take; (focus (simp only [List.getElem?_toArray, List.getElem?_cons_succ, List.getElem?_cons_zero]; rfl)); (focus rfl); (focus (intro w' hS; have c2' := (hS.cell (p := ⟨c, 2, none⟩) hrb.lt).trans hc2; first | (go_simp; rfl) | (go_simp; done))); simp only [Act.put, List.setIfInBounds_toArray, List.set_cons_zero, List.set_cons_succ]))
  apply seqP_eff
  (focus (simp only [List.getElem?_toArray, List.getElem?_cons_succ, List.getElem?_cons_zero]; rfl))
  (focus rfl)
  intro K hK
  go_simp
  have hA : Below w.heap.size w (w.alloc (.cells #[.string k, .int .i64 s, ptr p, ptr c] 122)).drew := ((Below.refl _ w).alloc (Nat.le_refl _) _).drew
  have hN : Blk (w.alloc (.cells #[.string k, .int .i64 s, ptr p, ptr c] 122)).drew w.heap.size 122 #[.string k, .int .i64 s, ptr p, ptr c] := (Blk.new w _ _).drew
  have HC1 := Lib.hid (H.out.below hA)
  have hz1 : (w.alloc (.cells #[.string k, .int .i64 s, ptr p, ptr c] 122)).drew.heap.size = w.heap.size + 1 := World.size_alloc ..
  refine hK _ _ ⟨hA, ?_⟩
  clear hK K
  iterate 1 (first | (apply seqP_skip; (focus (simp only [List.getElem?_toArray, List.getElem?_cons_succ, List.getElem?_cons_zero]; rfl)); (focus rfl); simp only [Act.put, List.setIfInBounds_toArray, List.set_cons_zero, List.set_cons_succ]) | (apply seqP_take; (focus (simp only [List.getElem?_toArray, List.getElem?_cons_succ, List.getElem?_cons_zero]; rfl)); (focus rfl); (focus (intro w' hS; skip; first | (go_simp; rfl) | (go_simp; done))); simp only [Act.put, List.setIfInBounds_toArray, List.set_cons_zero, List.set_cons_succ]))
  refine seqP_nil ?_
  go_wp2_with fail
  obtain ⟨b, hb⟩ : ∃ b, b = w.heap.size := ⟨_, rfl⟩
  rw [← hb] at hN HFN hz1 ⊢
  have HB := Lib.hid hb
  clear hb
  generalize (w.alloc (.cells #[.string k, .int .i64 s, ptr p, ptr c] 122)).drew = W1 at *
  have b2 := hN.cell 2
  have b3 := hN.cell 3
  have cp : Cel W1 n0 p := HC1.out.cel HPM.out
  have cc : Cel W1 n0 c := HC1.out.cel (.inl rfl)
  have fp := cp.frozen 3
  have fc := cc.frozen 2
  have hrb1 : W1.cell? ⟨c, 4, none⟩ = some (.map (some mb)) := by obtain ⟨_, _, hr⟩ := HC1.out.root; exact hr.cell 4
  have hpb : p ≠ b := by
    rcases HPM.out with rfl | ⟨x, hx, rfl⟩
    · intro e
      have := hrb.lt
      have := HB.out
      omega
    · exact HFN.out x hx
  have hcb : c ≠ b := by
    intro e
    have := hrb.lt
    have := HB.out
    omega
  have hp31 : ∃ v, W1.cell? ⟨p, 3, none⟩ = some v := by
    obtain ⟨_, t, cs, hbk, _, hsz⟩ := cp
    exact ⟨_, (hbk.cell 3).trans (Array.getElem?_eq_getElem (by omega))⟩
  have hc21 : ∃ v, W1.cell? ⟨c, 2, none⟩ = some v := by
    obtain ⟨_, _, hr⟩ := HC1.out.root
    exact ⟨_, hr.cell 2⟩
  obtain ⟨vp, hp31⟩ := hp31
  obtain ⟨vc, hc21⟩ := hc21
  have n3 := Lib.hid (fun (W : World) (u : Value) => cell_set_ne W b p 3 2 u (.inr (by decide)))
  have n4 := Lib.hid (fun (W : World) (u : Value) => cell_set_ne W b p 3 3 u (.inl (Ne.symm hpb)))
  have n5 := Lib.hid (fun (W : World) (u : Value) => cell_set_ne W b c 2 2 u (.inl (Ne.symm hcb)))
  have n6 := Lib.hid (fun (W : World) (u : Value) => cell_set_ne W b c 2 3 u (.inr (by decide)))
  have CP := Lib.hid cp
  have CC := Lib.hid cc
  have HN := Lib.hid hN
  have hn01 : n0 ≤ W1.heap.size := by have := HB.out; omega
  clear hN hpb hcb cp cc hrb hc2 hp3 hc4 HPM
  refine wp_region_plan (.take 0 (.take 1 (.take 2 (.take 3 (.take 4 (.take 5 (.take 6 (.take 7 (.take 8 (.take 9 (.take 10 (.take 11 (.eff 12 (.take 13 (.take 14 (.eff 15 .nil)))))))))))))))) (fun w' => w'.cell? ⟨b, 2, none⟩ = some (ptr p) ∧ w'.cell? ⟨b, 3, none⟩ = some (ptr c)) (by kernel_rfl) (by kernel_rfl) (fun _ _ _ _ _ h => h) (by kernel_rfl) (by kernel_rfl) ?_ ?_
  · exact ⟨b2, b3⟩
  iterate 12 (first | (apply seqP_skip; (focus (simp only [List.getElem?_toArray, List.getElem?_cons_succ, List.getElem?_cons_zero]; rfl)); (focus rfl); simp only [Act.put, List.setIfInBounds_toArray, List.set_cons_zero, List.set_cons_succ]) | (apply seqP_take; (focus (simp only [List.getElem?_toArray, List.getElem?_cons_succ, List.getElem?_cons_zero]; rfl)); (focus rfl); (focus (intro w' hS; obtain ⟨s2, s3⟩ := hS; first | (go_simp; rfl) | (go_simp; done))); simp only [Act.put, List.setIfInBounds_toArray, List.set_cons_zero, List.set_cons_succ]))
  apply seqP_eff
  (focus (simp only [List.getElem?_toArray, List.getElem?_cons_succ, List.getElem?_cons_zero]; rfl))
  (focus rfl)
  intro K hK
  go_simp
  refine hK _ _ ⟨⟨(n3.out _ _).trans b2, (n4.out _ _).trans b3⟩, ?_⟩
  clear hK K
  iterate 2 (first | (apply seqP_skip; (focus (simp only [List.getElem?_toArray, List.getElem?_cons_succ, List.getElem?_cons_zero]; rfl)); (focus rfl); simp only [Act.put, List.setIfInBounds_toArray, List.set_cons_zero, List.set_cons_succ]) | (apply seqP_take; (focus (simp only [List.getElem?_toArray, List.getElem?_cons_succ, List.getElem?_cons_zero]; rfl)); (focus rfl); (focus (intro w' hS; obtain ⟨s2, s3⟩ := hS; first | (go_simp; rfl) | (go_simp; done))); simp only [Act.put, List.setIfInBounds_toArray, List.set_cons_zero, List.set_cons_succ]))
  apply seqP_eff
  (focus (simp only [List.getElem?_toArray, List.getElem?_cons_succ, List.getElem?_cons_zero]; rfl))
  (focus rfl)
  intro K hK
  have c2' := (cell_set_ne W1.drew c p 3 2 (ptr b) (.inr (by decide))).trans hc21
  have f2' := (CC.out.set_ p 3 (ptr b)).frozen 2
  change (W1.drew.setCell ⟨p, 3, none⟩ (ptr b)).frozen? _ = _ at f2'
  go_simp
  refine hK _ _ ⟨⟨((n5.out _ _).trans (n3.out _ _)).trans b2, ((n6.out _ _).trans (n4.out _ _)).trans b3⟩, ?_⟩
  clear hK K c2' f2'
  refine seqP_nil ?_
  have hT : Two n0 W1 ((W1.setCell ⟨p, 3, none⟩ (ptr b)).setCell ⟨c, 2, none⟩ (ptr b)).drew p c (ptr b) (ptr b) := Two.drewL (Two.ab (W := W1.drew) CP.out CC.out (ptr b) (ptr b))
  generalize ((W1.setCell ⟨p, 3, none⟩ (ptr b)).setCell ⟨c, 2, none⟩ (ptr b)).drew = W5 at hT ⊢
  have c5 := (hT.oth c 4 (by decide) (by decide)).trans hrb1
  have HM5 := Lib.hid (hT.mp _ _ _ _ HC1.out.mp)
  have HT := Lib.hid hT
  clear hT
  go_wp2_with (at_mapUpdate; go_must (refine wpList_upd rfl (.tmp 36) (.tmp 37) (.tmp 38) rfl rfl HM5.out Try.underlying9 Try.underlying123 k (ptr b) rfl rfl hks hc ?_); intro w6 hm6 hg6)
  refine Great.bodyPost_end0 rfl rfl ⟨rfl, ?_, ?_⟩
  · rw [← HB.out]
    rw [atF_none hk] at hm6
    exact HC1.out.pushed hk (by have := HB.out; omega) HN.out HFN.out HXP.out HT.out hm6 hg6
  · have hRA : RF [125, 122] n0 w W1 := RF.of_below hA hn0
    exact (hRA.trans HT.out.rf).grown hg6 (by rw [HT.out.sz]; exact hn01) (fun j hj => by cases hj; exact ⟨hmb0, by obtain ⟨es, ck, hm⟩ := HM5.out.isMapObj; exact ⟨_, hm, rfl⟩⟩)
theorem newChain_any (w : World) : Calls Try.prog 58 #[] w fun e w' => ∃ c mb, e = .returned (ptr c) ∧ Chn w' w.heap.size c mb [] ∧ Below w.heap.size w w' := by
  have hmm := @run_makeMap Try.prog
  have hm0 := (MapS.made w Try.prog 9).alloc (.cells #[.string ByteArray.empty, .int .i64 0, .pointer none, .pointer none, .map (some w.heap.size)] 125)
  have hN : Blk ((w.alloc (.map #[] 0)).alloc (.cells #[.string ByteArray.empty, .int .i64 0, .pointer none, .pointer none, .map (some w.heap.size)] 125)) (w.heap.size + 1) 125 #[.string ByteArray.empty, .int .i64 0, .pointer none, .pointer none, .map (some w.heap.size)] := by
    have := Blk.new (w.alloc (.map #[] 0)) 125 #[.string ByteArray.empty, .int .i64 0, .pointer none, .pointer none, .map (some w.heap.size)]
    rwa [World.size_alloc] at this
  have hA : Below w.heap.size w ((w.alloc (.map #[] 0)).alloc (.cells #[.string ByteArray.empty, .int .i64 0, .pointer none, .pointer none, .map (some w.heap.size)] 125)) := ((Below.refl _ w).alloc (Nat.le_refl _) _).alloc (by simp) _
  go_enter Try.func58, Try.ntmps58
  go_wp2_with fail
  obtain ⟨mb, hmb⟩ : ∃ mb, mb = w.heap.size := ⟨_, rfl⟩
  change Code.wp _ _ _ _ ((w.alloc (.map #[] 0)).alloc (.cells #[.string ByteArray.empty, .int .i64 0, .pointer none, .pointer none, .map (some w.heap.size)] 125))
  generalize (w.alloc (.map #[] 0)).alloc (.cells #[.string ByteArray.empty, .int .i64 0, .pointer none, .pointer none, .map (some w.heap.size)] 125) = W1 at hm0 hN hA ⊢
  rw [← hmb] at hm0 hN ⊢
  have HMB := Lib.hid hmb
  clear hmb
  obtain ⟨c, hc⟩ : ∃ c, c = mb + 1 := ⟨_, rfl⟩
  rw [← hc] at hN ⊢
  have HC := Lib.hid hc
  clear hc
  have c2 := hN.cell 2
  have c3 := hN.cell 3
  have f2 := hN.frozen 2
  have f3 := hN.frozen 3
  refine wp_region_plan (.take 0 (.take 1 (.take 2 (.take 3 (.take 4 (.take 5 (.take 6 (.take 7 (.take 8 (.take 9 (.take 10 (.eff 11 (.take 12 (.take 13 (.take 14 (.eff 15 .nil)))))))))))))))) (fun w' => True) (by kernel_rfl) (by kernel_rfl) (fun _ _ _ _ _ h => h) (by kernel_rfl) (by kernel_rfl) ?_ ?_
  · trivial
  iterate 11 (first | (apply seqP_skip; (focus (simp only [List.getElem?_toArray, List.getElem?_cons_succ, List.getElem?_cons_zero]; rfl)); (focus rfl); simp only [Act.put, List.setIfInBounds_toArray, List.set_cons_zero, List.set_cons_succ]) | (apply seqP_take; (focus (simp only [List.getElem?_toArray, List.getElem?_cons_succ, List.getElem?_cons_zero]; rfl)); (focus rfl); (focus (intro w' hS; skip; first | (go_simp; rfl) | (go_simp; done))); simp only [Act.put, List.setIfInBounds_toArray, List.set_cons_zero, List.set_cons_succ]))
  apply seqP_eff
  (focus (simp only [List.getElem?_toArray, List.getElem?_cons_succ, List.getElem?_cons_zero]; rfl))
  (focus rfl)
  intro K hK
  go_simp
  refine hK _ _ ⟨trivial, ?_⟩
  clear hK K
  iterate 3 (first | (apply seqP_skip; (focus (simp only [List.getElem?_toArray, List.getElem?_cons_succ, List.getElem?_cons_zero]; rfl)); (focus rfl); simp only [Act.put, List.setIfInBounds_toArray, List.set_cons_zero, List.set_cons_succ]) | (apply seqP_take; (focus (simp only [List.getElem?_toArray, List.getElem?_cons_succ, List.getElem?_cons_zero]; rfl)); (focus rfl); (focus (intro w' hS; skip; first | (go_simp; rfl) | (go_simp; done))); simp only [Act.put, List.setIfInBounds_toArray, List.set_cons_zero, List.set_cons_succ]))
  apply seqP_eff
  (focus (simp only [List.getElem?_toArray, List.getElem?_cons_succ, List.getElem?_cons_zero]; rfl))
  (focus rfl)
  intro K hK
  have hN1 : Blk (W1.drew.setCell ⟨c, 2, none⟩ (ptr c)) c 125 #[.string ByteArray.empty, .int .i64 0, ptr c, .pointer none, .map (some mb)] := hN.drew.set_ 2 (ptr c)
  have d3 := hN1.cell 3
  have g3 := hN1.frozen 3
  change (W1.drew.setCell ⟨c, 2, none⟩ (ptr c)).cell? _ = _ at d3
  go_simp
  refine hK _ _ ⟨trivial, ?_⟩
  clear hK K
  refine seqP_nil ?_
  have hN2 : Blk (((W1.setCell ⟨c, 2, none⟩ (ptr c)).setCell ⟨c, 3, none⟩ (ptr c))).drew c 125 #[.string ByteArray.empty, .int .i64 0, ptr c, ptr c, .map (some mb)] := (hN1.set_ 3 (ptr c))
  have hm2 : MapS Try.prog ((W1.setCell ⟨c, 2, none⟩ (ptr c)).setCell ⟨c, 3, none⟩ (ptr c)).drew 9 mb (fun _ => none) 0 := ((hm0.drew.setCell hN.drew (ptr c)).setCell hN1 (ptr c))
  have hA2 : Below w.heap.size w ((W1.setCell ⟨c, 2, none⟩ (ptr c)).setCell ⟨c, 3, none⟩ (ptr c)).drew := ((hA.setCell (p := ⟨c, 2, none⟩) (by have := HC.out; have := HMB.out; show w.heap.size ≤ c; omega) (ptr c)).setCell (p := ⟨c, 3, none⟩) (by have := HC.out; have := HMB.out; show w.heap.size ≤ c; omega) (ptr c)).drew
  clear d3 g3 c2 c3 f2 f3 hN hN1 hm0 hA
  generalize ((W1.setCell ⟨c, 2, none⟩ (ptr c)).setCell ⟨c, 3, none⟩ (ptr c)).drew = W2 at hN2 hm2 hA2 ⊢
  go_wp2_with fail
  go_ret
  refine ⟨c, mb, rfl, ⟨⟨_, _, hN2⟩, (by intro x hx; cases hx), ⟨⟨hN2.cell 3, hN2.cell 2⟩, trivial⟩, List.nodup_nil, List.nodup_nil, hm2, ?_, ?_, (by intro x hx; cases hx)⟩, hA2⟩
  · have := HC.out; have := HMB.out; omega
  · have := HMB.out; omega
end Go.Proofs.Ytnobcehiahcfkaa
