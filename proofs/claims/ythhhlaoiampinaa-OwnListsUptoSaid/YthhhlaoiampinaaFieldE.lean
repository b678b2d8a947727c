/- What field's Set computes. -/
import Derived.Test.YthhhlaoiampinaaFieldD
import Derived.Test.YthhhlaoiampinaaRegionP
import Derived.IntWalk
namespace Go.Proofs.Ythhhlaoiampinaa
open Go.RowKit
/-- Set: where the first of that name stands. -/
def setF (l : List Fld) (n a : ByteArray) : List Fld :=
  match l.findIdx? (isN (lowS n)) with
  | none => l ++ [(n, a)]
  | some k => l.take k ++ [(n, a)] ++ dropF (l.drop (k + 1)) n
theorem setF_none {l : List Fld} {n : ByteArray} (a : ByteArray) (h : l.any (isN (lowS n)) = false) : setF l n a = l ++ [(n, a)] := by
  unfold setF
  rw [List.findIdx?_eq_none_iff.2]
  intro x hx
  rw [List.any_eq_false] at h
  simpa using h x hx
theorem setF_some {l : List Fld} {n : ByteArray} (a : ByteArray) {k : Nat} (hk : k < l.length) (hi : idxI (isN (lowS n)) l = k) : setF l n a = l.take k ++ [(n, a)] ++ dropF (l.drop (k + 1)) n := by
  unfold setF idxI at *
  split at hi
  · rename_i j hj
    obtain rfl : j = k := by omega
    rw [hj]
  · omega
set_option maxHeartbeats 3200000 in
set_option maxRecDepth 10000 in
theorem set_none (v : Value) (l : List Fld) (n a : ByteArray) (w : World) (h : SlR w e_ss v l) (hl : (l.length + 1) * 32 ≤ 140737488355328) (hz : Lims l) (hn : n.size ≤ 140737488351232) (hany : l.any (isN (lowS n)) = false) :
    Calls Try.prog 12 #[v, .string n, .string a] w fun e w' => RetFlds w.heap.size (setF l n a) e w' ∧ Below w.heap.size w w' := by
  have HF := Lib.hid (setF_none a hany)
  have hidx := idx_no hany
  have HX := Lib.hid hidx
  clear hidx hany
  have b0 : Below w.heap.size w (w.alloc (.cells #[.string n, .string a] 31)) := (Below.refl _ _).alloc (Nat.le_refl _) _
  go_enter Try.func12, Try.ntmps12
  go_wp2_with fail
  refine (named_any n _ hn).mono ?_
  rintro e w1 ⟨rfl, hz1, hc1, b1⟩
  have b01 := b0.trans (b1.mono (by simp))
  have hc : Cap w1 (w.heap.size + 1) (lowS n) := ⟨by simpa using hz1, by simpa using hc1⟩
  have HS1 := Lib.hid (h.below b01)
  have d0 : w1.cell? ⟨w.heap.size, 0, none⟩ = some (.string n) := (b1.cell (by simp)).trans (by go_simp)
  have d1 : w1.cell? ⟨w.heap.size, 1, none⟩ = some (.string a) := (b1.cell (by simp)).trans (by go_simp)
  have hw1 : w.heap.size < w1.heap.size := by simp at hz1; omega
  go_wp2_with fail
  refine (indexFld_any v l _ (lowS n) _ HS1.out (by omega) hz hc).mono ?_
  rintro e w2 ⟨rfl, b2⟩
  rw [HX.out]
  have b02 := b01.trans (b2.mono b01.size)
  have HS2 := Lib.hid (HS1.out.below b2)
  have HC := Lib.hid (fun w' (hb : Below w2.heap.size w2 w') => show w'.cell? ⟨w.heap.size, 0, none⟩ = some (.string n) ∧ w'.cell? ⟨w.heap.size, 1, none⟩ = some (.string a) from ⟨(hb.cell (Nat.lt_of_lt_of_le hw1 b2.size)).trans ((b2.cell hw1).trans d0), (hb.cell (Nat.lt_of_lt_of_le hw1 b2.size)).trans ((b2.cell hw1).trans d1)⟩)
  have hbw : w.heap.size ≤ w2.heap.size := b02.size
  clear d0 d1 hc hc1
  go_wp2_with fail
  refine wp_region_plan (.take 0 (.take 2 (.two 1 (.eff 3 (.eff 4 (.take 5 .nil))) 3 (.eff 1 (.eff 4 (.take 5 .nil)))))) (fun w' => Below w2.heap.size w2 w') (by kernel_rfl) (by kernel_rfl) (fun _ _ _ _ _ h => h) (by kernel_rfl) (by kernel_rfl) (by first | exact (Below.refl _ _).drew | exact Below.drew (by assumption)) ?_
  have bS : Below w2.heap.size w2 _ := (by first | exact (Below.refl _ w2).drew | exact Below.drew (by assumption))
  iterate 2 (first | (apply seqP_skip; (focus (simp only [List.getElem?_toArray, List.getElem?_cons_succ, List.getElem?_cons_zero]; rfl)); (focus rfl); simp only [Act.put, List.setIfInBounds_toArray, List.set_cons_zero, List.set_cons_succ]) | (apply seqP_take; (focus (simp only [List.getElem?_toArray, List.getElem?_cons_succ, List.getElem?_cons_zero]; rfl)); (focus rfl); (focus (intro w' hS; obtain ⟨c0, c1⟩ := HC.out _ hS; first | (go_simp; rfl) | (go_simp; done))); simp only [Act.put, List.setIfInBounds_toArray, List.set_cons_zero, List.set_cons_succ]))
  apply seqP_two
  (focus (simp only [List.getElem?_toArray, List.getElem?_cons_succ, List.getElem?_cons_zero]; rfl))
  (focus (simp only [List.getElem?_toArray, List.getElem?_cons_succ, List.getElem?_cons_zero]; rfl))
  (focus rfl)
  (focus rfl)
  · intro K hK
    go_simp
    go_at_call 38
    refine (cloneFld_any v l _ HS2.out.drew (by omega)).mono ?_
    rintro e wA ⟨⟨u, rfl, oA⟩, bA⟩
    have sA : Below w2.heap.size w2 wA := (Below.refl _ w2).drew.trans bA
    refine hK _ _ ⟨sA, ?_⟩
    clear hK K
    apply seqP_eff
    (focus (simp only [List.getElem?_toArray, List.getElem?_cons_succ, List.getElem?_cons_zero]; rfl))
    (focus rfl)
    intro K hK
    go_simp
    have sB := sA.alloc sA.size (.cells #[.string n, .string a] 31)
    refine hK _ _ ⟨sB, ?_⟩
    clear hK K
    apply seqP_eff
    (focus (simp only [List.getElem?_toArray, List.getElem?_cons_succ, List.getElem?_cons_zero]; rfl))
    (focus rfl)
    intro K hK
    refine wp_append_owns (.tmp 19) (.tmp 21) _ rfl w2.heap.size 31 (.agg #[.string ByteArray.empty, .string ByteArray.empty]) 2 32 e_ss Try.underlying29 fldInfoB rfl (by decide) (fun _ => rfl) _ l rfl (oA.alloc _) _ [(n, a)] rfl (SlR.lit wA [.string n, .string a] _ [(n, a)] rfl) (ss_oneB _) (by simp only [maxLen, List.length_cons, List.length_nil]; omega) (by simp only [List.length_cons, List.length_nil]; omega) (sB.size) ?_
    intro v' w' ho hg
    have sC := sB.grown hg sB.size (fun k hk => (oA.lt k hk).1)
    refine hK _ _ ⟨sC, ?_⟩
    clear hK K
    iterate 1 (first | (apply seqP_skip; (focus (simp only [List.getElem?_toArray, List.getElem?_cons_succ, List.getElem?_cons_zero]; rfl)); (focus rfl); simp only [Act.put, List.setIfInBounds_toArray, List.set_cons_zero, List.set_cons_succ]) | (apply seqP_take; (focus (simp only [List.getElem?_toArray, List.getElem?_cons_succ, List.getElem?_cons_zero]; rfl)); (focus rfl); (focus (intro w' hS; skip; first | (go_simp; rfl) | (go_simp; done))); simp only [Act.put, List.setIfInBounds_toArray, List.set_cons_zero, List.set_cons_succ]))
    refine seqP_nil ?_
    go_wp2_with fail
    go_ret
    exact ⟨⟨_, rfl, by rw [HF.out]; exact ho.mono hbw⟩, b02.trans (sC.mono hbw)⟩
  · intro K hK
    go_simp
    have sA : Below w2.heap.size w2 (w2.alloc (.cells #[.string n, .string a] 31)).drew := ((Below.refl w2.heap.size w2).alloc (Nat.le_refl _) _).drew
    refine hK _ _ ⟨sA, ?_⟩
    clear hK K
    have HN : SlR (w2.alloc (.cells #[.string n, .string a] 31)).drew e_ss (.slice (some ⟨w2.heap.size, 0, none⟩) 1 1) [(n, a)] := (SlR.lit (enc := e_ss) w2 [.string n, .string a] 31 [(n, a)] rfl).drew
    have HN1 := Lib.hid HN
    have HS3 := Lib.hid (HS2.out.below sA)
    clear HN
    generalize (w2.alloc (.cells #[.string n, .string a] 31)).drew = wA at *
    apply seqP_eff
    (focus (simp only [List.getElem?_toArray, List.getElem?_cons_succ, List.getElem?_cons_zero]; rfl))
    (focus rfl)
    intro K hK
    go_simp
    go_at_call 38
    refine (cloneFld_any v l _ HS3.out (by omega)).mono ?_
    rintro e wB ⟨⟨u, rfl, oA⟩, bB⟩
    have sB : Below w2.heap.size w2 wB := sA.trans (bB.mono sA.size)
    refine hK _ _ ⟨sB, ?_⟩
    clear hK K
    apply seqP_eff
    (focus (simp only [List.getElem?_toArray, List.getElem?_cons_succ, List.getElem?_cons_zero]; rfl))
    (focus rfl)
    intro K hK
    refine wp_append_owns (.tmp 19) (.tmp 21) _ rfl w2.heap.size 31 (.agg #[.string ByteArray.empty, .string ByteArray.empty]) 2 32 e_ss Try.underlying29 fldInfoB rfl (by decide) (fun _ => rfl) _ l rfl (oA.mono sA.size) _ [(n, a)] rfl (HN1.out.below bB) (ss_oneB _) (by simp only [maxLen, List.length_cons, List.length_nil]; omega) (by simp only [List.length_cons, List.length_nil]; omega) (sB.size) ?_
    intro v' w' ho hg
    have sC := sB.grown hg sB.size (fun k hk => Nat.le_trans sA.size (oA.lt k hk).1)
    refine hK _ _ ⟨sC, ?_⟩
    clear hK K
    iterate 1 (first | (apply seqP_skip; (focus (simp only [List.getElem?_toArray, List.getElem?_cons_succ, List.getElem?_cons_zero]; rfl)); (focus rfl); simp only [Act.put, List.setIfInBounds_toArray, List.set_cons_zero, List.set_cons_succ]) | (apply seqP_take; (focus (simp only [List.getElem?_toArray, List.getElem?_cons_succ, List.getElem?_cons_zero]; rfl)); (focus rfl); (focus (intro w' hS; skip; first | (go_simp; rfl) | (go_simp; done))); simp only [Act.put, List.setIfInBounds_toArray, List.set_cons_zero, List.set_cons_succ]))
    refine seqP_nil ?_
    go_wp2_with fail
    go_ret
    exact ⟨⟨_, rfl, by rw [HF.out]; exact ho.mono hbw⟩, b02.trans (sC.mono hbw)⟩
set_option maxHeartbeats 3200000 in
set_option maxRecDepth 10000 in
theorem set_some (v : Value) (l : List Fld) (n a : ByteArray) (w : World) (h : SlR w e_ss v l) (hl : (l.length + 1) * 32 ≤ 140737488355328) (hz : Lims l) (hn : n.size ≤ 140737488351232) (k : Nat) (hk : k < l.length) (hidx : idxI (isN (lowS n)) l = k) :
    Calls Try.prog 12 #[v, .string n, .string a] w fun e w' => RetFlds w.heap.size (setF l n a) e w' ∧ Below w.heap.size w w' := by
  have HF := Lib.hid (setF_some a hk hidx)
  have HX := Lib.hid hidx
  have hzd : Lims (l.drop (k + 1)) := fun f hf => hz f (List.mem_of_mem_drop hf)
  clear hidx
  have b0 : Below w.heap.size w (w.alloc (.cells #[.string n, .string a] 31)) := (Below.refl _ _).alloc (Nat.le_refl _) _
  obtain ⟨b, o, c, rfl, hbw, -⟩ := fld_two h (by omega)
  obtain ⟨_, c', hv, hcc⟩ := h.form
  obtain rfl : c = c' := by injection hv
  clear hv
  go_enter Try.func12, Try.ntmps12
  go_wp2_with fail
  refine (named_any n _ hn).mono ?_
  rintro e w1 ⟨rfl, hz1, hc1, b1⟩
  have b01 := b0.trans (b1.mono (by simp))
  have hc : Cap w1 (w.heap.size + 1) (lowS n) := ⟨by simpa using hz1, by simpa using hc1⟩
  have HS1 := Lib.hid (h.below b01)
  have d0 : w1.cell? ⟨w.heap.size, 0, none⟩ = some (.string n) := (b1.cell (by simp)).trans (by go_simp)
  have d1 : w1.cell? ⟨w.heap.size, 1, none⟩ = some (.string a) := (b1.cell (by simp)).trans (by go_simp)
  have hw1 : w.heap.size < w1.heap.size := by simp at hz1; omega
  go_wp2_with fail
  refine (indexFld_any _ l _ (lowS n) _ HS1.out (by omega) hz hc).mono ?_
  rintro e w2 ⟨rfl, b2⟩
  rw [HX.out]
  have b02 := b01.trans (b2.mono b01.size)
  have HS2 := Lib.hid (HS1.out.below b2)
  have HC := Lib.hid (fun w' (hb : Below w2.heap.size w2 w') => show w'.cell? ⟨w.heap.size, 0, none⟩ = some (.string n) ∧ w'.cell? ⟨w.heap.size, 1, none⟩ = some (.string a) from ⟨(hb.cell (Nat.lt_of_lt_of_le hw1 b2.size)).trans ((b2.cell hw1).trans d0), (hb.cell (Nat.lt_of_lt_of_le hw1 b2.size)).trans ((b2.cell hw1).trans d1)⟩)
  have hbw' : w.heap.size ≤ w2.heap.size := b02.size
  have HT := Lib.hid (HS2.out.take_ k (by omega))
  clear d0 d1 hc hc1
  have i1 : (k : Int) + 1 ≤ (l.length : Int) := by omega
  have i2 : (k : Int) ≤ (c : Int) := by omega
  have htn : ((k : Int) + 1).toNat = k + 1 := by omega
  have hnn : 0 ≤ (k : Int) + 1 := by omega
  have hwr : IntKind.i64.wrap ((k : Int) + 1) = (k : Int) + 1 := IntWalk.i64_in _ (by omega)
  have hlk : (l.take k).length = k := by simp; omega
  have hA0 : k + 1 < l.length → (if c = k + 1 then (some ⟨b, o, none⟩ : Option Addr) else some ⟨b, o + (k + 1) * 2, none⟩) = some ⟨b, o + (k + 1) * 2, none⟩ := fun hh => if_neg (by omega)
  obtain ⟨A', hA, hA'⟩ : ∃ A', (if c = k + 1 then (some ⟨b, o, none⟩ : Option Addr) else some ⟨b, o + (k + 1) * 2, none⟩) = A' ∧ (k + 1 < l.length → A' = some ⟨b, o + (k + 1) * 2, none⟩) := ⟨_, rfl, hA0⟩
  have HD := Lib.hid (SlR.drop_ (xs := l) (en := e_ss) (size := 2) (fun _ => rfl) HS2.out (k + 1) (by omega) A' hA')
  have HA' := Lib.hid hA'
  clear hA' hA0
  go_wp2_with fail
  refine wp_region_plan (.take 0 (.take 1 (.take 2 (.take 4 (.take 7 (.take 8 (.take 9 (.take 10 (.take 11 (.two 3 (.eff 5 (.eff 6 (.eff 12 (.eff 13 (.take 14 .nil))))) 5 (.eff 3 (.eff 6 (.eff 12 (.eff 13 (.take 14 .nil))))))))))))))) (fun w' => Below w2.heap.size w2 w') (by kernel_rfl) (by kernel_rfl) (fun _ _ _ _ _ h => h) (by kernel_rfl) (by kernel_rfl) (by first | exact (Below.refl _ _).drew | exact Below.drew (by assumption)) ?_
  have bS : Below w2.heap.size w2 _ := (by first | exact (Below.refl _ w2).drew | exact Below.drew (by assumption))
  iterate 9 (first | (apply seqP_skip; (focus (simp only [List.getElem?_toArray, List.getElem?_cons_succ, List.getElem?_cons_zero]; rfl)); (focus rfl); simp only [Act.put, List.setIfInBounds_toArray, List.set_cons_zero, List.set_cons_succ]) | (apply seqP_take; (focus (simp only [List.getElem?_toArray, List.getElem?_cons_succ, List.getElem?_cons_zero]; rfl)); (focus rfl); (focus (intro w' hS; obtain ⟨c0, c1⟩ := HC.out _ hS; first | (go_simp; rfl) | (go_simp; done))); simp only [Act.put, List.setIfInBounds_toArray, List.set_cons_zero, List.set_cons_succ]))
  clear hwr htn hnn hA
  apply seqP_two
  (focus (simp only [List.getElem?_toArray, List.getElem?_cons_succ, List.getElem?_cons_zero]; rfl))
  (focus (simp only [List.getElem?_toArray, List.getElem?_cons_succ, List.getElem?_cons_zero]; rfl))
  (focus rfl)
  (focus rfl)
  · intro K hK
    go_simp
    go_at_call 38
    refine (cloneFld_any _ (l.take k) _ HT.out.drew (by rw [hlk]; omega)).mono ?_
    rintro e wA ⟨⟨u, rfl, oA⟩, bA⟩
    have sA : Below w2.heap.size w2 wA := (Below.refl _ w2).drew.trans bA
    refine hK _ _ ⟨sA, ?_⟩
    clear hK K
    apply seqP_eff
    (focus (simp only [List.getElem?_toArray, List.getElem?_cons_succ, List.getElem?_cons_zero]; rfl))
    (focus rfl)
    intro K hK
    go_simp
    have sB := sA.alloc sA.size (.cells #[.string n, .string a] 31)
    refine hK _ _ ⟨sB, ?_⟩
    clear hK K
    apply seqP_eff
    (focus (simp only [List.getElem?_toArray, List.getElem?_cons_succ, List.getElem?_cons_zero]; rfl))
    (focus rfl)
    intro K hK
    refine wp_append_owns (.tmp 26) (.tmp 28) _ rfl w2.heap.size 31 (.agg #[.string ByteArray.empty, .string ByteArray.empty]) 2 32 e_ss Try.underlying29 fldInfoB rfl (by decide) (fun _ => rfl) _ (l.take k) rfl (oA.alloc _) _ [(n, a)] rfl (SlR.lit wA [.string n, .string a] _ [(n, a)] rfl) (ss_oneB _) (by simp only [maxLen, List.length_cons, List.length_nil]; omega) (by simp only [List.length_cons, List.length_nil]; omega) (sB.size) ?_
    intro v' wC ho hg
    have sC := sB.grown hg sB.size (fun k hk => (oA.lt k hk).1)
    have HO1 := Lib.hid ho
    refine hK _ _ ⟨sC, ?_⟩
    clear hK K ho
    apply seqP_eff
    (focus (simp only [List.getElem?_toArray, List.getElem?_cons_succ, List.getElem?_cons_zero]; rfl))
    (focus rfl)
    intro K hK
    go_simp
    go_at_call 13
    refine (drop_any _ (l.drop (k + 1)) n _ (HD.out.below sC) (by simp; omega) hzd hn).mono ?_
    rintro e wD ⟨⟨u2, rfl, oD⟩, bD⟩
    have sD : Below w2.heap.size w2 wD := sC.trans (bD.mono sC.size)
    have hdl := dropF_len (l.drop (k + 1)) n
    have hdl2 : (l.drop (k + 1)).length = l.length - (k + 1) := List.length_drop ..
    refine hK _ _ ⟨sD, ?_⟩
    clear hK K
    apply seqP_eff
    (focus (simp only [List.getElem?_toArray, List.getElem?_cons_succ, List.getElem?_cons_zero]; rfl))
    (focus rfl)
    intro K hK
    refine wp_append_owns (.tmp 29) (.tmp 35) _ rfl w2.heap.size 31 (.agg #[.string ByteArray.empty, .string ByteArray.empty]) 2 32 e_ss Try.underlying29 fldInfoB rfl (by decide) (fun _ => rfl) _ (l.take k ++ [(n, a)]) rfl (HO1.out.below bD) _ (dropF (l.drop (k + 1)) n) rfl (SlR.of_owns oD) (ss_oneB _) (by simp only [maxLen, List.length_append, List.length_cons, List.length_nil]; omega) (by simp only [List.length_append, List.length_cons, List.length_nil]; omega) (sD.size) ?_
    intro v2 wE ho2 hg2
    have sE := sD.grown hg2 sD.size (fun k hk => ((HO1.out.below bD).lt k hk).1)
    refine hK _ _ ⟨sE, ?_⟩
    clear hK K
    iterate 1 (first | (apply seqP_skip; (focus (simp only [List.getElem?_toArray, List.getElem?_cons_succ, List.getElem?_cons_zero]; rfl)); (focus rfl); simp only [Act.put, List.setIfInBounds_toArray, List.set_cons_zero, List.set_cons_succ]) | (apply seqP_take; (focus (simp only [List.getElem?_toArray, List.getElem?_cons_succ, List.getElem?_cons_zero]; rfl)); (focus rfl); (focus (intro w' hS; skip; first | (go_simp; rfl) | (go_simp; done))); simp only [Act.put, List.setIfInBounds_toArray, List.set_cons_zero, List.set_cons_succ]))
    refine seqP_nil ?_
    go_wp2_with fail
    go_ret
    exact ⟨⟨_, rfl, by rw [HF.out]; exact ho2.mono hbw'⟩, b02.trans (sE.mono hbw')⟩
  · intro K hK
    go_simp
    have sA : Below w2.heap.size w2 (w2.alloc (.cells #[.string n, .string a] 31)).drew := ((Below.refl w2.heap.size w2).alloc (Nat.le_refl _) _).drew
    refine hK _ _ ⟨sA, ?_⟩
    clear hK K
    have HN : SlR (w2.alloc (.cells #[.string n, .string a] 31)).drew e_ss (.slice (some ⟨w2.heap.size, 0, none⟩) 1 1) [(n, a)] := (SlR.lit (enc := e_ss) w2 [.string n, .string a] 31 [(n, a)] rfl).drew
    have HN1 := Lib.hid HN
    have HT3 := Lib.hid (HT.out.below sA)
    clear HN
    generalize (w2.alloc (.cells #[.string n, .string a] 31)).drew = wA at *
    apply seqP_eff
    (focus (simp only [List.getElem?_toArray, List.getElem?_cons_succ, List.getElem?_cons_zero]; rfl))
    (focus rfl)
    intro K hK
    go_simp
    go_at_call 38
    refine (cloneFld_any _ (l.take k) _ HT3.out (by rw [hlk]; omega)).mono ?_
    rintro e wB ⟨⟨u, rfl, oA⟩, bB⟩
    have sB : Below w2.heap.size w2 wB := sA.trans (bB.mono sA.size)
    refine hK _ _ ⟨sB, ?_⟩
    clear hK K
    apply seqP_eff
    (focus (simp only [List.getElem?_toArray, List.getElem?_cons_succ, List.getElem?_cons_zero]; rfl))
    (focus rfl)
    intro K hK
    refine wp_append_owns (.tmp 26) (.tmp 28) _ rfl w2.heap.size 31 (.agg #[.string ByteArray.empty, .string ByteArray.empty]) 2 32 e_ss Try.underlying29 fldInfoB rfl (by decide) (fun _ => rfl) _ (l.take k) rfl (oA.mono sA.size) _ [(n, a)] rfl (HN1.out.below bB) (ss_oneB _) (by simp only [maxLen, List.length_cons, List.length_nil]; omega) (by simp only [List.length_cons, List.length_nil]; omega) (sB.size) ?_
    intro v' wC ho hg
    have sC := sB.grown hg sB.size (fun k hk => Nat.le_trans sA.size (oA.lt k hk).1)
    have HO1 := Lib.hid ho
    refine hK _ _ ⟨sC, ?_⟩
    clear hK K ho
    apply seqP_eff
    (focus (simp only [List.getElem?_toArray, List.getElem?_cons_succ, List.getElem?_cons_zero]; rfl))
    (focus rfl)
    intro K hK
    go_simp
    go_at_call 13
    refine (drop_any _ (l.drop (k + 1)) n _ (HD.out.below sC) (by simp; omega) hzd hn).mono ?_
    rintro e wD ⟨⟨u2, rfl, oD⟩, bD⟩
    have sD : Below w2.heap.size w2 wD := sC.trans (bD.mono sC.size)
    have hdl := dropF_len (l.drop (k + 1)) n
    have hdl2 : (l.drop (k + 1)).length = l.length - (k + 1) := List.length_drop ..
    refine hK _ _ ⟨sD, ?_⟩
    clear hK K
    apply seqP_eff
    (focus (simp only [List.getElem?_toArray, List.getElem?_cons_succ, List.getElem?_cons_zero]; rfl))
    (focus rfl)
    intro K hK
    refine wp_append_owns (.tmp 29) (.tmp 35) _ rfl w2.heap.size 31 (.agg #[.string ByteArray.empty, .string ByteArray.empty]) 2 32 e_ss Try.underlying29 fldInfoB rfl (by decide) (fun _ => rfl) _ (l.take k ++ [(n, a)]) rfl (HO1.out.below bD) _ (dropF (l.drop (k + 1)) n) rfl (SlR.of_owns oD) (ss_oneB _) (by simp only [maxLen, List.length_append, List.length_cons, List.length_nil]; omega) (by simp only [List.length_append, List.length_cons, List.length_nil]; omega) (sD.size) ?_
    intro v2 wE ho2 hg2
    have sE := sD.grown hg2 sD.size (fun k hk => ((HO1.out.below bD).lt k hk).1)
    refine hK _ _ ⟨sE, ?_⟩
    clear hK K
    iterate 1 (first | (apply seqP_skip; (focus (simp only [List.getElem?_toArray, List.getElem?_cons_succ, List.getElem?_cons_zero]; rfl)); (focus rfl); simp only [Act.put, List.setIfInBounds_toArray, List.set_cons_zero, List.set_cons_succ]) | (apply seqP_take; (focus (simp only [List.getElem?_toArray, List.getElem?_cons_succ, List.getElem?_cons_zero]; rfl)); (focus rfl); (focus (intro w' hS; skip; first | (go_simp; rfl) | (go_simp; done))); simp only [Act.put, List.setIfInBounds_toArray, List.set_cons_zero, List.set_cons_succ]))
    refine seqP_nil ?_
    go_wp2_with fail
    go_ret
    exact ⟨⟨_, rfl, by rw [HF.out]; exact ho2.mono hbw'⟩, b02.trans (sE.mono hbw')⟩
theorem set_any (v : Value) (l : List Fld) (n a : ByteArray) (w : World) (h : SlR w e_ss v l) (hl : (l.length + 1) * 32 ≤ 140737488355328) (hz : Lims l) (hn : n.size ≤ 140737488351232) :
    Calls Try.prog 12 #[v, .string n, .string a] w fun e w' => RetFlds w.heap.size (setF l n a) e w' ∧ Below w.heap.size w w' := by
  by_cases hany : l.any (isN (lowS n)) = true
  · obtain ⟨k, hk, hi, -⟩ := idx_some hany
    exact set_some v l n a w h hl hz hn k hk hi
  · exact set_none v l n a w h hl hz hn (by simpa using hany)
end Go.Proofs.Ythhhlaoiampinaa
