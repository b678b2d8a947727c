/- ChunkGrows: what is behind a text is of no matter for all of its pieces but the last one. -/
import Derived.Test.YtnobcehiahcfkaaCkE
namespace Go.Proofs.Ytnobcehiahcfkaa
set_option maxRecDepth 20000
open Go.RowKit Go.Shelf
set_option maxHeartbeats 1000000 in
theorem chunkGrows_walk (s t : ByteArray) (w : World) (hs : s.size ≤ 1048576) (ht : t.size ≤ 1048576) :
    Calls Try.prog 3 #[.string s, .string t] w fun e w' => e = .returned (.bool true) ∧ Below w.heap.size w w' := by
  have HG := Lib.hid (Pc.grows gear (sl s) (sl t))
  have HS : Hid (sl (s ++ t) = sl s ++ sl t) := sl_append s t
  have HB1 := Lib.hid (ed_len (sl s) (by rw [sl_len]; omega))
  have HB2 := Lib.hid (ed_len (sl s ++ sl t) (by rw [List.length_append, sl_len, sl_len]; omega))
  go_enter Try.func3, Try.ntmps3
  go_wp2_with fail
  refine (edges_any s w (by omega)).mono ?_
  rintro e w1 ⟨v1, rfl, ho1, b1⟩
  go_wp2_with fail
  refine (edges_any (s ++ t) w1 (by rw [ByteArray.size_append]; omega)).mono ?_
  rintro e w2 ⟨v2, rfl, ho2, b2⟩
  rw [HS.out] at ho2
  generalize Pc.ed gear (sl s) = xs at *
  generalize Pc.ed gear (sl s ++ sl t) = ys at *
  have HX := Lib.hid ((SlR.of_owns ho1).below b2)
  have HY := Lib.hid (SlR.of_owns ho2)
  obtain ⟨A, c, rfl, hcA⟩ := (SlR.of_owns ho1).form
  obtain ⟨B, d, rfl, hcB⟩ := (SlR.of_owns ho2).form
  have bB := b1.trans (b2.mono b1.size)
  have hx8 : xs.length ≤ 140737488351232 := HB1.out
  have hy8 : ys.length ≤ 140737488351232 := HB2.out
  clear ho1 ho2
  go_wp2_with fail
  refine (cut_x_any w2).mono ?_
  rintro e w3 ⟨⟨A', c', rfl⟩, b3⟩
  have bC := bB.trans (b3.mono bB.size)
  by_cases h0 : xs.length = 0
  · have e0 : (((xs.length : Nat) : Int) == 0) = true := by rw [h0]; rfl
    go_wp2_with fail
    refine wp_region_seq [(true, 0), (true, 1), (true, 2), (true, 3), (true, 4), (true, 5), (true, 6), (true, 7), (true, 8), (true, 9), (true, 10), (true, 11), (true, 12), (true, 13), (true, 14), (true, 15), (true, 16), (true, 17), (true, 18), (true, 19), (false, 20), (true, 21), (true, 22), (true, 23)] (fun w' => Below w3.heap.size w3 w') (by kernel_rfl) (by kernel_rfl) (fun _ _ _ _ _ h => h) (by kernel_rfl) (by kernel_rfl) (by first | exact (Below.refl _ _).drew | exact Below.drew (by assumption)) ?_
    have bS : Below w3.heap.size w3 _ := (by first | exact Below.drew (by assumption) | exact (Below.refl _ w3).drew)
    iterate 24 (first
      | (apply seqH_skip; (focus (simp only [List.getElem?_toArray, List.getElem?_cons_succ, List.getElem?_cons_zero]; rfl)); (focus rfl); simp only [Act.put, List.setIfInBounds_toArray, List.set_cons_zero, List.set_cons_succ])
      | (apply seqH_take; (focus (simp only [List.getElem?_toArray, List.getElem?_cons_succ, List.getElem?_cons_zero]; rfl)); (focus rfl); (focus (intro w' hS; skip; first | (go_simp; rfl) | (go_simp; done))); simp only [Act.put, List.setIfInBounds_toArray, List.set_cons_zero, List.set_cons_succ])
      | (apply seqH_pass; (focus (simp only [List.getElem?_toArray, List.getElem?_cons_succ, List.getElem?_cons_zero]; rfl)); (focus rfl); (focus assumption); simp only [Act.put, List.setIfInBounds_toArray, List.set_cons_zero, List.set_cons_succ])
      | (apply seqH_eff; (focus (simp only [List.getElem?_toArray, List.getElem?_cons_succ, List.getElem?_cons_zero]; rfl)); (focus rfl); intro K hK; go_simp; fail; rintro e wN ⟨rfl, bN⟩; refine hK _ _ (seq_next (by assumption) bN (fun bS' => ?_)); clear hK K))
    refine seqH_nil ?_
    go_wp2_with fail
    go_ret
    exact ⟨rfl, bC.trans (bS.mono bC.size)⟩
  · obtain ⟨hl, ht⟩ := HG.out.resolve_left h0
    have e0 : (((xs.length : Nat) : Int) == 0) = false := by rw [beq_eq_false_iff_ne]; omega
    have e1 : decide (((xs.length : Nat) : Int) ≤ ((ys.length : Nat) : Int)) = true := decide_eq_true (by omega)
    have e1' : decide (xs.length ≤ ys.length) = true := decide_eq_true hl
    have hn : ((xs.length : Int) - 1).toNat = xs.length - 1 := by omega
    have HT := Lib.hid ht
    have h1 : 1 ≤ xs.length := by omega
    have HEQ : Hid (∀ wc, Below w3.heap.size w3 wc → Calls Try.prog 17 #[.slice A (xs.length - 1) c, .slice B (xs.length - 1) d] wc fun e w' => e = .returned (.bool true) ∧ Below wc.heap.size wc w') := by
      intro wc hwc
      have e1 := ((HX.out.below b3).below hwc).take_ (xs.length - 1) (Nat.sub_le _ _)
      have e2 := ((HY.out.below b3).below hwc).take_ (xs.length - 1) (by omega)
      refine (eqNat_any _ _ _ _ wc e1 e2 (by rw [List.length_take]; omega) (by rw [List.length_take]; omega)).mono ?_
      rintro e w' ⟨rfl, rfl⟩
      exact ⟨by rw [HT.out]; simp, Below.refl _ _⟩
    have hw : IntKind.i64.wrap ((xs.length : Int) - 1) = (xs.length : Int) - 1 := i64_small (by omega) (by omega)
    have hw0 : (0 : Int) ≤ (xs.length : Int) - 1 := by omega
    have hw3 : (1 : Int) ≤ (xs.length : Int) := by omega
    have hw1 : (xs.length : Int) - 1 ≤ (c : Int) := by omega
    have hw2 : (xs.length : Int) - 1 ≤ (d : Int) := by omega
    clear ht
    go_wp2_with fail
    refine wp_region_seq [(true, 0), (true, 1), (true, 2), (true, 3), (true, 4), (true, 5), (true, 6), (true, 7), (true, 8), (true, 9), (true, 10), (true, 11), (true, 12), (true, 13), (true, 14), (true, 15), (true, 16), (true, 17), (true, 18), (true, 19), (false, 20), (true, 21), (true, 22), (true, 23)] (fun w' => Below w3.heap.size w3 w') (by kernel_rfl) (by kernel_rfl) (fun _ _ _ _ _ h => h) (by kernel_rfl) (by kernel_rfl) (by first | exact (Below.refl _ _).drew | exact Below.drew (by assumption)) ?_
    have bS : Below w3.heap.size w3 _ := (by first | exact Below.drew (by assumption) | exact (Below.refl _ w3).drew)
    iterate 24 (first
      | (apply seqH_skip; (focus (simp only [List.getElem?_toArray, List.getElem?_cons_succ, List.getElem?_cons_zero]; rfl)); (focus rfl); simp only [Act.put, List.setIfInBounds_toArray, List.set_cons_zero, List.set_cons_succ])
      | (apply seqH_take; (focus (simp only [List.getElem?_toArray, List.getElem?_cons_succ, List.getElem?_cons_zero]; rfl)); (focus rfl); (focus (intro w' hS; skip; first | (go_simp; rfl) | (go_simp; done))); simp only [Act.put, List.setIfInBounds_toArray, List.set_cons_zero, List.set_cons_succ])
      | (apply seqH_pass; (focus (simp only [List.getElem?_toArray, List.getElem?_cons_succ, List.getElem?_cons_zero]; rfl)); (focus rfl); (focus assumption); simp only [Act.put, List.setIfInBounds_toArray, List.set_cons_zero, List.set_cons_succ])
      | (apply seqH_eff; (focus (simp only [List.getElem?_toArray, List.getElem?_cons_succ, List.getElem?_cons_zero]; rfl)); (focus rfl); intro K hK; go_simp; (go_at_call 17; (with_reducible refine (HEQ.out _ (by assumption)).mono ?_)); rintro e wN ⟨rfl, bN⟩; refine hK _ _ (seq_next (by assumption) bN (fun bS' => ?_)); clear hK K))
    refine seqH_nil ?_
    go_wp2_with fail
    go_ret
    exact ⟨rfl, bC.trans (Below.mono (by assumption) bC.size)⟩
end Go.Proofs.Ytnobcehiahcfkaa
