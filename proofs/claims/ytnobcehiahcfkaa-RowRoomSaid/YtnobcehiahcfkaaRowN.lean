/- RowRoom. -/
import Derived.Test.YtnobcehiahcfkaaRowM
import Derived.Test.YtnobcehiahcfkaaRegionP
namespace Go.Proofs.Ytnobcehiahcfkaa
set_option maxRecDepth 20000
open Go.RowKit Go.Shelf
theorem RowS.keptL {w w' : World} {n0 p c mb n2 : Nat} {room : Int} {ns : List Nd} {u : Value} {ks : List ByteArray} (h : RowS w n0 p room c mb ns) (ho : Owns w n2 9 1 es u ks) (hg : w.grownBy w' u.ownBlock) : RowS w' n0 p room c mb ns :=
  h.keptO hg (fun j hj => by
    obtain ⟨g, cap, cur, hv, _, hh, _⟩ := ho.2.resolve_left (fun h => by rw [h.1] at hj; cases hj)
    have hj' : u.ownBlock = some j := hj
    rw [hv] at hj'
    have hgj : g = j := by simpa [Value.ownBlock] using hj'
    rw [← hgj]
    exact ⟨_, hh, rfl⟩)
set_option maxHeartbeats 8000000 in
theorem rowRoom_walk (room0 : Int) (v : Value) (xs : List Stp) (key : ByteArray) (size0 : Int) (w : World) (hrw : (Lit.int .i64 room0).wf = true) (h : SlR w e_st v xs) (hl : xs.length ≤ maxLen) (hx : ∀ x ∈ xs, Wide x.k ∧ Wide x.a ∧ Wide x.b ∧ x.s.size ≤ maxLen ∧ x.t.size ≤ maxLen) (hk : key.size ≤ 140737488351232) (hsw : (Lit.int .i64 size0).wf = true) :
    Calls Try.prog 7 #[.int .i64 room0, v, .string key, .int .i64 size0] w fun e w' => e = .returned (.bool true) ∧ Below w.heap.size w w' := by
  have hkz : key.size ≤ maxLen := by simp only [maxLen]; omega
  have hq0 := Int.emod_nonneg room0 (b := 500) (by decide)
  have hq1 := Int.emod_lt_of_pos room0 (show (0 : Int) < 500 by decide)
  have hs0 := Int.emod_nonneg size0 (b := 600) (by decide)
  have hs1 := Int.emod_lt_of_pos size0 (show (0 : Int) < 600 by decide)
  have HRA := Lib.hid (fun W : World => rest_any room0 500 W (wide_of hrw) (by decide))
  have HSA := Lib.hid (fun W : World => rest_any size0 600 W (wide_of hsw) (by decide))
  have HRD := Lib.hid (fun room (h1 : 1 ≤ room) (h2 : room ≤ 1000000) => rowed_any room v xs w h1 h2 h hl hx)
  obtain ⟨A, cp, rfl, hc⟩ := h.form
  clear h hl hx hrw hsw
  generalize room0 % 500 = q at *
  generalize size0 % 600 = z at *
  go_enter Try.func7, Try.ntmps7
  go_wp2_with fail
  refine (HRA.out _).mono ?_
  rintro e w1 ⟨rfl, rfl⟩
  go_wp2_with fail
  refine (HRD.out (1 + q) (by omega) (by omega)).mono ?_
  rintro e w1 ⟨p, c, mb, ns, rfl, hr1, b1⟩
  have HR1 := Lib.hid hr1
  clear hr1 HRD HRA
  go_wp2_with fail
  refine (HSA.out _).mono ?_
  rintro e w2 ⟨rfl, rfl⟩
  clear HSA
  go_wp2_with fail
  refine (usedR_any _ p c mb _ ns _ HR1.out).mono ?_
  rintro e w2 ⟨rfl, rfl⟩
  go_wp2_with fail
  refine (keys_any _ p c mb _ ns _ HR1.out).mono ?_
  rintro e w2 ⟨vk, rfl, ok, b2⟩
  have hr2 := HR1.out.below b2
  have hsl := SlR.of_owns ok
  have B2 := b1.trans (b2.mono b1.size)
  have hlen : (keysOf ns).length ≤ 1000000 := by unfold keysOf; rw [List.length_map]; exact hr2.len
  have HRS2 := Lib.hid hr2
  have HT := Lib.hid (fun hn => SlR.texts (xs := keysOf ns) hsl hn)
  obtain ⟨Ak, ck, rfl, hck⟩ := SlR.form (xs := keysOf ns) hsl
  have hfl : (ns.map (·.2.1)).length = (keysOf ns).length := rfl
  clear hr2 hsl ok HR1 b2 b1
  obtain ⟨n2, hn2⟩ : ∃ n2, n2 = w2.heap.size := ⟨_, rfl⟩
  have HN2 := Lib.hid hn2
  have hHn : w.heap.size ≤ n2 := by rw [hn2]; exact B2.size
  obtain ⟨ks, hks⟩ : ∃ ks, keysOf ns = ks := ⟨_, rfl⟩
  rw [hks] at hlen HT hck ⊢
  have HKS := Lib.hid hks
  clear hks
  go_wp2_with fail
  go_loopw [11, 33] (fun rv iv wr => ∃ k : Nat, iv = .int .i64 (k : Int) ∧ k ≤ ks.length ∧ Owns wr n2 9 1 es rv (noKey key (ks.take k)) ∧ Below n2 w2 wr) (fun _ iv _ => ks.length - (intOf iv).toNat)
  case atStart => exact ⟨0, rfl, Nat.zero_le _, Owns.nil .., by rw [hn2]; exact Below.refl _ _⟩
  case round =>
    obtain ⟨k, rfl, hk', how, hbel⟩ := hrel
    by_cases hlt : k < ks.length
    · obtain ⟨bb, off, c3, hv2, hc3, hbb, hcell⟩ := HT.out (by omega)
      injection hv2 with g1 g2 g3
      subst g1 g3
      have c0 := (hbel.cell (p := ⟨bb, off + k, none⟩) (by rw [HN2.out]; exact hbb)).trans (hcell k hlt)
      have HTK : Hid (ks.take (k + 1) = ks.take k ++ [ks[k]]) := by show _ = _; rw [List.take_add_one, List.getElem?_eq_getElem hlt]; rfl
      clear hcell g2
      generalize ks[k] = x at *
      by_cases hxk : x = key
      · have ht := beqL_true hxk
        go_wp2_with fail
        refine ⟨⟨k + 1, by simp, by omega, ?_, hbel⟩, by simp only [intOf]; omega⟩
        rw [HTK.out, noKey_snoc, if_pos hxk, List.append_nil]; exact how
      · have ht := beqL_false hxk
        have hsz : (noKey key (ks.take k)).length ≤ 1000000 := Nat.le_trans (List.length_filter_le _ _) (by rw [List.length_take]; omega)
        have HO := Lib.hid how
        clear how
        go_wp2_with (at_builtin; go_must (refine wpList_append_slr rfl (.tmp 40) (.tmp 42) _ rfl n2 9 (.string ByteArray.empty) 1 16 es Try.underlying24 stringInfo rfl (by decide) (fun _ => rfl) _ (noKey key (ks.take k)) rfl (HO.out.alloc _) _ [x] rfl (SlR.lit wr [.string x] _ [x] rfl) (es_one _) (by simp only [maxLen, List.length_cons, List.length_nil]; omega) (by simp only [List.length_cons, List.length_nil]; omega) (by have := hbel.size; have := HN2.out; simp; omega) ?_); intro v' w3 hown' hgrow)
        refine ⟨⟨k + 1, by simp, by omega, ?_, ?_⟩, by simp only [intOf]; omega⟩
        · rw [HTK.out, noKey_snoc, if_neg hxk]; exact hown'
        · exact (hbel.alloc (by have := hbel.size; have := HN2.out; omega) _).grown hgrow (by have := hbel.size; have := HN2.out; simp; omega) (fun j hj => (HO.out.lt j hj).1)
    · obtain rfl : k = ks.length := by omega
      have htk : ks.take ks.length = ks := List.take_of_length_le (Nat.le_refl _)
      have hrw : RowS wr w.heap.size p (1 + q) c mb ns := HRS2.out.below (HN2.out ▸ hbel)
      rw [htk] at how
      have HB := Lib.hid (B2.trans (hbel.mono hHn))
      have HO := Lib.hid how
      have HRW := Lib.hid hrw
      have HNW : Hid (n2 ≤ wr.heap.size) := by have := hbel.size; have := HN2.out; show _ ≤ _; omega
      have hnl : (noKey key ks).length ≤ 1000000 := Nat.le_trans (List.length_filter_le _ _) hlen
      obtain ⟨A6, c6, rfl⟩ := how.slice
      clear htk how hrw hbel hk' hlt
      by_cases hfit : q < z
      · have hgt : decide (1 + q < 1 + z) = true := by rw [decide_eq_true_iff]; omega
        go_wp2_with fail
        refine (putR_full _ p c mb _ ns key (1 + z) _ HRW.out (by omega) (by omega)).mono ?_
        rintro e w3 ⟨rfl, g3⟩
        have HR3 := Lib.hid (HRW.out.below g3)
        have HB3 := Lib.hid (HB.out.trans (g3.mono HB.out.size))
        clear g3
        go_wp2_with fail
        refine (usedR_any _ p c mb _ ns _ HR3.out).mono ?_
        rintro e w4 ⟨rfl, rfl⟩
        go_wp2_with fail
        go_ret
        exact ⟨by simp, HB3.out⟩
      · have hgt : decide (1 + q < 1 + z) = false := by rw [decide_eq_false_iff_not]; omega
        go_wp2_with fail
        refine (putR_ok _ p c mb _ ns key (1 + z) _ HRW.out (by omega) (by omega) hkz).mono ?_
        rintro e w3 ⟨vw, bn, gone, left, rfl, hgl, how3, hr3, rf3⟩
        have HO3 := Lib.hid (HO.out.rf rf3 (by decide))
        have HB3 := Lib.hid (HB.out.trans rf3.bel)
        have HW3 := Lib.hid how3
        have HR3 := Lib.hid hr3
        have HGL : Hid (noKey key ks = keysOf gone ++ keysOf left) := by show _ = _; rw [← HKS.out, ← keys_without, hgl]; simp [keysOf]
        have hge : gone.map (·.2.1) = keysOf gone := rfl
        obtain ⟨Aw, cw, rfl⟩ := how3.slice
        rw [hge] at HW3
        clear how3 hr3 rf3 hgl
        go_wp2_with fail
        refine (keys_any _ p c mb _ _ _ HR3.out).mono ?_
        rintro e w4 ⟨vn, rfl, ok4, b4⟩
        have hnw : (left ++ [(bn, key, 1 + z)]).map (·.2.1) = keysOf left ++ [key] := by simp [keysOf]
        rw [hnw] at ok4
        have HN4 := Lib.hid (SlR.of_owns ok4)
        have HW4 := Lib.hid (SlR.of_owns (HW3.out.below b4))
        have HO4 := Lib.hid (SlR.of_owns (HO3.out.below b4))
        have HR4 := Lib.hid (HR3.out.below b4)
        have HB4 := Lib.hid (HB3.out.trans (b4.mono HB3.out.size))
        have hu1 : usedOf ns ≤ 1 + q := HRW.out.us
        have hu2 : usedOf (left ++ [(bn, key, 1 + z)]) ≤ 1 + q := HR4.out.us
        obtain ⟨gn, cn, curn, hvn, -⟩ := ok4.2.resolve_left (fun h => by simp at h)
        rw [List.length_append, List.length_cons, List.length_nil] at hvn
        subst hvn
        have hcn : (keysOf left).length ≤ cn := by
          obtain ⟨_, c9, hv9, hc9, _⟩ := HN4.out
          injection hv9 with _ _ hv9
          subst hv9
          simp only [List.length_append] at hc9
          omega
        have hgl : (noKey key ks).length = (keysOf gone).length + (keysOf left).length := by rw [HGL.out, List.length_append]
        clear b4 ok4 hnw HW3 HO3 HR3 HB3
        have hd1 : decide (1 + q < usedOf ns) = false := by rw [decide_eq_false_iff_not]; omega
        have hd2 : decide (1 + q < usedOf (left ++ [(bn, key, 1 + z)])) = false := by rw [decide_eq_false_iff_not]; omega
        generalize usedOf ns = U1 at *
        have hd3 : decide (((noKey key ks).length : Int) < ((keysOf gone).length : Int)) = false := by rw [decide_eq_false_iff_not]; omega
        have hd4 : decide ((noKey key ks).length < (keysOf gone).length) = false := by rw [decide_eq_false_iff_not]; omega
        have hll := HR4.out.len
        have hlL : (keysOf left).length ≤ 1000000 := by unfold keysOf; rw [List.length_map]; simp only [List.length_append] at hll; omega
        have hwl : IntKind.i64.wrap ((keysOf left).length : Int) = ((keysOf left).length : Int) := by rw [IntKind.wrap_i64]; omega
        have hm0 : max (0 : Int) ((keysOf left).length : Int) = ((keysOf left).length : Int) := by omega
        have hmx : max (0 : Int) ((((keysOf left).length + 1 : Nat) : Int) - 1) = ((keysOf left).length : Int) := by omega
        have hgG : (keysOf gone).length ≤ 1000000 := by omega
        clear hgl
        go_wp2_with fail
        refine wp_region_plan (.take 0 (.take 1 (.take 2 (.take 3 (.take 4 (.take 5 (.take 6 (.take 7 (.take 8 (.take 10 (.eff 9 (.take 11 (.take 12 (.take 13 (.take 14 (.take 15 (.take 16 (.take 17 (.take 18 (.take 19 (.take 20 (.take 21 (.take 23 (.take 24 (.take 25 (.take 26 (.take 27 (.take 28 (.take 30 (.eff 22 (.eff 29 (.eff 31 (.take 32 (.take 33 .nil)))))))))))))))))))))))))))))))))) (fun w' => Below w4.heap.size w4 w') (by kernel_rfl) (by kernel_rfl) (fun _ _ _ _ _ h => h) (by kernel_rfl) (by kernel_rfl) ?_ ?_
        · exact (Below.refl _ _).drew
        iterate 10 (first | (apply seqP_skip; (focus (simp only [List.getElem?_toArray, List.getElem?_cons_succ, List.getElem?_cons_zero]; rfl)); (focus rfl); simp only [Act.put, List.setIfInBounds_toArray, List.set_cons_zero, List.set_cons_succ]) | (apply seqP_take; (focus (simp only [List.getElem?_toArray, List.getElem?_cons_succ, List.getElem?_cons_zero]; rfl)); (focus rfl); (focus (intro w' hS; skip; first | (go_simp; rfl) | (go_simp; done))); simp only [Act.put, List.setIfInBounds_toArray, List.set_cons_zero, List.set_cons_succ]))
        apply seqP_eff
        (focus (simp only [List.getElem?_toArray, List.getElem?_cons_succ, List.getElem?_cons_zero]; rfl))
        (focus rfl)
        intro K hK
        go_simp
        go_at_call 25
        refine (usedR_any _ p c mb _ _ _ (HR4.out.drew)).mono ?_
        rintro e w5 ⟨rfl, rfl⟩
        refine hK _ _ ⟨(Below.refl _ _).drew, ?_⟩
        clear hK K
        generalize usedOf (left ++ [(bn, key, 1 + z)]) = U2 at *
        iterate 18 (first | (apply seqP_skip; (focus (simp only [List.getElem?_toArray, List.getElem?_cons_succ, List.getElem?_cons_zero]; rfl)); (focus rfl); simp only [Act.put, List.setIfInBounds_toArray, List.set_cons_zero, List.set_cons_succ]) | (apply seqP_take; (focus (simp only [List.getElem?_toArray, List.getElem?_cons_succ, List.getElem?_cons_zero]; rfl)); (focus rfl); (focus (intro w' hS; skip; first | (go_simp; rfl) | (go_simp; done))); simp only [Act.put, List.setIfInBounds_toArray, List.set_cons_zero, List.set_cons_succ]))
        apply seqP_eff
        (focus (simp only [List.getElem?_toArray, List.getElem?_cons_succ, List.getElem?_cons_zero]; rfl))
        (focus rfl)
        intro K hK
        go_simp
        go_at_call 28
        refine (copyStr_any _ (keysOf gone) _ HW4.out.drew (by omega)).mono ?_
        rintro e w5 ⟨⟨u5, rfl, ou5⟩, b5⟩
        have b5' : Below w4.heap.size w4 w5 := (Below.refl _ w4).drew.trans b5
        have hnt : SlR w5 es (.slice (some ⟨gn, 0, none⟩) (keysOf left).length cn) (keysOf left) := by
          have := (SlR.take_ HN4.out (keysOf left).length (by simp)).below b5'
          rwa [List.take_left] at this
        refine hK _ _ ⟨b5', ?_⟩
        clear hK K
        apply seqP_eff
        (focus (simp only [List.getElem?_toArray, List.getElem?_cons_succ, List.getElem?_cons_zero]; rfl))
        (focus rfl)
        intro K hK
        refine wp_append_owns (.tmp 92) (.tmp 98) _ rfl w4.heap.size 9 (.string ByteArray.empty) 1 16 es Try.underlying24 stringInfo rfl (by decide) (fun _ => rfl) _ (keysOf gone) rfl ou5 _ (keysOf left) rfl hnt (es_one _) (by simp only [maxLen]; omega) (by omega) b5'.size ?_
        intro v6 w6 ho6 hg6
        have b6 : Below w4.heap.size w4 w6 := b5'.grown hg6 b5'.size (fun j hj => (ou5.lt j hj).1)
        refine hK _ _ ⟨b6, ?_⟩
        clear hK K
        apply seqP_eff
        (focus (simp only [List.getElem?_toArray, List.getElem?_cons_succ, List.getElem?_cons_zero]; rfl))
        (focus rfl)
        intro K hK
        go_simp
        go_at_call 22
        refine (eqStr_any _ _ (keysOf gone ++ keysOf left) (noKey key ks) _ (SlR.of_owns ho6) (HO4.out.below b6) (by rw [List.length_append]; omega) (by omega)).mono ?_
        rintro e w7 ⟨rfl, rfl⟩
        have hst : SameTexts (keysOf gone ++ keysOf left) (noKey key ks) = true := by rw [HGL.out]; simp [SameTexts]
        rw [hst]
        refine hK _ _ ⟨b6, ?_⟩
        clear hK K
        iterate 2 (first | (apply seqP_skip; (focus (simp only [List.getElem?_toArray, List.getElem?_cons_succ, List.getElem?_cons_zero]; rfl)); (focus rfl); simp only [Act.put, List.setIfInBounds_toArray, List.set_cons_zero, List.set_cons_succ]) | (apply seqP_take; (focus (simp only [List.getElem?_toArray, List.getElem?_cons_succ, List.getElem?_cons_zero]; rfl)); (focus rfl); (focus (intro w' hS; skip; first | (go_simp; rfl) | (go_simp; done))); simp only [Act.put, List.setIfInBounds_toArray, List.set_cons_zero, List.set_cons_succ]))
        refine seqP_nil ?_
        have HN6 := Lib.hid (HN4.out.below b6)
        have HB6 := Lib.hid (HB4.out.trans (b6.mono HB4.out.size))
        clear hnt ho6 hg6 ou5 b5 b5' b6 hst
        have c9 : w6.cell? ⟨gn, (keysOf left).length, none⟩ = some (.string key) := by
          obtain ⟨b9, o9, k9, hv9, _, _, hc9⟩ := SlR.texts HN6.out (by simp)
          injection hv9 with hv9 _ _
          injection hv9 with hv9
          injection hv9 with g1 g2
          subst g1 g2
          have := hc9 (keysOf left).length (by simp)
          simpa using this
        have ht := beqL_true (x := key) rfl
        go_wp2_with fail
        go_ret
        exact ⟨by simp, HB6.out⟩
end Go.Proofs.Ytnobcehiahcfkaa
