/- FreshStale: the law's walk. -/
import Derived.Test.YtiijgbgknolmcaaDoorFrsL
namespace Go.Proofs.YtiijgbgknolmcaaDoor
set_option maxRecDepth 20000
open Go.RowKit
open Fr
theorem wt_drop (l : List Fld) (n : ByteArray) : wt (dropF l n) ≤ wt l := by
  unfold dropF keepN
  generalize lowS n = m
  induction l with
  | nil => exact Nat.le_refl _
  | cons x l ih =>
    unfold wt at *
    rw [List.filter_cons]
    split
    · simp only [List.map_cons, List.sum_cons]; omega
    · simp only [List.map_cons, List.sum_cons]; omega
set_option maxHeartbeats 12800000 in
theorem freshStale_walk (v0 : Value) (l0 : List Fld) (x : Hd) (u : Value) (l : List Fld) (now : Int) (w : World) (h0 : SlR w e_ss v0 l0) (hs0 : (l0.map (fun d => d.1.size + d.2.size + 2)).sum ≤ 1048576) (h : SlR w e_ss u l) (hs : (l.map (fun d => d.1.size + d.2.size + 2)).sum ≤ 1048576) (hc : (Lit.int .i64 x.code).wf = true) (ha : (Lit.int .i64 x.asked).wf = true) (hca : (Lit.int .i64 x.came).wf = true) (hnow : (Lit.int .i64 now).wf = true) (hmax : HasMax w) (hp10 : HasP10 w) :
    Calls Tryd.prog 10 #[v0, hv x u, .int .i64 now] w fun e w' => e = .returned (.bool true) ∧ Below w.heap.size w w' := by
  obtain ⟨D, hD⟩ := isDate_ex
  have hL : LOk w u l := ⟨h, wt_le hs⟩
  have hL0 : LOk w v0 l0 := ⟨h0, wt_le hs0⟩
  have hs2 : wt (dropF l0 nCC) ≤ 4398046511104 := Nat.le_trans (wt_drop l0 nCC) (wt_le hs0)
  have b0 : Below w.heap.size w (hA w x u) := (Below.refl _ _).alloc (Nat.le_refl _) _
  have HH := Lib.hid (HB.new w x u)
  have hd0 : dirsF (dropF l0 nCC) = [] := dirsF_no (selF_drop_self l0 nCC)
  have HDR := Lib.hid (fun w' (hb : Below w.heap.size w w') => drop_any v0 l0 nCC w' (hL0.below hb).sl hL0.len hL0.lims (by decide))
  have HU := Lib.hid (fun v w' (hb : Below w.heap.size w w') (hv : SlR w' e_ss v (dropF l0 nCC)) => use_any D hD v (dropF l0 nCC) x u l now w' ⟨hv, hs2⟩ (hL.below hb) (hp10.below rfl hb) (hmax.below rfl hb))
  rw [hd0, useF_nil] at HU
  have HLI := Lib.hid (fun w' (hb : Below w.heap.size w w') => life_any D hD x u l w' (hL.below hb) (hp10.below rfl hb) (hmax.below rfl hb))
  have HAG := Lib.hid (fun w' (hb : Below w.heap.size w w') => age_any D hD x u l now w' (hL.below hb) (hp10.below rfl hb) (hmax.below rfl hb))
  have HAN := Lib.hid (fun w' (hb : Below w.heap.size w w') => anchored_any w' (hp10.below rfl hb) (hmax.below rfl hb))
  have HGE := Lib.hid (fun w' (hb : Below w.heap.size w w') => getL_any u l nCC w' (hL.below hb) (by decide))
  have htx := hL.txt nCC
  have HPA := Lib.hid (fun w' => parseD_any (txt l nCC) w' htx)
  have hdl := (dirsD_ok (txt l nCC)).1
  have HHA := Lib.hid (fun v w' (hv : SlR w' e_sbs v (dirsD (txt l nCC))) => has_any v (dirsD (txt l nCC)) nNC w' hv (by omega))
  rw [show (findD (dirsD (txt l nCC)) nNC).isSome = hasD (dirsF l) nNC from rfl] at HHA
  clear h hs hc ha hca hnow hL hmax hp10 h0 hs0 hL0 hdl htx hs2 hd0
  generalize lifeF D l x.code x.came = li at *
  generalize ageF D l x.came x.asked now = ag at *
  generalize hasD (dirsF l) nNC = nc at *
  generalize dirsD (txt l nCC) = dd at *
  generalize txt l nCC = T at *
  generalize isR l nCC = isr at *
  obtain ⟨rm, rt, rf, rb, code, rs, bd, asked, came, mark⟩ := x
  unfold hv at *
  unfold hA at *
  dsimp only at *
  go_enter Tryd.func10, Tryd.ntmps10
  go_wp2_with fail
  refine (HAN.out _ b0).mono ?_
  rintro e w1 ⟨rfl, b1⟩
  have B1 := b0.trans (b1.mono b0.size)
  have HH1 := Lib.hid (HH.out.below b1)
  go_wp2_with fail
  refine (HDR.out _ B1).mono ?_
  rintro e w2 ⟨⟨v, rfl, o2⟩, b2⟩
  have HV := Lib.hid (SlR.of_owns o2)
  have B2 := belT B1 b2
  have HH2 := Lib.hid (HH1.out.below b2)
  clear o2
  obtain ⟨hl, x0, x1, x2, x3, x4, x5, x6, x7, x8, x9, x10⟩ := HH2.out
  dsimp only at x0 x1 x2 x3 x4 x5 x6 x7 x8 x9 x10
  go_wp2_with fail
  refine (HU.out v _ B2 HV.out).mono ?_
  rintro e w3 ⟨rfl, b3⟩
  have B3 := belT B2 b3
  have HH3 := Lib.hid (HH2.out.below b3)
  clear x0 x1 x2 x3 x4 x5 x6 x7 x8 x9 x10 HAN HDR HU HH HH1 b0 b1 b2 B1 B2
  have HX := Lib.hid (fun w' (hb : Below w3.heap.size w3 w') => HH3.out.below hb)
  have HLI3 := Lib.hid (fun w' (hb : Below w3.heap.size w3 w') => HLI.out w' (belT B3 hb))
  have HAG3 := Lib.hid (fun w' (hb : Below w3.heap.size w3 w') => HAG.out w' (belT B3 hb))
  clear HLI HAG
  by_cases hserve : nc = false ∧ ag < li
  · obtain ⟨rfl, hlt⟩ := hserve
    rw [if_neg (by simp), if_pos hlt]
    have d1 : decide (ag < li) = true := decide_eq_true hlt
    clear hlt
    go_wp2_with fail
    refine wp_region_seq [(true, 0), (true, 2), (true, 3), (false, 1), (false, 4), (true, 5), (true, 6)] (fun w' => Below w3.heap.size w3 w') (by kernel_rfl) (by kernel_rfl) (fun _ _ _ _ _ h => h) (by kernel_rfl) (by kernel_rfl) (by first | exact (Below.refl _ _).drew | exact Below.drew (by assumption)) ?_
    have bS : Below w3.heap.size w3 _ := (by first | exact Below.drew (by assumption) | exact (Below.refl _ w3).drew)
    iterate 7 (first
      | (apply seqH_skip; (focus (simp only [List.getElem?_toArray, List.getElem?_cons_succ, List.getElem?_cons_zero]; rfl)); (focus rfl); simp only [Act.put, List.setIfInBounds_toArray, List.set_cons_zero, List.set_cons_succ])
      | (apply seqH_take; (focus (simp only [List.getElem?_toArray, List.getElem?_cons_succ, List.getElem?_cons_zero]; rfl)); (focus rfl); (focus (intro w' hS; obtain ⟨hl, x0, x1, x2, x3, x4, x5, x6, x7, x8, x9, x10⟩ := HX.out _ hS; dsimp only at x0 x1 x2 x3 x4 x5 x6 x7 x8 x9 x10; first | (go_simp; rfl) | (go_simp; done))); simp only [Act.put, List.setIfInBounds_toArray, List.set_cons_zero, List.set_cons_succ])
      | (apply seqH_pass; (focus (simp only [List.getElem?_toArray, List.getElem?_cons_succ, List.getElem?_cons_zero]; rfl)); (focus rfl); (focus assumption); simp only [Act.put, List.setIfInBounds_toArray, List.set_cons_zero, List.set_cons_succ])
      | (apply seqH_eff; (focus (simp only [List.getElem?_toArray, List.getElem?_cons_succ, List.getElem?_cons_zero]; rfl)); (focus rfl); intro K hK; go_simp; (first | (go_at_call 22; (with_reducible refine (HLI3.out _ (by assumption)).mono ?_)) | (go_at_call 19; (with_reducible refine (HAG3.out _ (by assumption)).mono ?_))); rintro e wN ⟨rfl, bN⟩; refine hK _ _ (seq_next (by assumption) bN (fun bS' => ?_)); clear hK K))
    refine seqH_nil ?_
    go_wp2_with fail
    go_ret
    exact ⟨rfl, belT B3 (by assumption)⟩
  · have hu : (if nc = true then (2 : Int) else if ag < li then 1 else 2) = 2 := by
      cases nc
      · rw [if_neg (by simp), if_neg (fun h => hserve ⟨rfl, h⟩)]
      · rw [if_pos rfl]
    rw [hu]
    obtain ⟨hl, x0, x1, x2, x3, x4, x5, x6, x7, x8, x9, x10⟩ := HH3.out
    dsimp only at x0 x1 x2 x3 x4 x5 x6 x7 x8 x9 x10
    clear hu
    go_wp2_with fail
    clear x0 x1 x2 x3 x4 x5 x6 x7 x8 x9 x10
    refine (HGE.out _ B3).mono ?_
    rintro e w4 ⟨rfl, b4⟩
    go_wp2_with fail
    refine (HPA.out _).mono ?_
    rintro e w5 ⟨⟨pv, c, rfl, hps, -⟩, b5⟩
    have b35 := belT b4 b5
    have B5 := belT B3 b35
    have HPS := Lib.hid hps
    have HX5 := Lib.hid (fun w' (hb : Below w5.heap.size w5 w') => HX.out w' (belT b35 hb))
    have HLI5 := Lib.hid (fun w' (hb : Below w5.heap.size w5 w') => HLI3.out w' (belT b35 hb))
    have HAG5 := Lib.hid (fun w' (hb : Below w5.heap.size w5 w') => HAG3.out w' (belT b35 hb))
    have HHA5 := Lib.hid (fun w' (hb : Below w5.heap.size w5 w') => HHA.out pv w' (HPS.out.below hb))
    unfold nNC at HHA5
    clear hps b4 b5 HX HLI3 HAG3 HGE HPA HHA HH2 HH3
    go_wp2_with fail
    by_cases hle : li ≤ ag
    · have d1 : decide (li ≤ ag) = true := decide_eq_true hle
      clear hle hserve
      refine wp_region_seq [(true, 0), (true, 1), (true, 2), (true, 3), (true, 5), (true, 6), (false, 4), (false, 7), (true, 8), (true, 9), (true, 10), (false, 11), (true, 12), (true, 13), (true, 14)] (fun w' => Below w5.heap.size w5 w') (by kernel_rfl) (by kernel_rfl) (fun _ _ _ _ _ h => h) (by kernel_rfl) (by kernel_rfl) (by first | exact (Below.refl _ _).drew | exact Below.drew (by assumption)) ?_
      have bS : Below w5.heap.size w5 _ := (by first | exact Below.drew (by assumption) | exact (Below.refl _ w5).drew)
      iterate 15 (first
        | (apply seqH_skip; (focus (simp only [List.getElem?_toArray, List.getElem?_cons_succ, List.getElem?_cons_zero]; rfl)); (focus rfl); simp only [Act.put, List.setIfInBounds_toArray, List.set_cons_zero, List.set_cons_succ])
        | (apply seqH_take; (focus (simp only [List.getElem?_toArray, List.getElem?_cons_succ, List.getElem?_cons_zero]; rfl)); (focus rfl); (focus (intro w' hS; obtain ⟨hl, x0, x1, x2, x3, x4, x5, x6, x7, x8, x9, x10⟩ := HX5.out _ hS; dsimp only at x0 x1 x2 x3 x4 x5 x6 x7 x8 x9 x10; first | (go_simp; rfl) | (go_simp; done))); simp only [Act.put, List.setIfInBounds_toArray, List.set_cons_zero, List.set_cons_succ])
        | (apply seqH_pass; (focus (simp only [List.getElem?_toArray, List.getElem?_cons_succ, List.getElem?_cons_zero]; rfl)); (focus rfl); (focus assumption); simp only [Act.put, List.setIfInBounds_toArray, List.set_cons_zero, List.set_cons_succ])
        | (apply seqH_eff; (focus (simp only [List.getElem?_toArray, List.getElem?_cons_succ, List.getElem?_cons_zero]; rfl)); (focus rfl); intro K hK; go_simp; (first | (go_at_call 22; (with_reducible refine (HLI5.out _ (by assumption)).mono ?_)) | (go_at_call 19; (with_reducible refine (HAG5.out _ (by assumption)).mono ?_)) | (go_at_call 26; (with_reducible refine (HHA5.out _ (by assumption)).mono ?_))); rintro e wN ⟨rfl, bN⟩; refine hK _ _ (seq_next (by assumption) bN (fun bS' => ?_)); clear hK K))
      refine seqH_nil ?_
      go_wp2_with fail
      go_ret
      exact ⟨rfl, belT B5 (by assumption)⟩
    · have d1 : decide (li ≤ ag) = false := decide_eq_false hle
      obtain rfl : nc = true := by
        cases nc
        · exact absurd ⟨rfl, by omega⟩ hserve
        · rfl
      clear hle hserve
      refine wp_region_seq [(true, 0), (true, 1), (true, 2), (true, 3), (true, 5), (true, 6), (false, 4), (false, 7), (true, 8), (true, 9), (true, 10), (false, 11), (true, 12), (true, 13), (true, 14)] (fun w' => Below w5.heap.size w5 w') (by kernel_rfl) (by kernel_rfl) (fun _ _ _ _ _ h => h) (by kernel_rfl) (by kernel_rfl) (by first | exact (Below.refl _ _).drew | exact Below.drew (by assumption)) ?_
      have bS : Below w5.heap.size w5 _ := (by first | exact Below.drew (by assumption) | exact (Below.refl _ w5).drew)
      iterate 15 (first
        | (apply seqH_skip; (focus (simp only [List.getElem?_toArray, List.getElem?_cons_succ, List.getElem?_cons_zero]; rfl)); (focus rfl); simp only [Act.put, List.setIfInBounds_toArray, List.set_cons_zero, List.set_cons_succ])
        | (apply seqH_take; (focus (simp only [List.getElem?_toArray, List.getElem?_cons_succ, List.getElem?_cons_zero]; rfl)); (focus rfl); (focus (intro w' hS; obtain ⟨hl, x0, x1, x2, x3, x4, x5, x6, x7, x8, x9, x10⟩ := HX5.out _ hS; dsimp only at x0 x1 x2 x3 x4 x5 x6 x7 x8 x9 x10; first | (go_simp; rfl) | (go_simp; done))); simp only [Act.put, List.setIfInBounds_toArray, List.set_cons_zero, List.set_cons_succ])
        | (apply seqH_pass; (focus (simp only [List.getElem?_toArray, List.getElem?_cons_succ, List.getElem?_cons_zero]; rfl)); (focus rfl); (focus assumption); simp only [Act.put, List.setIfInBounds_toArray, List.set_cons_zero, List.set_cons_succ])
        | (apply seqH_eff; (focus (simp only [List.getElem?_toArray, List.getElem?_cons_succ, List.getElem?_cons_zero]; rfl)); (focus rfl); intro K hK; go_simp; (first | (go_at_call 22; (with_reducible refine (HLI5.out _ (by assumption)).mono ?_)) | (go_at_call 19; (with_reducible refine (HAG5.out _ (by assumption)).mono ?_)) | (go_at_call 26; (with_reducible refine (HHA5.out _ (by assumption)).mono ?_))); rintro e wN ⟨rfl, bN⟩; refine hK _ _ (seq_next (by assumption) bN (fun bS' => ?_)); clear hK K))
      refine seqH_nil ?_
      go_wp2_with fail
      go_ret
      exact ⟨rfl, belT B5 (by assumption)⟩
end Go.Proofs.YtiijgbgknolmcaaDoor
