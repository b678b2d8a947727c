/- body.head: as step says. Printed by mkdec.py. -/
import Derived.Test.YtoalfjkbgeiggaaGreatDoorZDecA
namespace Go.Proofs.YtoalfjkbgeiggaaGreatDoor
set_option maxRecDepth 20000
open Go.RowKit
open Ck
theorem hpre_one (x : UInt8) : Lib.hasPrefix [x] [13, 10] = false := by simp [Lib.hasPrefix, List.isPrefixOf]
theorem hpre_no {x y : UInt8} {r : List UInt8} (h : ¬ (x = 13 ∧ y = 10)) : Lib.hasPrefix (x :: y :: r) [13, 10] = false := by
  simp only [Lib.hasPrefix, List.isPrefixOf, Bool.and_true]
  rw [Bool.eq_false_iff]
  intro h'
  simp only [Bool.and_eq_true, beq_iff_eq] at h'
  exact h ⟨h'.1.symm, h'.2.symm⟩
set_option maxHeartbeats 8000000 in
theorem head_any (n0 d : Nat) (s rest : ByteArray) (body : List UInt8) (w : World) (hd : Dec w n0 d .head rest body false) (hs : s.size ≤ 140737488351232) :
    Calls Tryz.prog 78 #[.pointer (some ⟨d, 0, none⟩), .string s] w fun e w' => StepAns n0 d .head rest body (Ck.step .head body (sl s)) e w' ∧ Below n0 w w' := by
  have HDC := Lib.hid hd
  obtain ⟨left, v, hbk, hown, hnd, hbl, -⟩ := hd
  obtain ⟨A, cap, rfl⟩ := hown.slice
  have hnw : n0 ≤ w.heap.size := Nat.le_of_lt (Nat.lt_of_le_of_lt hnd hbk.lt)
  have HBD : Hid (Bad w d false) := ⟨_, _, _, _, hbk⟩
  have HBK := Lib.hid hbk
  have HOW := Lib.hid hown
  clear hbk hown
  go_enter Tryz.func78, Tryz.ntmps78
  go_wp2_with fail
  go_loop [6] (fun i => ∃ k : Nat, i = .int .i64 k ∧ k ≤ 4 ∧ k ≤ s.size ∧ Hid (((sl s).take k).all hexB = true)) (fun i => s.size - (intOf i).toNat)
  case atStart => exact ⟨0, rfl, by omega, by omega, by rfl⟩
  case round =>
    obtain ⟨k, rfl, hk4, hks, HALL⟩ := hrel
    rename_i K1 hK1 _
    have HT : (k = 4 ∨ (sl s).length ≤ k ∨ ∃ c r, (sl s).drop k = c :: r ∧ hexB c = false) → ∀ u11 u12 u13 u14 u15 u16 u17 u18 u19 u20 u21 u22 u23 u24 u25 u26, K1 { tmps := #[.pointer (some ⟨d, 0, none⟩), .string s, undef, undef, .int .i64 0, .int .i64 0, .int .i64 (k : Int), undef, undef, undef, undef, u11, u12, u13, u14, u15, u16, u17, u18, u19, u20, u21, u22, u23, u24, u25, u26, undef, undef, undef, undef, undef, undef, undef, undef, undef, undef, undef, undef, undef, undef, undef, undef, undef, undef, undef, undef, undef, undef, undef, undef, undef, undef, undef, undef, undef, undef, undef, undef, undef, undef, undef, undef, undef, undef, undef, undef, undef, undef, undef, undef, undef, undef, undef, undef, undef, undef, undef, undef, undef, undef, undef, undef, undef, undef, undef, undef, undef, undef, undef, undef, undef, undef, undef, undef, undef, undef, undef, undef, undef, undef, undef, undef, undef, undef, undef, undef, undef, undef, undef, undef, undef, undef, undef, undef], defers := [] } w := by
      intro hend u11 u12 u13 u14 u15 u16 u17 u18 u19 u20 u21 u22 u23 u24 u25 u26
      have HDG : Hid (digs (sl s) = (sl s).take k) := pre_eq hk4 HALL.out hend
      clear hend
      apply hK1
      clear hK1
      by_cases hsem : 0 < k ∧ (sl s)[k]? = some 59
      · obtain ⟨hk0, hsc⟩ := hsem
        obtain ⟨hlt', hsc'⟩ := List.getElem?_eq_some_iff.1 hsc
        have hlt : k < s.size := by rw [sl_len] at hlt'; exact hlt'
        rw [sl_getElem s k hlt] at hsc'
        have hHE : Hid (headEnd (sl s) = k + 1 + (pre 50 Tok.plainB ((sl s).drop (k + 1))).length) := by
          show _ = _
          have hdl : (digs (sl s)).length = k := by rw [HDG.out, List.length_take, sl_len]; omega
          unfold headEnd
          dsimp only
          rw [hdl, if_pos ⟨hk0, hsc⟩]
        have e59 : ((s[k].toNat : Int) == 59) = true := by rw [hsc']; rfl
        have hk1p : decide ((0 : Int) < (k : Int)) = true := decide_eq_true (by omega)
        have hltd : decide ((k : Int) < (s.size : Int)) = true := decide_eq_true (by omega)
        clear hsc hsc' hlt'
        go_wp2_with fail
        go_loop [7] (fun i => ∃ E : Nat, i = .int .i64 (E : Int) ∧ k + 1 ≤ E ∧ E ≤ k + 51 ∧ E ≤ s.size ∧ Hid ((((sl s).drop (k + 1)).take (E - (k + 1))).all Tok.plainB = true)) (fun i => s.size - (intOf i).toNat)
        case atStart => exact ⟨k + 1, by go_num, by omega, by omega, by omega, by rw [Nat.sub_self]; rfl⟩
        case round =>
          obtain ⟨E, rfl, hkE, hE50, hE, HPL⟩ := hrel
          rename_i K2 hK2 _ _
          have HT2 : (E - (k + 1) = 50 ∨ ((sl s).drop (k + 1)).length ≤ E - (k + 1) ∨ ∃ c r, ((sl s).drop (k + 1)).drop (E - (k + 1)) = c :: r ∧ Tok.plainB c = false) → ∀ v44 v45 v46 v47 v48 v49 v50 v51 v52 v53 v54 v55 v56 v57 v58 v59 v60 v61, K2 { tmps := #[.pointer (some ⟨d, 0, none⟩), .string s, undef, undef, .int .i64 0, .int .i64 0, .int .i64 (k : Int), .int .i64 (E : Int), undef, undef, undef, u11, u12, u13, u14, u15, u16, u17, u18, u19, u20, u21, u22, u23, u24, u25, u26, .int .i64 (k : Int), .int .i64 (k : Int), .bool true, .bool true, .int .i64 (k : Int), .string s, .int .i64 (s.size : Int), .bool true, .bool true, .bool true, .string s, .int .i64 (k : Int), .int .u8 (s[k].toNat : Int), .bool true, .bool true, .int .i64 (k : Int), .int .i64 ((k : Int) + 1), v44, v45, v46, v47, v48, v49, v50, v51, v52, v53, v54, v55, v56, v57, v58, v59, v60, v61, undef, undef, undef, undef, undef, undef, undef, undef, undef, undef, undef, undef, undef, undef, undef, undef, undef, undef, undef, undef, undef, undef, undef, undef, undef, undef, undef, undef, undef, undef, undef, undef, undef, undef, undef, undef, undef, undef, undef, undef, undef, undef, undef, undef, undef, undef, undef, undef, undef, undef, undef, undef, undef], defers := [] } w := by
            intro hend2 v44 v45 v46 v47 v48 v49 v50 v51 v52 v53 v54 v55 v56 v57 v58 v59 v60 v61
            have HHE : Hid (headEnd (sl s) = E) := by
              show _ = _
              rw [hHE.out, pre_eq (by omega) HPL.out hend2, List.length_take, List.length_drop, sl_len]
              omega
            have HE0 : Hid (k = 0 → E = 0) := fun h => absurd h (by omega)
            clear hend2 HPL hHE hE50 e59 hk1p hltd
            apply hK2
            clear hK2
            have hdl : (digs (sl s)).length = k := by rw [HDG.out, List.length_take, sl_len]; omega
            have HS : Hid (Ck.step .head body (sl s) = if k = 0 ∧ sl s ≠ [] then .err 3 else atEnd ((sl s).drop E) (if 5000 < body.length + hexN (digs (sl s)) then .err 2 else .go (E + 2) (if hexN (digs (sl s)) = 0 then .trailer else .data (hexN (digs (sl s)))) body)) := by
              show _ = _
              rw [step_head, hdl, HHE.out]
            clear hdl
            have hk1 : ((k : Int) == 0) = false := by rw [beq_eq_false_iff_ne]; omega
            obtain ⟨R, hR⟩ : ∃ R, s.extract E s.size = R := ⟨_, rfl⟩
            have HRL : Hid (sl R = (sl s).drop E) := by show _ = _; rw [← hR, hdrop hE]
            have hk0 : ¬ k = 0 := by omega
            rw [if_neg (fun h => hk0 h.1), ← HRL.out] at HS
            clear hk0
            have HPX := Lib.hid (fun w' => Tryz.strings_HasPrefix R ⟨#[13, 10]⟩ w')
            rw [show R.data.toList = sl R from rfl, show (⟨#[13, 10]⟩ : ByteArray).data.toList = [13, 10] from rfl] at HPX
            have HRT : Hid (R.toList = sl R) := ba_toList R
            match hl : sl R with
            | [] =>
              have e1 : R.toList.isEmpty = true := by rw [HRT.out, hl]; rfl
              have HR : Hid (Ck.step .head body (sl s) = .short) := by show _ = _; rw [HS.out, hl]; rfl
              clear hl HS
              go_wp2_with fail
              go_ret2
              rw [HR.out]
              exact ⟨⟨⟨_, rfl⟩, HDC.out⟩, Below.refl _ _⟩
            | [x] =>
              have e1 : R.toList.isEmpty = false := by rw [HRT.out, hl]; rfl
              by_cases hx : x = 13
              · subst hx
                have e2 : (R.toList == [13]) = true := by rw [HRT.out, hl]; rfl
                have HR : Hid (Ck.step .head body (sl s) = .short) := by show _ = _; rw [HS.out, hl]; rfl
                clear hl HS
                go_wp2_with fail
                go_ret2
                rw [HR.out]
                exact ⟨⟨⟨_, rfl⟩, HDC.out⟩, Below.refl _ _⟩
              · have e2 : (R.toList == [13]) = false := by rw [HRT.out, hl, beq_eq_false_iff_ne]; intro h; injection h with h; exact hx h
                have HR : Hid (Ck.step .head body (sl s) = .err 3) := by
                  show _ = _
                  rw [HS.out, hl]
                  unfold atEnd
                  split
                  · rename_i h; cases h
                  · rename_i h; injection h with h; exact absurd h hx
                  · rename_i h; injection h with h _; exact absurd h hx
                  · rfl
                rw [hl, hpre_one] at HPX
                clear hl HS hx
                go_wp2_with (go_at_call 102; refine (HPX.out _).mono ?_; rintro e w' ⟨rfl, rfl⟩)
                go_ret2
                rw [HR.out]
                exact ⟨⟨⟨_, rfl⟩, by decide, by decide, HBD.out⟩, Below.refl _ _⟩
            | x :: y :: r =>
              have e1 : R.toList.isEmpty = false := by rw [HRT.out, hl]; rfl
              have e2 : (R.toList == [13]) = false := by rw [HRT.out, hl, beq_eq_false_iff_ne]; intro h; injection h with _ h; cases h
              by_cases hxy : x = 13 ∧ y = 10
              · obtain ⟨rfl, rfl⟩ := hxy
                rw [hl, hpre_ok] at HPX
                rw [hl, atEnd_ok] at HS
                have hT : sl (s.extract 0 k) = (sl s).take k := by rw [sl_extract]; simp
                have hTz : (s.extract 0 k).size = k := by rw [ext_size s 0 k hks]; omega
                have HPI := Lib.hid (parseInt16_any (s.extract 0 k) (by rw [hT]; exact HALL.out) (by omega) (by omega))
                rw [hT, ← HDG.out] at HPI
                have hN : hexN (digs (sl s)) < 65536 := by
                  rw [HDG.out]
                  exact Nat.lt_of_lt_of_le (hexN_lt _ HALL.out) (Nat.le_trans (Nat.pow_le_pow_right (by omega) (by rw [List.length_take]; omega : _ ≤ 4)) (by decide))
                generalize hexN (digs (sl s)) = N at *
                clear hl hT hTz
                have hwl : IntKind.i64.wrap ((body.length : Int) + (N : Int)) = (body.length : Int) + (N : Int) := by rw [IntKind.wrap_i64]; omega
                rcases Nat.eq_zero_or_pos N with hN0 | hN0
                · subst hN0
                  rw [if_pos rfl] at HS
                  have hwz : IntKind.i64.wrap (body.length : Int) = (body.length : Int) := by rw [IntKind.wrap_i64]; omega
                  have hLd : decide ((5000 : Int) < (body.length : Int)) = false := decide_eq_false (by omega)
                  rw [if_neg (show ¬ 5000 < body.length + 0 by omega)] at HS
                  go_wp2_with (first | (go_at_call 102; refine (HPX.out _).mono ?_; rintro e w' ⟨rfl, hw'⟩; have hw' := hw'.symm; subst hw') | (go_at_call 103; refine (HPI.out _).mono ?_; rintro e w1 ⟨rfl, b1⟩; have hb1 := (HBK.out.below b1 HBK.out.lt); have hb2 := hb1.set_ 2 (.int .i64 0); have hb3 := hb2.set_ 0 (.func (.func 104) #[] #[]); have f0 := hb1.frozen 0; have f2 := hb1.frozen 2; have c0 := hb1.cell 0; have c2 := hb1.cell 2; have c3 := hb1.cell 3; have g0 := hb2.cell 0; have gz := hb2.frozen 0; have g30 := hb3.cell 0; have g3z := hb3.frozen 0))
                  have hO1 := HOW.out.below b1
                  have hne := hO1.ne_blk hb1 (by decide)
                  have hO2 := hO1.setFar ⟨d, 2, none⟩ (.int .i64 0) hne
                  have hO3 := hO2.setFar ⟨d, 0, none⟩ (.func (.func 104) #[] #[]) hne
                  have hB3 : Below n0 w _ := ((b1.mono hnw).setCell (p := ⟨d, 2, none⟩) hnd (.int .i64 0)).setCell (p := ⟨d, 0, none⟩) hnd (.func (.func 104) #[] #[])
                  have hbZ := hb3.set_ 0 (.func (.func 105) #[] #[])
                  have hOZ := hO3.setFar ⟨d, 0, none⟩ (.func (.func 105) #[] #[]) hne
                  have hBZ := hB3.setCell (p := ⟨d, 0, none⟩) hnd (.func (.func 105) #[] #[])
                  clear hO1 hO2 hO3 hB3 hb1 hb2 hb3 f0 f2 c0 c2 c3 g0 gz g30 g3z hne
                  generalize hW2 : (((w1.setCell ⟨d, 2, none⟩ (.int .i64 0)).setCell ⟨d, 0, none⟩ (.func (.func 104) #[] #[])).setCell ⟨d, 0, none⟩ (.func (.func 105) #[] #[])) = w2 at *
                  clear hW2 b1
                  have hdl := hbZ.lt
                  go_wp2_with fail
                  refine wp_region_seq [(true, 0), (true, 1), (true, 2), (true, 3), (true, 4), (true, 5), (true, 6), (true, 7), (true, 8), (true, 9), (true, 10)] (fun w' => Below w2.heap.size w2 w') (by kernel_rfl) (by kernel_rfl) (fun _ _ _ _ _ h => h) (by kernel_rfl) (by kernel_rfl) (by first | exact (Below.refl _ _).drew | exact Below.drew (by assumption)) ?_
                  have bS : Below w2.heap.size w2 _ := (by first | exact Below.drew (by assumption) | exact (Below.refl _ w2).drew)
                  iterate 11 (first
                    | (apply seqH_skip; (focus (simp only [List.getElem?_toArray, List.getElem?_cons_succ, List.getElem?_cons_zero]; rfl)); (focus rfl); simp only [Act.put, List.setIfInBounds_toArray, List.set_cons_zero, List.set_cons_succ])
                    | (apply seqH_take; (focus (simp only [List.getElem?_toArray, List.getElem?_cons_succ, List.getElem?_cons_zero]; rfl)); (focus rfl); (focus (intro w' hS; have e2 := (hS.cell (p := ⟨d, 2, none⟩) hdl).trans (hbZ.cell 2); have e3 := (hS.cell (p := ⟨d, 3, none⟩) hdl).trans (hbZ.cell 3); first | (go_simp; rfl) | (go_simp; done))); simp only [Act.put, List.setIfInBounds_toArray, List.set_cons_zero, List.set_cons_succ])
                    | (apply seqH_pass; (focus (simp only [List.getElem?_toArray, List.getElem?_cons_succ, List.getElem?_cons_zero]; rfl)); (focus rfl); (focus assumption); simp only [Act.put, List.setIfInBounds_toArray, List.set_cons_zero, List.set_cons_succ])
                    | (apply seqH_eff; (focus (simp only [List.getElem?_toArray, List.getElem?_cons_succ, List.getElem?_cons_zero]; rfl)); (focus rfl); intro K hK; go_simp; fail; rintro e wN ⟨rfl, bN⟩; refine hK _ _ (seq_next (by assumption) bN (fun bS' => ?_)); clear hK K))
                  refine seqH_nil ?_
                  go_wp2_with fail
                  go_ret2
                  rw [HS.out]
                  exact ⟨⟨by go_num, 0, _, hbZ.drew, hOZ.drew, hnd, hbl, fun j hj => by cases hj⟩, hBZ.drew⟩
                · have hz : ((N : Int) == 0) = false := by rw [beq_eq_false_iff_ne]; omega
                  rw [if_neg (show ¬ N = 0 by omega)] at HS
                  by_cases hLL : 5000 < body.length + N
                  · have hLd : decide ((5000 : Int) < (body.length : Int) + (N : Int)) = true := decide_eq_true (by omega)
                    rw [if_pos hLL] at HS
                    clear hLL
                    go_wp2_with (first | (go_at_call 102; refine (HPX.out _).mono ?_; rintro e w' ⟨rfl, hw'⟩; have hw' := hw'.symm; subst hw') | (go_at_call 103; refine (HPI.out _).mono ?_; rintro e w1 ⟨rfl, b1⟩; have hb1 := (HBK.out.below b1 HBK.out.lt); have hb2 := hb1.set_ 2 (.int .i64 (N : Int)); have hb3 := hb2.set_ 0 (.func (.func 104) #[] #[]); have f0 := hb1.frozen 0; have f2 := hb1.frozen 2; have c0 := hb1.cell 0; have c2 := hb1.cell 2; have c3 := hb1.cell 3; have g0 := hb2.cell 0; have gz := hb2.frozen 0; have g30 := hb3.cell 0; have g3z := hb3.frozen 0))
                    have hO1 := HOW.out.below b1
                    have hne := hO1.ne_blk hb1 (by decide)
                    have hO2 := hO1.setFar ⟨d, 2, none⟩ (.int .i64 (N : Int)) hne
                    have hO3 := hO2.setFar ⟨d, 0, none⟩ (.func (.func 104) #[] #[]) hne
                    have hB3 : Below n0 w _ := ((b1.mono hnw).setCell (p := ⟨d, 2, none⟩) hnd (.int .i64 (N : Int))).setCell (p := ⟨d, 0, none⟩) hnd (.func (.func 104) #[] #[])
                    have hbZ := hb3
                    have hOZ := hO3
                    have hBZ := hB3
                    clear hO1 hO2 hO3 hB3 hb1 hb2 hb3 f0 f2 c0 c2 c3 g0 gz g30 g3z hne
                    generalize hW2 : ((w1.setCell ⟨d, 2, none⟩ (.int .i64 (N : Int))).setCell ⟨d, 0, none⟩ (.func (.func 104) #[] #[])) = w2 at *
                    clear hW2 b1
                    have hdl := hbZ.lt
                    go_wp2_with fail
                    refine wp_region_seq [(true, 0), (true, 1), (true, 2), (true, 3), (true, 4), (true, 5), (true, 6), (true, 7), (true, 8), (true, 9), (true, 10)] (fun w' => Below w2.heap.size w2 w') (by kernel_rfl) (by kernel_rfl) (fun _ _ _ _ _ h => h) (by kernel_rfl) (by kernel_rfl) (by first | exact (Below.refl _ _).drew | exact Below.drew (by assumption)) ?_
                    have bS : Below w2.heap.size w2 _ := (by first | exact Below.drew (by assumption) | exact (Below.refl _ w2).drew)
                    iterate 11 (first
                      | (apply seqH_skip; (focus (simp only [List.getElem?_toArray, List.getElem?_cons_succ, List.getElem?_cons_zero]; rfl)); (focus rfl); simp only [Act.put, List.setIfInBounds_toArray, List.set_cons_zero, List.set_cons_succ])
                      | (apply seqH_take; (focus (simp only [List.getElem?_toArray, List.getElem?_cons_succ, List.getElem?_cons_zero]; rfl)); (focus rfl); (focus (intro w' hS; have e2 := (hS.cell (p := ⟨d, 2, none⟩) hdl).trans (hbZ.cell 2); have e3 := (hS.cell (p := ⟨d, 3, none⟩) hdl).trans (hbZ.cell 3); first | (go_simp; rfl) | (go_simp; done))); simp only [Act.put, List.setIfInBounds_toArray, List.set_cons_zero, List.set_cons_succ])
                      | (apply seqH_pass; (focus (simp only [List.getElem?_toArray, List.getElem?_cons_succ, List.getElem?_cons_zero]; rfl)); (focus rfl); (focus assumption); simp only [Act.put, List.setIfInBounds_toArray, List.set_cons_zero, List.set_cons_succ])
                      | (apply seqH_eff; (focus (simp only [List.getElem?_toArray, List.getElem?_cons_succ, List.getElem?_cons_zero]; rfl)); (focus rfl); intro K hK; go_simp; fail; rintro e wN ⟨rfl, bN⟩; refine hK _ _ (seq_next (by assumption) bN (fun bS' => ?_)); clear hK K))
                    refine seqH_nil ?_
                    go_wp2_with fail
                    go_ret2
                    rw [HS.out]
                    exact ⟨⟨⟨_, rfl⟩, by decide, by decide, ⟨_, _, _, _, hbZ.drew⟩⟩, hBZ.drew⟩
                  · have hLd : decide ((5000 : Int) < (body.length : Int) + (N : Int)) = false := decide_eq_false (by omega)
                    rw [if_neg hLL] at HS
                    clear hLL
                    go_wp2_with (first | (go_at_call 102; refine (HPX.out _).mono ?_; rintro e w' ⟨rfl, hw'⟩; have hw' := hw'.symm; subst hw') | (go_at_call 103; refine (HPI.out _).mono ?_; rintro e w1 ⟨rfl, b1⟩; have hb1 := (HBK.out.below b1 HBK.out.lt); have hb2 := hb1.set_ 2 (.int .i64 (N : Int)); have hb3 := hb2.set_ 0 (.func (.func 104) #[] #[]); have f0 := hb1.frozen 0; have f2 := hb1.frozen 2; have c0 := hb1.cell 0; have c2 := hb1.cell 2; have c3 := hb1.cell 3; have g0 := hb2.cell 0; have gz := hb2.frozen 0; have g30 := hb3.cell 0; have g3z := hb3.frozen 0))
                    have hO1 := HOW.out.below b1
                    have hne := hO1.ne_blk hb1 (by decide)
                    have hO2 := hO1.setFar ⟨d, 2, none⟩ (.int .i64 (N : Int)) hne
                    have hO3 := hO2.setFar ⟨d, 0, none⟩ (.func (.func 104) #[] #[]) hne
                    have hB3 : Below n0 w _ := ((b1.mono hnw).setCell (p := ⟨d, 2, none⟩) hnd (.int .i64 (N : Int))).setCell (p := ⟨d, 0, none⟩) hnd (.func (.func 104) #[] #[])
                    have hbZ := hb3
                    have hOZ := hO3
                    have hBZ := hB3
                    clear hO1 hO2 hO3 hB3 hb1 hb2 hb3 f0 f2 c0 c2 c3 g0 gz g30 g3z hne
                    generalize hW2 : ((w1.setCell ⟨d, 2, none⟩ (.int .i64 (N : Int))).setCell ⟨d, 0, none⟩ (.func (.func 104) #[] #[])) = w2 at *
                    clear hW2 b1
                    have hdl := hbZ.lt
                    go_wp2_with fail
                    refine wp_region_seq [(true, 0), (true, 1), (true, 2), (true, 3), (true, 4), (true, 5), (true, 6), (true, 7), (true, 8), (true, 9), (true, 10)] (fun w' => Below w2.heap.size w2 w') (by kernel_rfl) (by kernel_rfl) (fun _ _ _ _ _ h => h) (by kernel_rfl) (by kernel_rfl) (by first | exact (Below.refl _ _).drew | exact Below.drew (by assumption)) ?_
                    have bS : Below w2.heap.size w2 _ := (by first | exact Below.drew (by assumption) | exact (Below.refl _ w2).drew)
                    iterate 11 (first
                      | (apply seqH_skip; (focus (simp only [List.getElem?_toArray, List.getElem?_cons_succ, List.getElem?_cons_zero]; rfl)); (focus rfl); simp only [Act.put, List.setIfInBounds_toArray, List.set_cons_zero, List.set_cons_succ])
                      | (apply seqH_take; (focus (simp only [List.getElem?_toArray, List.getElem?_cons_succ, List.getElem?_cons_zero]; rfl)); (focus rfl); (focus (intro w' hS; have e2 := (hS.cell (p := ⟨d, 2, none⟩) hdl).trans (hbZ.cell 2); have e3 := (hS.cell (p := ⟨d, 3, none⟩) hdl).trans (hbZ.cell 3); first | (go_simp; rfl) | (go_simp; done))); simp only [Act.put, List.setIfInBounds_toArray, List.set_cons_zero, List.set_cons_succ])
                      | (apply seqH_pass; (focus (simp only [List.getElem?_toArray, List.getElem?_cons_succ, List.getElem?_cons_zero]; rfl)); (focus rfl); (focus assumption); simp only [Act.put, List.setIfInBounds_toArray, List.set_cons_zero, List.set_cons_succ])
                      | (apply seqH_eff; (focus (simp only [List.getElem?_toArray, List.getElem?_cons_succ, List.getElem?_cons_zero]; rfl)); (focus rfl); intro K hK; go_simp; fail; rintro e wN ⟨rfl, bN⟩; refine hK _ _ (seq_next (by assumption) bN (fun bS' => ?_)); clear hK K))
                    refine seqH_nil ?_
                    go_wp2_with fail
                    go_ret2
                    rw [HS.out]
                    exact ⟨⟨by go_num, N, _, hbZ.drew, hOZ.drew, hnd, hbl, fun j hj => by injection hj with hj; subst hj; exact ⟨rfl, by simp at hLd; omega⟩⟩, hBZ.drew⟩
              · have HR : Hid (Ck.step .head body (sl s) = .err 3) := by
                  show _ = _
                  rw [HS.out, hl]
                  unfold atEnd
                  split
                  · rename_i h; cases h
                  · rename_i h; injection h with _ h; cases h
                  · rename_i h; injection h with h1 h; injection h with h2 _; exact absurd ⟨h1, h2⟩ hxy
                  · rfl
                rw [hl, hpre_no hxy] at HPX
                clear hl HS hxy
                go_wp2_with (go_at_call 102; refine (HPX.out _).mono ?_; rintro e w' ⟨rfl, rfl⟩)
                go_ret2
                rw [HR.out]
                exact ⟨⟨⟨_, rfl⟩, by decide, by decide, HBD.out⟩, Below.refl _ _⟩
          clear hK2
          by_cases hlt2 : E < s.size
          · have hgd : ((sl s).drop (k + 1)).drop (E - (k + 1)) = s[E] :: (sl s).drop (E + 1) := by
              rw [List.drop_drop, ← sl_getElem s E hlt2, show k + 1 + (E - (k + 1)) = E by omega]
              exact List.drop_eq_getElem_cons (by rw [sl_len]; exact hlt2)
            by_cases h50 : E ≤ k + 50
            · have h50d : decide ((E : Int) ≤ (k : Int) + 50) = true := decide_eq_true (by omega)
              have HI := Lib.hid (bodyPlain_any s[E])
              cases hx : Tok.plainB s[E] with
              | true =>
                rw [hx] at HI
                have HN : Hid ((((sl s).drop (k + 1)).take (E + 1 - (k + 1))).all Tok.plainB = true) := by
                  show _ = _
                  have e : E + 1 - (k + 1) = (E - (k + 1)) + 1 := by omega
                  have hg : (((sl s).drop (k + 1))[E - (k + 1)]?) = some s[E] := by
                    rw [List.getElem?_drop, show k + 1 + (E - (k + 1)) = E by omega]; exact sl_getElem? s E hlt2
                  rw [e, List.take_add_one, hg, List.all_append, HPL.out]
                  simp [hx]
                clear hx HT2 hgd
                go_wp2_with (go_at_call 101; refine (HI.out _).mono ?_; rintro e w' ⟨rfl, rfl⟩)
                go_round
                case rel => exact ⟨E + 1, by go_num, by omega, by omega, hlt2, HN⟩
                case measure => simp [intOf]; omega
              | false =>
                rw [hx] at HI
                have HT' := Lib.hid (HT2 (.inr (.inr ⟨_, _, hgd, hx⟩)))
                clear hx HT2 hgd
                go_wp2_with (go_at_call 101; refine (HI.out _).mono ?_; rintro e w' ⟨rfl, rfl⟩)
                exact HT'.out ..
            · have h50d : decide ((E : Int) ≤ (k : Int) + 50) = false := decide_eq_false (by omega)
              have HT' := Lib.hid (HT2 (.inl (by omega)))
              clear HT2 hgd
              go_wp2_with fail
              exact HT'.out ..
          · have HT' := Lib.hid (HT2 (.inr (.inl (by rw [List.length_drop, sl_len]; omega))))
            clear HT2
            go_wp2_with fail
            exact HT'.out ..
      · have HHE : Hid (headEnd (sl s) = k) := by
          show _ = _
          have hdl : (digs (sl s)).length = k := by rw [HDG.out, List.length_take, sl_len]; omega
          unfold headEnd
          dsimp only
          rw [hdl, if_neg hsem]
        have hE : k ≤ s.size := hks
        have HE0 : Hid (k = 0 → k = 0) := fun h => h
        rcases Nat.eq_zero_or_pos k with hk00 | hk00
        · have hk1p : decide ((0 : Int) < (k : Int)) = false := decide_eq_false (by omega)
          clear hsem
          have hdl : (digs (sl s)).length = k := by rw [HDG.out, List.length_take, sl_len]; omega
          have HS : Hid (Ck.step .head body (sl s) = if k = 0 ∧ sl s ≠ [] then .err 3 else atEnd ((sl s).drop k) (if 5000 < body.length + hexN (digs (sl s)) then .err 2 else .go (k + 2) (if hexN (digs (sl s)) = 0 then .trailer else .data (hexN (digs (sl s)))) body)) := by
            show _ = _
            rw [step_head, hdl, HHE.out]
          clear hdl
          subst hk00
          by_cases hs0 : s.size = 0
          · have hse : s.toList.isEmpty = true := by rw [ba_toList, empty_of_size s hs0]; rfl
            have HR : Hid (Ck.step .head body (sl s) = .short) := by
              show _ = _
              rw [HS.out, empty_of_size s hs0, sl_empty]
              rfl
            clear hs0 HS
            go_wp2_with fail
            go_ret2
            rw [HR.out]
            exact ⟨⟨⟨_, rfl⟩, HDC.out⟩, Below.refl _ _⟩
          · have hse : s.toList.isEmpty = false := isEmpty_no s (by omega)
            have HR : Hid (Ck.step .head body (sl s) = .err 3) := by
              show _ = _
              rw [HS.out, if_pos ⟨rfl, fun h => hs0 (by rw [← sl_len, h]; rfl)⟩]
            clear hs0 HS
            go_wp2_with fail
            go_ret2
            rw [HR.out]
            exact ⟨⟨⟨_, rfl⟩, by decide, by decide, HBD.out⟩, Below.refl _ _⟩
        · have hk1p : decide ((0 : Int) < (k : Int)) = true := decide_eq_true (by omega)
          by_cases hlt : k < s.size
          · have hltd : decide ((k : Int) < (s.size : Int)) = true := decide_eq_true (by omega)
            have e59 : ((s[k].toNat : Int) == 59) = false := by
              rw [beq_eq_false_iff_ne]
              intro h
              refine hsem ⟨hk00, ?_⟩
              rw [sl_getElem? s k hlt]
              congr 1
              apply UInt8.toNat_inj.1
              show s[k].toNat = 59
              omega
            clear hsem
            have hdl : (digs (sl s)).length = k := by rw [HDG.out, List.length_take, sl_len]; omega
            have HS : Hid (Ck.step .head body (sl s) = if k = 0 ∧ sl s ≠ [] then .err 3 else atEnd ((sl s).drop k) (if 5000 < body.length + hexN (digs (sl s)) then .err 2 else .go (k + 2) (if hexN (digs (sl s)) = 0 then .trailer else .data (hexN (digs (sl s)))) body)) := by
              show _ = _
              rw [step_head, hdl, HHE.out]
            clear hdl
            have hk1 : ((k : Int) == 0) = false := by rw [beq_eq_false_iff_ne]; omega
            obtain ⟨R, hR⟩ : ∃ R, s.extract k s.size = R := ⟨_, rfl⟩
            have HRL : Hid (sl R = (sl s).drop k) := by show _ = _; rw [← hR, hdrop hE]
            have hk0 : ¬ k = 0 := by omega
            rw [if_neg (fun h => hk0 h.1), ← HRL.out] at HS
            clear hk0
            have HPX := Lib.hid (fun w' => Tryz.strings_HasPrefix R ⟨#[13, 10]⟩ w')
            rw [show R.data.toList = sl R from rfl, show (⟨#[13, 10]⟩ : ByteArray).data.toList = [13, 10] from rfl] at HPX
            have HRT : Hid (R.toList = sl R) := ba_toList R
            match hl : sl R with
            | [] =>
              have e1 : R.toList.isEmpty = true := by rw [HRT.out, hl]; rfl
              have HR : Hid (Ck.step .head body (sl s) = .short) := by show _ = _; rw [HS.out, hl]; rfl
              clear hl HS
              go_wp2_with fail
              go_ret2
              rw [HR.out]
              exact ⟨⟨⟨_, rfl⟩, HDC.out⟩, Below.refl _ _⟩
            | [x] =>
              have e1 : R.toList.isEmpty = false := by rw [HRT.out, hl]; rfl
              by_cases hx : x = 13
              · subst hx
                have e2 : (R.toList == [13]) = true := by rw [HRT.out, hl]; rfl
                have HR : Hid (Ck.step .head body (sl s) = .short) := by show _ = _; rw [HS.out, hl]; rfl
                clear hl HS
                go_wp2_with fail
                go_ret2
                rw [HR.out]
                exact ⟨⟨⟨_, rfl⟩, HDC.out⟩, Below.refl _ _⟩
              · have e2 : (R.toList == [13]) = false := by rw [HRT.out, hl, beq_eq_false_iff_ne]; intro h; injection h with h; exact hx h
                have HR : Hid (Ck.step .head body (sl s) = .err 3) := by
                  show _ = _
                  rw [HS.out, hl]
                  unfold atEnd
                  split
                  · rename_i h; cases h
                  · rename_i h; injection h with h; exact absurd h hx
                  · rename_i h; injection h with h _; exact absurd h hx
                  · rfl
                rw [hl, hpre_one] at HPX
                clear hl HS hx
                go_wp2_with (go_at_call 102; refine (HPX.out _).mono ?_; rintro e w' ⟨rfl, rfl⟩)
                go_ret2
                rw [HR.out]
                exact ⟨⟨⟨_, rfl⟩, by decide, by decide, HBD.out⟩, Below.refl _ _⟩
            | x :: y :: r =>
              have e1 : R.toList.isEmpty = false := by rw [HRT.out, hl]; rfl
              have e2 : (R.toList == [13]) = false := by rw [HRT.out, hl, beq_eq_false_iff_ne]; intro h; injection h with _ h; cases h
              by_cases hxy : x = 13 ∧ y = 10
              · obtain ⟨rfl, rfl⟩ := hxy
                rw [hl, hpre_ok] at HPX
                rw [hl, atEnd_ok] at HS
                have hT : sl (s.extract 0 k) = (sl s).take k := by rw [sl_extract]; simp
                have hTz : (s.extract 0 k).size = k := by rw [ext_size s 0 k hks]; omega
                have HPI := Lib.hid (parseInt16_any (s.extract 0 k) (by rw [hT]; exact HALL.out) (by omega) (by omega))
                rw [hT, ← HDG.out] at HPI
                have hN : hexN (digs (sl s)) < 65536 := by
                  rw [HDG.out]
                  exact Nat.lt_of_lt_of_le (hexN_lt _ HALL.out) (Nat.le_trans (Nat.pow_le_pow_right (by omega) (by rw [List.length_take]; omega : _ ≤ 4)) (by decide))
                generalize hexN (digs (sl s)) = N at *
                clear hl hT hTz
                have hwl : IntKind.i64.wrap ((body.length : Int) + (N : Int)) = (body.length : Int) + (N : Int) := by rw [IntKind.wrap_i64]; omega
                rcases Nat.eq_zero_or_pos N with hN0 | hN0
                · subst hN0
                  rw [if_pos rfl] at HS
                  have hwz : IntKind.i64.wrap (body.length : Int) = (body.length : Int) := by rw [IntKind.wrap_i64]; omega
                  have hLd : decide ((5000 : Int) < (body.length : Int)) = false := decide_eq_false (by omega)
                  rw [if_neg (show ¬ 5000 < body.length + 0 by omega)] at HS
                  go_wp2_with (first | (go_at_call 102; refine (HPX.out _).mono ?_; rintro e w' ⟨rfl, hw'⟩; have hw' := hw'.symm; subst hw') | (go_at_call 103; refine (HPI.out _).mono ?_; rintro e w1 ⟨rfl, b1⟩; have hb1 := (HBK.out.below b1 HBK.out.lt); have hb2 := hb1.set_ 2 (.int .i64 0); have hb3 := hb2.set_ 0 (.func (.func 104) #[] #[]); have f0 := hb1.frozen 0; have f2 := hb1.frozen 2; have c0 := hb1.cell 0; have c2 := hb1.cell 2; have c3 := hb1.cell 3; have g0 := hb2.cell 0; have gz := hb2.frozen 0; have g30 := hb3.cell 0; have g3z := hb3.frozen 0))
                  have hO1 := HOW.out.below b1
                  have hne := hO1.ne_blk hb1 (by decide)
                  have hO2 := hO1.setFar ⟨d, 2, none⟩ (.int .i64 0) hne
                  have hO3 := hO2.setFar ⟨d, 0, none⟩ (.func (.func 104) #[] #[]) hne
                  have hB3 : Below n0 w _ := ((b1.mono hnw).setCell (p := ⟨d, 2, none⟩) hnd (.int .i64 0)).setCell (p := ⟨d, 0, none⟩) hnd (.func (.func 104) #[] #[])
                  have hbZ := hb3.set_ 0 (.func (.func 105) #[] #[])
                  have hOZ := hO3.setFar ⟨d, 0, none⟩ (.func (.func 105) #[] #[]) hne
                  have hBZ := hB3.setCell (p := ⟨d, 0, none⟩) hnd (.func (.func 105) #[] #[])
                  clear hO1 hO2 hO3 hB3 hb1 hb2 hb3 f0 f2 c0 c2 c3 g0 gz g30 g3z hne
                  generalize hW2 : (((w1.setCell ⟨d, 2, none⟩ (.int .i64 0)).setCell ⟨d, 0, none⟩ (.func (.func 104) #[] #[])).setCell ⟨d, 0, none⟩ (.func (.func 105) #[] #[])) = w2 at *
                  clear hW2 b1
                  have hdl := hbZ.lt
                  go_wp2_with fail
                  refine wp_region_seq [(true, 0), (true, 1), (true, 2), (true, 3), (true, 4), (true, 5), (true, 6), (true, 7), (true, 8), (true, 9), (true, 10)] (fun w' => Below w2.heap.size w2 w') (by kernel_rfl) (by kernel_rfl) (fun _ _ _ _ _ h => h) (by kernel_rfl) (by kernel_rfl) (by first | exact (Below.refl _ _).drew | exact Below.drew (by assumption)) ?_
                  have bS : Below w2.heap.size w2 _ := (by first | exact Below.drew (by assumption) | exact (Below.refl _ w2).drew)
                  iterate 11 (first
                    | (apply seqH_skip; (focus (simp only [List.getElem?_toArray, List.getElem?_cons_succ, List.getElem?_cons_zero]; rfl)); (focus rfl); simp only [Act.put, List.setIfInBounds_toArray, List.set_cons_zero, List.set_cons_succ])
                    | (apply seqH_take; (focus (simp only [List.getElem?_toArray, List.getElem?_cons_succ, List.getElem?_cons_zero]; rfl)); (focus rfl); (focus (intro w' hS; have e2 := (hS.cell (p := ⟨d, 2, none⟩) hdl).trans (hbZ.cell 2); have e3 := (hS.cell (p := ⟨d, 3, none⟩) hdl).trans (hbZ.cell 3); first | (go_simp; rfl) | (go_simp; done))); simp only [Act.put, List.setIfInBounds_toArray, List.set_cons_zero, List.set_cons_succ])
                    | (apply seqH_pass; (focus (simp only [List.getElem?_toArray, List.getElem?_cons_succ, List.getElem?_cons_zero]; rfl)); (focus rfl); (focus assumption); simp only [Act.put, List.setIfInBounds_toArray, List.set_cons_zero, List.set_cons_succ])
                    | (apply seqH_eff; (focus (simp only [List.getElem?_toArray, List.getElem?_cons_succ, List.getElem?_cons_zero]; rfl)); (focus rfl); intro K hK; go_simp; fail; rintro e wN ⟨rfl, bN⟩; refine hK _ _ (seq_next (by assumption) bN (fun bS' => ?_)); clear hK K))
                  refine seqH_nil ?_
                  go_wp2_with fail
                  go_ret2
                  rw [HS.out]
                  exact ⟨⟨by go_num, 0, _, hbZ.drew, hOZ.drew, hnd, hbl, fun j hj => by cases hj⟩, hBZ.drew⟩
                · have hz : ((N : Int) == 0) = false := by rw [beq_eq_false_iff_ne]; omega
                  rw [if_neg (show ¬ N = 0 by omega)] at HS
                  by_cases hLL : 5000 < body.length + N
                  · have hLd : decide ((5000 : Int) < (body.length : Int) + (N : Int)) = true := decide_eq_true (by omega)
                    rw [if_pos hLL] at HS
                    clear hLL
                    go_wp2_with (first | (go_at_call 102; refine (HPX.out _).mono ?_; rintro e w' ⟨rfl, hw'⟩; have hw' := hw'.symm; subst hw') | (go_at_call 103; refine (HPI.out _).mono ?_; rintro e w1 ⟨rfl, b1⟩; have hb1 := (HBK.out.below b1 HBK.out.lt); have hb2 := hb1.set_ 2 (.int .i64 (N : Int)); have hb3 := hb2.set_ 0 (.func (.func 104) #[] #[]); have f0 := hb1.frozen 0; have f2 := hb1.frozen 2; have c0 := hb1.cell 0; have c2 := hb1.cell 2; have c3 := hb1.cell 3; have g0 := hb2.cell 0; have gz := hb2.frozen 0; have g30 := hb3.cell 0; have g3z := hb3.frozen 0))
                    have hO1 := HOW.out.below b1
                    have hne := hO1.ne_blk hb1 (by decide)
                    have hO2 := hO1.setFar ⟨d, 2, none⟩ (.int .i64 (N : Int)) hne
                    have hO3 := hO2.setFar ⟨d, 0, none⟩ (.func (.func 104) #[] #[]) hne
                    have hB3 : Below n0 w _ := ((b1.mono hnw).setCell (p := ⟨d, 2, none⟩) hnd (.int .i64 (N : Int))).setCell (p := ⟨d, 0, none⟩) hnd (.func (.func 104) #[] #[])
                    have hbZ := hb3
                    have hOZ := hO3
                    have hBZ := hB3
                    clear hO1 hO2 hO3 hB3 hb1 hb2 hb3 f0 f2 c0 c2 c3 g0 gz g30 g3z hne
                    generalize hW2 : ((w1.setCell ⟨d, 2, none⟩ (.int .i64 (N : Int))).setCell ⟨d, 0, none⟩ (.func (.func 104) #[] #[])) = w2 at *
                    clear hW2 b1
                    have hdl := hbZ.lt
                    go_wp2_with fail
                    refine wp_region_seq [(true, 0), (true, 1), (true, 2), (true, 3), (true, 4), (true, 5), (true, 6), (true, 7), (true, 8), (true, 9), (true, 10)] (fun w' => Below w2.heap.size w2 w') (by kernel_rfl) (by kernel_rfl) (fun _ _ _ _ _ h => h) (by kernel_rfl) (by kernel_rfl) (by first | exact (Below.refl _ _).drew | exact Below.drew (by assumption)) ?_
                    have bS : Below w2.heap.size w2 _ := (by first | exact Below.drew (by assumption) | exact (Below.refl _ w2).drew)
                    iterate 11 (first
                      | (apply seqH_skip; (focus (simp only [List.getElem?_toArray, List.getElem?_cons_succ, List.getElem?_cons_zero]; rfl)); (focus rfl); simp only [Act.put, List.setIfInBounds_toArray, List.set_cons_zero, List.set_cons_succ])
                      | (apply seqH_take; (focus (simp only [List.getElem?_toArray, List.getElem?_cons_succ, List.getElem?_cons_zero]; rfl)); (focus rfl); (focus (intro w' hS; have e2 := (hS.cell (p := ⟨d, 2, none⟩) hdl).trans (hbZ.cell 2); have e3 := (hS.cell (p := ⟨d, 3, none⟩) hdl).trans (hbZ.cell 3); first | (go_simp; rfl) | (go_simp; done))); simp only [Act.put, List.setIfInBounds_toArray, List.set_cons_zero, List.set_cons_succ])
                      | (apply seqH_pass; (focus (simp only [List.getElem?_toArray, List.getElem?_cons_succ, List.getElem?_cons_zero]; rfl)); (focus rfl); (focus assumption); simp only [Act.put, List.setIfInBounds_toArray, List.set_cons_zero, List.set_cons_succ])
                      | (apply seqH_eff; (focus (simp only [List.getElem?_toArray, List.getElem?_cons_succ, List.getElem?_cons_zero]; rfl)); (focus rfl); intro K hK; go_simp; fail; rintro e wN ⟨rfl, bN⟩; refine hK _ _ (seq_next (by assumption) bN (fun bS' => ?_)); clear hK K))
                    refine seqH_nil ?_
                    go_wp2_with fail
                    go_ret2
                    rw [HS.out]
                    exact ⟨⟨⟨_, rfl⟩, by decide, by decide, ⟨_, _, _, _, hbZ.drew⟩⟩, hBZ.drew⟩
                  · have hLd : decide ((5000 : Int) < (body.length : Int) + (N : Int)) = false := decide_eq_false (by omega)
                    rw [if_neg hLL] at HS
                    clear hLL
                    go_wp2_with (first | (go_at_call 102; refine (HPX.out _).mono ?_; rintro e w' ⟨rfl, hw'⟩; have hw' := hw'.symm; subst hw') | (go_at_call 103; refine (HPI.out _).mono ?_; rintro e w1 ⟨rfl, b1⟩; have hb1 := (HBK.out.below b1 HBK.out.lt); have hb2 := hb1.set_ 2 (.int .i64 (N : Int)); have hb3 := hb2.set_ 0 (.func (.func 104) #[] #[]); have f0 := hb1.frozen 0; have f2 := hb1.frozen 2; have c0 := hb1.cell 0; have c2 := hb1.cell 2; have c3 := hb1.cell 3; have g0 := hb2.cell 0; have gz := hb2.frozen 0; have g30 := hb3.cell 0; have g3z := hb3.frozen 0))
                    have hO1 := HOW.out.below b1
                    have hne := hO1.ne_blk hb1 (by decide)
                    have hO2 := hO1.setFar ⟨d, 2, none⟩ (.int .i64 (N : Int)) hne
                    have hO3 := hO2.setFar ⟨d, 0, none⟩ (.func (.func 104) #[] #[]) hne
                    have hB3 : Below n0 w _ := ((b1.mono hnw).setCell (p := ⟨d, 2, none⟩) hnd (.int .i64 (N : Int))).setCell (p := ⟨d, 0, none⟩) hnd (.func (.func 104) #[] #[])
                    have hbZ := hb3
                    have hOZ := hO3
                    have hBZ := hB3
                    clear hO1 hO2 hO3 hB3 hb1 hb2 hb3 f0 f2 c0 c2 c3 g0 gz g30 g3z hne
                    generalize hW2 : ((w1.setCell ⟨d, 2, none⟩ (.int .i64 (N : Int))).setCell ⟨d, 0, none⟩ (.func (.func 104) #[] #[])) = w2 at *
                    clear hW2 b1
                    have hdl := hbZ.lt
                    go_wp2_with fail
                    refine wp_region_seq [(true, 0), (true, 1), (true, 2), (true, 3), (true, 4), (true, 5), (true, 6), (true, 7), (true, 8), (true, 9), (true, 10)] (fun w' => Below w2.heap.size w2 w') (by kernel_rfl) (by kernel_rfl) (fun _ _ _ _ _ h => h) (by kernel_rfl) (by kernel_rfl) (by first | exact (Below.refl _ _).drew | exact Below.drew (by assumption)) ?_
                    have bS : Below w2.heap.size w2 _ := (by first | exact Below.drew (by assumption) | exact (Below.refl _ w2).drew)
                    iterate 11 (first
                      | (apply seqH_skip; (focus (simp only [List.getElem?_toArray, List.getElem?_cons_succ, List.getElem?_cons_zero]; rfl)); (focus rfl); simp only [Act.put, List.setIfInBounds_toArray, List.set_cons_zero, List.set_cons_succ])
                      | (apply seqH_take; (focus (simp only [List.getElem?_toArray, List.getElem?_cons_succ, List.getElem?_cons_zero]; rfl)); (focus rfl); (focus (intro w' hS; have e2 := (hS.cell (p := ⟨d, 2, none⟩) hdl).trans (hbZ.cell 2); have e3 := (hS.cell (p := ⟨d, 3, none⟩) hdl).trans (hbZ.cell 3); first | (go_simp; rfl) | (go_simp; done))); simp only [Act.put, List.setIfInBounds_toArray, List.set_cons_zero, List.set_cons_succ])
                      | (apply seqH_pass; (focus (simp only [List.getElem?_toArray, List.getElem?_cons_succ, List.getElem?_cons_zero]; rfl)); (focus rfl); (focus assumption); simp only [Act.put, List.setIfInBounds_toArray, List.set_cons_zero, List.set_cons_succ])
                      | (apply seqH_eff; (focus (simp only [List.getElem?_toArray, List.getElem?_cons_succ, List.getElem?_cons_zero]; rfl)); (focus rfl); intro K hK; go_simp; fail; rintro e wN ⟨rfl, bN⟩; refine hK _ _ (seq_next (by assumption) bN (fun bS' => ?_)); clear hK K))
                    refine seqH_nil ?_
                    go_wp2_with fail
                    go_ret2
                    rw [HS.out]
                    exact ⟨⟨by go_num, N, _, hbZ.drew, hOZ.drew, hnd, hbl, fun j hj => by injection hj with hj; subst hj; exact ⟨rfl, by simp at hLd; omega⟩⟩, hBZ.drew⟩
              · have HR : Hid (Ck.step .head body (sl s) = .err 3) := by
                  show _ = _
                  rw [HS.out, hl]
                  unfold atEnd
                  split
                  · rename_i h; cases h
                  · rename_i h; injection h with _ h; cases h
                  · rename_i h; injection h with h1 h; injection h with h2 _; exact absurd ⟨h1, h2⟩ hxy
                  · rfl
                rw [hl, hpre_no hxy] at HPX
                clear hl HS hxy
                go_wp2_with (go_at_call 102; refine (HPX.out _).mono ?_; rintro e w' ⟨rfl, rfl⟩)
                go_ret2
                rw [HR.out]
                exact ⟨⟨⟨_, rfl⟩, by decide, by decide, HBD.out⟩, Below.refl _ _⟩
          · have hltd : decide ((k : Int) < (s.size : Int)) = false := decide_eq_false (by omega)
            have hke : k = s.size := by omega
            have e1 : (s.extract k s.size).toList.isEmpty = true := by rw [ba_toList, sl_extract_end, List.drop_of_length_le (by rw [sl_len]; omega)]; rfl
            have HR : Hid (Ck.step .head body (sl s) = .short) := by
              show _ = _
              have hdl : (digs (sl s)).length = k := by rw [HDG.out, List.length_take, sl_len]; omega
              rw [step_head, hdl, HHE.out, if_neg (fun h => by omega), List.drop_of_length_le (by rw [sl_len]; omega)]
              rfl
            have hk1 : ((k : Int) == 0) = false := by rw [beq_eq_false_iff_ne]; omega
            clear hsem hke
            go_wp2_with fail
            go_ret2
            rw [HR.out]
            exact ⟨⟨⟨_, rfl⟩, HDC.out⟩, Below.refl _ _⟩
    clear hK1
    by_cases hlt : k < s.size
    · by_cases h4 : k < 4
      · have hgd : (sl s).drop k = s[k] :: (sl s).drop (k + 1) := by
          rw [← sl_getElem s k hlt]
          exact List.drop_eq_getElem_cons (by rw [sl_len]; exact hlt)
        have HAT := Lib.hid (fun h => all_take (p := hexB) HALL.out (by rw [sl_len]; exact hlt) h)
        rw [sl_getElem s k hlt] at HAT
        have HI := Lib.hid (isHex_any s[k])
        cases hx : hexB s[k] with
        | true =>
          rw [hx] at HI
          have HN := Lib.hid (HAT.out hx)
          clear hx HT hgd
          go_wp2_with (go_at_call 100; refine (HI.out _).mono ?_; rintro e w' ⟨rfl, rfl⟩)
          go_round
          case rel => exact ⟨k + 1, by go_num, h4, hlt, HN⟩
          case measure => simp [intOf]; omega
        | false =>
          rw [hx] at HI
          have HT' := Lib.hid (HT (.inr (.inr ⟨_, _, hgd, hx⟩)))
          clear hx HT hgd
          go_wp2_with (go_at_call 100; refine (HI.out _).mono ?_; rintro e w' ⟨rfl, rfl⟩)
          exact HT'.out ..
      · have HT' := Lib.hid (HT (.inl (by omega)))
        clear HT
        go_wp2_with fail
        exact HT'.out ..
    · have HT' := Lib.hid (HT (.inr (.inl (by rw [sl_len]; omega))))
      clear HT
      go_wp2_with fail
      exact HT'.out ..
end Go.Proofs.YtoalfjkbgeiggaaGreatDoor
