/- (*body.Decoder).Write: as dec says. Printed by mkwrite.py. -/
import Derived.Test.YtoalfjkbgeiggaaGreatDoorZDecD
import Derived.Test.YtoalfjkbgeiggaaGreatDoorZRegionM
namespace Go.Proofs.YtoalfjkbgeiggaaGreatDoor
set_option maxRecDepth 20000
open Go.RowKit
open Ck
namespace Ck
theorem atEnd_cases (rest : List UInt8) (k : Ans) : atEnd rest k = .short ∨ atEnd rest k = k ∨ atEnd rest k = .err 3 := by
  unfold atEnd
  split
  · exact .inl rfl
  · exact .inl rfl
  · exact .inr (.inl rfl)
  · exact .inr (.inr rfl)
theorem step_nofin {st : St} (h : st ≠ .trailer) (b s : List UInt8) (k : Nat) : Ck.step st b s = .fin k → False := by
  intro hs
  cases st with
  | head =>
    rw [step_head] at hs
    split at hs
    · cases hs
    · split at hs
      · rcases atEnd_cases (s.drop (headEnd s)) (.err 2) with h1 | h1 | h1 <;> rw [h1] at hs <;> cases hs
      · generalize hX : Ans.go (headEnd s + 2) (if hexN (digs s) = 0 then St.trailer else St.data (hexN (digs s))) b = X at hs
        rcases atEnd_cases (s.drop (headEnd s)) X with h1 | h1 | h1 <;> rw [h1] at hs
        · cases hs
        · rw [← hX] at hs; cases hs
        · cases hs
  | data left =>
    rw [step_data] at hs
    split at hs
    · cases hs
    · generalize hX : Ans.go (left + 2) St.head (b ++ s.take left) = X at hs
      rcases atEnd_cases (s.drop left) X with h1 | h1 | h1 <;> rw [h1] at hs
      · cases hs
      · rw [← hX] at hs; cases hs
      · cases hs
  | trailer => exact h rfl
theorem step_nogo (b s : List UInt8) (k : Nat) (st2 : St) (b2 : List UInt8) : Ck.step .trailer b s = .go k st2 b2 → False := by
  intro hs
  rw [step_trailer] at hs
  split at hs
  · split at hs <;> cases hs
  · cases hs
def WriteAns (n0 d n : Nat) (a : Res) (e : Ending) (w' : World) : Prop :=
  match a with
  | .short st b r => e = .returned (.tuple #[.int .i64 (n : Int), .int .i64 0]) ∧ ∃ R, sl R = r ∧ Dec w' n0 d st R b false
  | .err c => e = .returned (.tuple #[.int .i64 0, .int .i64 c]) ∧ Bad w' d true
  | .done b r => e = .returned (.tuple #[.int .i64 ((n : Int) - (r.length : Int)), .int .i64 0]) ∧ ∃ R st, sl R = r ∧ Dec w' n0 d st R b true
def decMeas (w : World) (d : Nat) : Nat := strLen ((w.cell? ⟨d, 1, none⟩).getD undef) + (match w.cell? ⟨d, 4, none⟩ with | some (.bool true) => 0 | _ => 1)
theorem Dec.meas {w : World} {n0 d : Nat} {st : St} {R : ByteArray} {b : List UInt8} {dn : Bool} (h : Dec w n0 d st R b dn) : decMeas w d = R.size + (if dn then 0 else 1) := by
  obtain ⟨left, v, hb, -⟩ := h
  have h1 := hb.cell 1
  have h4 := hb.cell 4
  unfold decMeas
  rw [h1, h4]
  cases dn <;> rfl
theorem Dec.drew {w : World} {n0 d : Nat} {st : St} {R : ByteArray} {b : List UInt8} {dn : Bool} (h : Dec w n0 d st R b dn) : Dec w.drew n0 d st R b dn := h
end Ck
set_option maxHeartbeats 8000000 in
theorem writeD_any (n0 d : Nat) (st : St) (s rest : ByteArray) (body : List UInt8) (w : World) (hd : Dec w n0 d st rest body false) (hs : rest.size + s.size < 4294967281) (hm : HasMaxN n0 w) :
    Calls Tryz.prog 53 #[.pointer (some ⟨d, 0, none⟩), .string s] w fun e w' => WriteAns n0 d s.size (dec st body (sl rest ++ sl s)) e w' ∧ Below n0 w w' := by
  obtain ⟨left, v, hbk, hown, hnd, hbl, hk⟩ := hd
  obtain ⟨A, hA⟩ : ∃ A, rest ++ s = A := ⟨_, rfl⟩
  have hAz : A.size = rest.size + s.size := by rw [← hA, ByteArray.size_append]
  have HAL : Hid (sl rest ++ sl s = sl A) := by show _ = _; rw [← hA, sl_append]
  have c1 := hbk.cell 1
  have c4 := hbk.cell 4
  have c5 := hbk.cell 5
  have f1 := hbk.frozen 1
  have hb1 := hbk.set_ 1 (.string A)
  have HD1 : Hid (Dec (w.setCell ⟨d, 1, none⟩ (.string A)) n0 d st A body false) := ⟨left, v, hb1, hown.setFar ⟨d, 1, none⟩ _ (hown.ne_blk hbk (by decide)), hnd, hbl, hk⟩
  have hB1 := (Below.refl n0 w).setCell (p := ⟨d, 1, none⟩) hnd (.string A)
  have g1 := hb1.cell 1
  have HMX := Lib.hid hm
  rw [HAL.out]
  obtain ⟨D, hD⟩ : ∃ D, dec st body (sl A) = D := ⟨_, rfl⟩
  have HDD := Lib.hid hD
  rw [hD]
  clear hown hk hm hD
  go_enter Tryz.func53, Tryz.ntmps53
  go_wp2_with fail
  clear c1 c4 c5 f1 hb1 hbk g1
  generalize w.setCell ⟨d, 1, none⟩ (.string A) = w1 at *
  go_loopw [8, 9] (fun _ _ wr => ∃ (dn : Bool) (st1 : St) (R1 : ByteArray) (b1 : List UInt8), Dec wr n0 d st1 R1 b1 dn ∧ Hid (if dn then D = .done b1 (sl R1) else dec st1 b1 (sl R1) = D) ∧ R1.size ≤ A.size ∧ Below n0 w wr) (fun _ _ wr => decMeas wr d)
  case atStart => exact ⟨false, st, A, body, HD1.out, HDD.out, Nat.le_refl _, hB1⟩
  case round =>
    obtain ⟨dn, st1, R1, b1, hde, HD, hRA, hbel⟩ := hrel
    have HDE := Lib.hid hde
    have HMS := Lib.hid (Dec.meas hde)
    obtain ⟨left1, v1, hbk, hown, -, -, -⟩ := hde
    have c0 := hbk.cell 0
    have c1 := hbk.cell 1
    have c4 := hbk.cell 4
    cases dn with
    | true =>
      have HDX : Hid (D = .done b1 (sl R1)) := HD.out
      have hw1 : IntKind.i64.wrap ((A.size : Int) - (R1.size : Int)) = (A.size : Int) - (R1.size : Int) := by rw [IntKind.wrap_i64]; omega
      have hw2 : IntKind.i64.wrap ((A.size : Int) - (R1.size : Int) - (rest.size : Int)) = (A.size : Int) - (R1.size : Int) - (rest.size : Int) := by rw [IntKind.wrap_i64]; omega
      go_wp2_with fail
      go_ret2
      rw [HDX.out]
      exact ⟨⟨ret_ii (by rw [sl_len]; omega) rfl, R1, st1, rfl, HDE.out⟩, hbel⟩
    | false =>
      cases st1 with
      | head =>
        cases hst : Ck.step .head b1 (sl R1) with
        | short =>
          have HC : Hid (Calls Tryz.prog 78 #[.pointer (some ⟨d, 0, none⟩), .string R1] wr.drew fun e w' => ((∃ n, e = .returned (.tuple #[.int .i64 n, .int .i64 8])) ∧ Dec w' n0 d .head R1 b1 false) ∧ Below n0 wr.drew w') := by
            have h := head_any n0 d R1 R1 b1 wr.drew HDE.out.drew (by omega)
            rw [hst] at h
            exact h
          have HR : Hid (D = .short .head b1 (sl R1)) := by show _ = _; rw [← HD.out, dec_eq, hst]
          clear hst
          go_wp2_with fail
          refine wp_region_mid [(true, 0), (true, 1), (true, 2), (true, 3), (true, 4), (true, 5), (true, 6), (true, 7), (true, 8), (false, 9), (true, 10), (true, 11), (true, 12), (true, 13), (true, 14)] 9 (fun w' => w'.cell? ⟨d, 0, none⟩ = some (fnOf .head) ∧ w'.cell? ⟨d, 1, none⟩ = some (.string R1)) (by kernel_rfl) (by kernel_rfl) (by kernel_rfl) (fun _ _ _ _ _ h => h) (by kernel_rfl) (by kernel_rfl) ?_ ?_
          · exact ⟨c0, c1⟩
          iterate 9 (first | (apply seqM_skip; (focus (simp only [List.getElem?_toArray, List.getElem?_cons_succ, List.getElem?_cons_zero]; rfl)); (focus rfl); simp only [Act.put, List.setIfInBounds_toArray, List.set_cons_zero, List.set_cons_succ]) | (apply seqM_take; (focus (simp only [List.getElem?_toArray, List.getElem?_cons_succ, List.getElem?_cons_zero]; rfl)); (focus rfl); (focus (intro w' hS; obtain ⟨h1, h2⟩ := hS (by decide); first | (go_simp; rfl) | (go_simp; done))); simp only [Act.put, List.setIfInBounds_toArray, List.set_cons_zero, List.set_cons_succ]))
          apply seqM_eff
          (focus (simp only [List.getElem?_toArray, List.getElem?_cons_succ, List.getElem?_cons_zero]; rfl))
          (focus rfl)
          intro K hK
          go_simp
          refine HC.out.mono ?_
          rintro e w2 ⟨⟨⟨n, rfl⟩, hD2⟩, hB2⟩
          refine hK _ _ ?_
          clear hK K
          iterate 5 (first | (apply seqM_skip; (focus (simp only [List.getElem?_toArray, List.getElem?_cons_succ, List.getElem?_cons_zero]; rfl)); (focus rfl); simp only [Act.put, List.setIfInBounds_toArray, List.set_cons_zero, List.set_cons_succ]) | (apply seqM_take; (focus (simp only [List.getElem?_toArray, List.getElem?_cons_succ, List.getElem?_cons_zero]; rfl)); (focus rfl); (focus (intro w' hS; skip; first | (go_simp; rfl) | (go_simp; done))); simp only [Act.put, List.setIfInBounds_toArray, List.set_cons_zero, List.set_cons_succ]))
          refine seqM_nil ?_
          go_wp2_with fail
          go_ret2
          rw [HR.out]
          exact ⟨⟨rfl, R1, rfl, hD2⟩, hbel.drew.trans hB2⟩
        | err c =>
          have HC : Hid (Calls Tryz.prog 78 #[.pointer (some ⟨d, 0, none⟩), .string R1] wr.drew fun e w' => ((∃ n, e = .returned (.tuple #[.int .i64 n, .int .i64 c])) ∧ c ≠ 0 ∧ c ≠ 8 ∧ Bad w' d false) ∧ Below n0 wr.drew w') := by
            have h := head_any n0 d R1 R1 b1 wr.drew HDE.out.drew (by omega)
            rw [hst] at h
            exact h
          have HR : Hid (D = .err c) := by show _ = _; rw [← HD.out, dec_eq, hst]
          clear hst
          go_wp2_with fail
          refine wp_region_mid [(true, 0), (true, 1), (true, 2), (true, 3), (true, 4), (true, 5), (true, 6), (true, 7), (true, 8), (false, 9), (true, 10), (true, 11), (true, 12), (true, 13), (true, 14)] 9 (fun w' => w'.cell? ⟨d, 0, none⟩ = some (fnOf .head) ∧ w'.cell? ⟨d, 1, none⟩ = some (.string R1)) (by kernel_rfl) (by kernel_rfl) (by kernel_rfl) (fun _ _ _ _ _ h => h) (by kernel_rfl) (by kernel_rfl) ?_ ?_
          · exact ⟨c0, c1⟩
          iterate 9 (first | (apply seqM_skip; (focus (simp only [List.getElem?_toArray, List.getElem?_cons_succ, List.getElem?_cons_zero]; rfl)); (focus rfl); simp only [Act.put, List.setIfInBounds_toArray, List.set_cons_zero, List.set_cons_succ]) | (apply seqM_take; (focus (simp only [List.getElem?_toArray, List.getElem?_cons_succ, List.getElem?_cons_zero]; rfl)); (focus rfl); (focus (intro w' hS; obtain ⟨h1, h2⟩ := hS (by decide); first | (go_simp; rfl) | (go_simp; done))); simp only [Act.put, List.setIfInBounds_toArray, List.set_cons_zero, List.set_cons_succ]))
          apply seqM_eff
          (focus (simp only [List.getElem?_toArray, List.getElem?_cons_succ, List.getElem?_cons_zero]; rfl))
          (focus rfl)
          intro K hK
          go_simp
          refine HC.out.mono ?_
          rintro e w2 ⟨⟨⟨n, rfl⟩, hc0, hc8, x0, x1, x2, x3, hb2⟩, hB2⟩
          refine hK _ _ ?_
          clear hK K
          iterate 5 (first | (apply seqM_skip; (focus (simp only [List.getElem?_toArray, List.getElem?_cons_succ, List.getElem?_cons_zero]; rfl)); (focus rfl); simp only [Act.put, List.setIfInBounds_toArray, List.set_cons_zero, List.set_cons_succ]) | (apply seqM_take; (focus (simp only [List.getElem?_toArray, List.getElem?_cons_succ, List.getElem?_cons_zero]; rfl)); (focus rfl); (focus (intro w' hS; skip; first | (go_simp; rfl) | (go_simp; done))); simp only [Act.put, List.setIfInBounds_toArray, List.set_cons_zero, List.set_cons_succ]))
          refine seqM_nil ?_
          have e8 : (c == 8) = false := by rw [beq_eq_false_iff_ne]; exact hc8
          have e0 : (c != 0) = true := by rw [bne_iff_ne]; exact hc0
          have c5 := hb2.cell 5
          have f5 := hb2.frozen 5
          have hb3 := hb2.set_ 5 (.bool true)
          have hB3 := (hbel.drew.trans hB2).setCell (p := ⟨d, 5, none⟩) hnd (.bool true)
          go_wp2_with fail
          go_ret2
          rw [HR.out]
          exact ⟨⟨rfl, _, _, _, _, hb3⟩, hB3⟩
        | go k st2 b2 =>
          have HC : Hid (Calls Tryz.prog 78 #[.pointer (some ⟨d, 0, none⟩), .string R1] wr.drew fun e w' => (e = .returned (.tuple #[.int .i64 (k : Int), .int .i64 0]) ∧ Dec w' n0 d st2 R1 b2 false) ∧ Below n0 wr.drew w') := by
            have h := head_any n0 d R1 R1 b1 wr.drew HDE.out.drew (by omega)
            rw [hst] at h
            exact h
          have HR : Hid (dec st2 b2 ((sl R1).drop k) = D) := by show _ = _; rw [← HD.out, dec_eq .head, hst]
          have hkk := (step_more .head b1 (sl R1) [] (by rw [hst]; exact fun h => by cases h)).2.1 k st2 b2 hst
          rw [sl_len] at hkk
          obtain ⟨hk2, hkl⟩ := hkk
          clear hst
          go_wp2_with fail
          refine wp_region_mid [(true, 0), (true, 1), (true, 2), (true, 3), (true, 4), (true, 5), (true, 6), (true, 7), (true, 8), (false, 9), (true, 10), (true, 11), (true, 12), (true, 13), (true, 14)] 9 (fun w' => w'.cell? ⟨d, 0, none⟩ = some (fnOf .head) ∧ w'.cell? ⟨d, 1, none⟩ = some (.string R1)) (by kernel_rfl) (by kernel_rfl) (by kernel_rfl) (fun _ _ _ _ _ h => h) (by kernel_rfl) (by kernel_rfl) ?_ ?_
          · exact ⟨c0, c1⟩
          iterate 9 (first | (apply seqM_skip; (focus (simp only [List.getElem?_toArray, List.getElem?_cons_succ, List.getElem?_cons_zero]; rfl)); (focus rfl); simp only [Act.put, List.setIfInBounds_toArray, List.set_cons_zero, List.set_cons_succ]) | (apply seqM_take; (focus (simp only [List.getElem?_toArray, List.getElem?_cons_succ, List.getElem?_cons_zero]; rfl)); (focus rfl); (focus (intro w' hS; obtain ⟨h1, h2⟩ := hS (by decide); first | (go_simp; rfl) | (go_simp; done))); simp only [Act.put, List.setIfInBounds_toArray, List.set_cons_zero, List.set_cons_succ]))
          apply seqM_eff
          (focus (simp only [List.getElem?_toArray, List.getElem?_cons_succ, List.getElem?_cons_zero]; rfl))
          (focus rfl)
          intro K hK
          go_simp
          refine HC.out.mono ?_
          rintro e w2 ⟨⟨rfl, left2, v2, hb2, ho2, -, hbl2, hkd2⟩, hB2⟩
          refine hK _ _ ?_
          clear hK K
          iterate 5 (first | (apply seqM_skip; (focus (simp only [List.getElem?_toArray, List.getElem?_cons_succ, List.getElem?_cons_zero]; rfl)); (focus rfl); simp only [Act.put, List.setIfInBounds_toArray, List.set_cons_zero, List.set_cons_succ]) | (apply seqM_take; (focus (simp only [List.getElem?_toArray, List.getElem?_cons_succ, List.getElem?_cons_zero]; rfl)); (focus rfl); (focus (intro w' hS; skip; first | (go_simp; rfl) | (go_simp; done))); simp only [Act.put, List.setIfInBounds_toArray, List.set_cons_zero, List.set_cons_succ]))
          refine seqM_nil ?_
          have d1 := hb2.cell 1
          have f1 := hb2.frozen 1
          have HD3 : Hid (Dec (w2.setCell ⟨d, 1, none⟩ (.string (R1.extract k R1.size))) n0 d st2 (R1.extract k R1.size) b2 false) := ⟨left2, v2, hb2.set_ 1 (.string (R1.extract k R1.size)), ho2.setFar ⟨d, 1, none⟩ _ (ho2.ne_blk hb2 (by decide)), hnd, hbl2, hkd2⟩
          have hB3 := (hbel.drew.trans hB2).setCell (p := ⟨d, 1, none⟩) hnd (.string (R1.extract k R1.size))
          have hm3 : Hid (decMeas (w2.setCell ⟨d, 1, none⟩ (.string (R1.extract k R1.size))) d = R1.size - k + 1) := by
            show _ = _
            rw [Dec.meas HD3.out, ext_size _ _ _ (Nat.le_refl _)]; rfl
          clear hb2 ho2 hB2 hkd2 hbl2
          go_wp2_with fail
          go_roundw
          case rel => exact ⟨false, st2, _, b2, HD3.out, by show dec st2 b2 (sl (R1.extract k R1.size)) = D; rw [sl_extract_end]; exact HR.out, by rw [ext_size _ _ _ (Nat.le_refl _)]; omega, hB3⟩
          case measure => rw [hm3.out, HMS.out]; simp; omega
        | fin k => exact absurd hst (by intro h; revert h; exact step_nofin (by intro h; cases h) _ _ _)
      | data k1 =>
        cases hst : Ck.step (.data k1) b1 (sl R1) with
        | short =>
          have HC : Hid (Calls Tryz.prog 104 #[.pointer (some ⟨d, 0, none⟩), .string R1] wr.drew fun e w' => ((∃ n, e = .returned (.tuple #[.int .i64 n, .int .i64 8])) ∧ Dec w' n0 d (.data k1) R1 b1 false) ∧ Below n0 wr.drew w') := by
            have h := data_any n0 d k1 R1 R1 b1 wr.drew HDE.out.drew (by omega)
            rw [hst] at h
            exact h
          have HR : Hid (D = .short (.data k1) b1 (sl R1)) := by show _ = _; rw [← HD.out, dec_eq, hst]
          clear hst
          go_wp2_with fail
          refine wp_region_mid [(true, 0), (true, 1), (true, 2), (true, 3), (true, 4), (true, 5), (true, 6), (true, 7), (true, 8), (false, 9), (true, 10), (true, 11), (true, 12), (true, 13), (true, 14)] 9 (fun w' => w'.cell? ⟨d, 0, none⟩ = some (fnOf (.data k1)) ∧ w'.cell? ⟨d, 1, none⟩ = some (.string R1)) (by kernel_rfl) (by kernel_rfl) (by kernel_rfl) (fun _ _ _ _ _ h => h) (by kernel_rfl) (by kernel_rfl) ?_ ?_
          · exact ⟨c0, c1⟩
          iterate 9 (first | (apply seqM_skip; (focus (simp only [List.getElem?_toArray, List.getElem?_cons_succ, List.getElem?_cons_zero]; rfl)); (focus rfl); simp only [Act.put, List.setIfInBounds_toArray, List.set_cons_zero, List.set_cons_succ]) | (apply seqM_take; (focus (simp only [List.getElem?_toArray, List.getElem?_cons_succ, List.getElem?_cons_zero]; rfl)); (focus rfl); (focus (intro w' hS; obtain ⟨h1, h2⟩ := hS (by decide); first | (go_simp; rfl) | (go_simp; done))); simp only [Act.put, List.setIfInBounds_toArray, List.set_cons_zero, List.set_cons_succ]))
          apply seqM_eff
          (focus (simp only [List.getElem?_toArray, List.getElem?_cons_succ, List.getElem?_cons_zero]; rfl))
          (focus rfl)
          intro K hK
          go_simp
          refine HC.out.mono ?_
          rintro e w2 ⟨⟨⟨n, rfl⟩, hD2⟩, hB2⟩
          refine hK _ _ ?_
          clear hK K
          iterate 5 (first | (apply seqM_skip; (focus (simp only [List.getElem?_toArray, List.getElem?_cons_succ, List.getElem?_cons_zero]; rfl)); (focus rfl); simp only [Act.put, List.setIfInBounds_toArray, List.set_cons_zero, List.set_cons_succ]) | (apply seqM_take; (focus (simp only [List.getElem?_toArray, List.getElem?_cons_succ, List.getElem?_cons_zero]; rfl)); (focus rfl); (focus (intro w' hS; skip; first | (go_simp; rfl) | (go_simp; done))); simp only [Act.put, List.setIfInBounds_toArray, List.set_cons_zero, List.set_cons_succ]))
          refine seqM_nil ?_
          go_wp2_with fail
          go_ret2
          rw [HR.out]
          exact ⟨⟨rfl, R1, rfl, hD2⟩, hbel.drew.trans hB2⟩
        | err c =>
          have HC : Hid (Calls Tryz.prog 104 #[.pointer (some ⟨d, 0, none⟩), .string R1] wr.drew fun e w' => ((∃ n, e = .returned (.tuple #[.int .i64 n, .int .i64 c])) ∧ c ≠ 0 ∧ c ≠ 8 ∧ Bad w' d false) ∧ Below n0 wr.drew w') := by
            have h := data_any n0 d k1 R1 R1 b1 wr.drew HDE.out.drew (by omega)
            rw [hst] at h
            exact h
          have HR : Hid (D = .err c) := by show _ = _; rw [← HD.out, dec_eq, hst]
          clear hst
          go_wp2_with fail
          refine wp_region_mid [(true, 0), (true, 1), (true, 2), (true, 3), (true, 4), (true, 5), (true, 6), (true, 7), (true, 8), (false, 9), (true, 10), (true, 11), (true, 12), (true, 13), (true, 14)] 9 (fun w' => w'.cell? ⟨d, 0, none⟩ = some (fnOf (.data k1)) ∧ w'.cell? ⟨d, 1, none⟩ = some (.string R1)) (by kernel_rfl) (by kernel_rfl) (by kernel_rfl) (fun _ _ _ _ _ h => h) (by kernel_rfl) (by kernel_rfl) ?_ ?_
          · exact ⟨c0, c1⟩
          iterate 9 (first | (apply seqM_skip; (focus (simp only [List.getElem?_toArray, List.getElem?_cons_succ, List.getElem?_cons_zero]; rfl)); (focus rfl); simp only [Act.put, List.setIfInBounds_toArray, List.set_cons_zero, List.set_cons_succ]) | (apply seqM_take; (focus (simp only [List.getElem?_toArray, List.getElem?_cons_succ, List.getElem?_cons_zero]; rfl)); (focus rfl); (focus (intro w' hS; obtain ⟨h1, h2⟩ := hS (by decide); first | (go_simp; rfl) | (go_simp; done))); simp only [Act.put, List.setIfInBounds_toArray, List.set_cons_zero, List.set_cons_succ]))
          apply seqM_eff
          (focus (simp only [List.getElem?_toArray, List.getElem?_cons_succ, List.getElem?_cons_zero]; rfl))
          (focus rfl)
          intro K hK
          go_simp
          refine HC.out.mono ?_
          rintro e w2 ⟨⟨⟨n, rfl⟩, hc0, hc8, x0, x1, x2, x3, hb2⟩, hB2⟩
          refine hK _ _ ?_
          clear hK K
          iterate 5 (first | (apply seqM_skip; (focus (simp only [List.getElem?_toArray, List.getElem?_cons_succ, List.getElem?_cons_zero]; rfl)); (focus rfl); simp only [Act.put, List.setIfInBounds_toArray, List.set_cons_zero, List.set_cons_succ]) | (apply seqM_take; (focus (simp only [List.getElem?_toArray, List.getElem?_cons_succ, List.getElem?_cons_zero]; rfl)); (focus rfl); (focus (intro w' hS; skip; first | (go_simp; rfl) | (go_simp; done))); simp only [Act.put, List.setIfInBounds_toArray, List.set_cons_zero, List.set_cons_succ]))
          refine seqM_nil ?_
          have e8 : (c == 8) = false := by rw [beq_eq_false_iff_ne]; exact hc8
          have e0 : (c != 0) = true := by rw [bne_iff_ne]; exact hc0
          have c5 := hb2.cell 5
          have f5 := hb2.frozen 5
          have hb3 := hb2.set_ 5 (.bool true)
          have hB3 := (hbel.drew.trans hB2).setCell (p := ⟨d, 5, none⟩) hnd (.bool true)
          go_wp2_with fail
          go_ret2
          rw [HR.out]
          exact ⟨⟨rfl, _, _, _, _, hb3⟩, hB3⟩
        | go k st2 b2 =>
          have HC : Hid (Calls Tryz.prog 104 #[.pointer (some ⟨d, 0, none⟩), .string R1] wr.drew fun e w' => (e = .returned (.tuple #[.int .i64 (k : Int), .int .i64 0]) ∧ Dec w' n0 d st2 R1 b2 false) ∧ Below n0 wr.drew w') := by
            have h := data_any n0 d k1 R1 R1 b1 wr.drew HDE.out.drew (by omega)
            rw [hst] at h
            exact h
          have HR : Hid (dec st2 b2 ((sl R1).drop k) = D) := by show _ = _; rw [← HD.out, dec_eq (.data k1), hst]
          have hkk := (step_more (.data k1) b1 (sl R1) [] (by rw [hst]; exact fun h => by cases h)).2.1 k st2 b2 hst
          rw [sl_len] at hkk
          obtain ⟨hk2, hkl⟩ := hkk
          clear hst
          go_wp2_with fail
          refine wp_region_mid [(true, 0), (true, 1), (true, 2), (true, 3), (true, 4), (true, 5), (true, 6), (true, 7), (true, 8), (false, 9), (true, 10), (true, 11), (true, 12), (true, 13), (true, 14)] 9 (fun w' => w'.cell? ⟨d, 0, none⟩ = some (fnOf (.data k1)) ∧ w'.cell? ⟨d, 1, none⟩ = some (.string R1)) (by kernel_rfl) (by kernel_rfl) (by kernel_rfl) (fun _ _ _ _ _ h => h) (by kernel_rfl) (by kernel_rfl) ?_ ?_
          · exact ⟨c0, c1⟩
          iterate 9 (first | (apply seqM_skip; (focus (simp only [List.getElem?_toArray, List.getElem?_cons_succ, List.getElem?_cons_zero]; rfl)); (focus rfl); simp only [Act.put, List.setIfInBounds_toArray, List.set_cons_zero, List.set_cons_succ]) | (apply seqM_take; (focus (simp only [List.getElem?_toArray, List.getElem?_cons_succ, List.getElem?_cons_zero]; rfl)); (focus rfl); (focus (intro w' hS; obtain ⟨h1, h2⟩ := hS (by decide); first | (go_simp; rfl) | (go_simp; done))); simp only [Act.put, List.setIfInBounds_toArray, List.set_cons_zero, List.set_cons_succ]))
          apply seqM_eff
          (focus (simp only [List.getElem?_toArray, List.getElem?_cons_succ, List.getElem?_cons_zero]; rfl))
          (focus rfl)
          intro K hK
          go_simp
          refine HC.out.mono ?_
          rintro e w2 ⟨⟨rfl, left2, v2, hb2, ho2, -, hbl2, hkd2⟩, hB2⟩
          refine hK _ _ ?_
          clear hK K
          iterate 5 (first | (apply seqM_skip; (focus (simp only [List.getElem?_toArray, List.getElem?_cons_succ, List.getElem?_cons_zero]; rfl)); (focus rfl); simp only [Act.put, List.setIfInBounds_toArray, List.set_cons_zero, List.set_cons_succ]) | (apply seqM_take; (focus (simp only [List.getElem?_toArray, List.getElem?_cons_succ, List.getElem?_cons_zero]; rfl)); (focus rfl); (focus (intro w' hS; skip; first | (go_simp; rfl) | (go_simp; done))); simp only [Act.put, List.setIfInBounds_toArray, List.set_cons_zero, List.set_cons_succ]))
          refine seqM_nil ?_
          have d1 := hb2.cell 1
          have f1 := hb2.frozen 1
          have HD3 : Hid (Dec (w2.setCell ⟨d, 1, none⟩ (.string (R1.extract k R1.size))) n0 d st2 (R1.extract k R1.size) b2 false) := ⟨left2, v2, hb2.set_ 1 (.string (R1.extract k R1.size)), ho2.setFar ⟨d, 1, none⟩ _ (ho2.ne_blk hb2 (by decide)), hnd, hbl2, hkd2⟩
          have hB3 := (hbel.drew.trans hB2).setCell (p := ⟨d, 1, none⟩) hnd (.string (R1.extract k R1.size))
          have hm3 : Hid (decMeas (w2.setCell ⟨d, 1, none⟩ (.string (R1.extract k R1.size))) d = R1.size - k + 1) := by
            show _ = _
            rw [Dec.meas HD3.out, ext_size _ _ _ (Nat.le_refl _)]; rfl
          clear hb2 ho2 hB2 hkd2 hbl2
          go_wp2_with fail
          go_roundw
          case rel => exact ⟨false, st2, _, b2, HD3.out, by show dec st2 b2 (sl (R1.extract k R1.size)) = D; rw [sl_extract_end]; exact HR.out, by rw [ext_size _ _ _ (Nat.le_refl _)]; omega, hB3⟩
          case measure => rw [hm3.out, HMS.out]; simp; omega
        | fin k => exact absurd hst (by intro h; revert h; exact step_nofin (by intro h; cases h) _ _ _)
      | trailer =>
        cases hst : Ck.step .trailer b1 (sl R1) with
        | short =>
          have HC : Hid (Calls Tryz.prog 105 #[.pointer (some ⟨d, 0, none⟩), .string R1] wr.drew fun e w' => ((∃ n, e = .returned (.tuple #[.int .i64 n, .int .i64 8])) ∧ Dec w' n0 d .trailer R1 b1 false) ∧ Below n0 wr.drew w') := by
            have h := trailer_any n0 d R1 R1 b1 wr.drew HDE.out.drew (by omega) (HMX.out.below hbel.drew)
            rw [hst] at h
            exact h
          have HR : Hid (D = .short .trailer b1 (sl R1)) := by show _ = _; rw [← HD.out, dec_eq, hst]
          clear hst
          go_wp2_with fail
          refine wp_region_mid [(true, 0), (true, 1), (true, 2), (true, 3), (true, 4), (true, 5), (true, 6), (true, 7), (true, 8), (false, 9), (true, 10), (true, 11), (true, 12), (true, 13), (true, 14)] 9 (fun w' => w'.cell? ⟨d, 0, none⟩ = some (fnOf .trailer) ∧ w'.cell? ⟨d, 1, none⟩ = some (.string R1)) (by kernel_rfl) (by kernel_rfl) (by kernel_rfl) (fun _ _ _ _ _ h => h) (by kernel_rfl) (by kernel_rfl) ?_ ?_
          · exact ⟨c0, c1⟩
          iterate 9 (first | (apply seqM_skip; (focus (simp only [List.getElem?_toArray, List.getElem?_cons_succ, List.getElem?_cons_zero]; rfl)); (focus rfl); simp only [Act.put, List.setIfInBounds_toArray, List.set_cons_zero, List.set_cons_succ]) | (apply seqM_take; (focus (simp only [List.getElem?_toArray, List.getElem?_cons_succ, List.getElem?_cons_zero]; rfl)); (focus rfl); (focus (intro w' hS; obtain ⟨h1, h2⟩ := hS (by decide); first | (go_simp; rfl) | (go_simp; done))); simp only [Act.put, List.setIfInBounds_toArray, List.set_cons_zero, List.set_cons_succ]))
          apply seqM_eff
          (focus (simp only [List.getElem?_toArray, List.getElem?_cons_succ, List.getElem?_cons_zero]; rfl))
          (focus rfl)
          intro K hK
          go_simp
          refine HC.out.mono ?_
          rintro e w2 ⟨⟨⟨n, rfl⟩, hD2⟩, hB2⟩
          refine hK _ _ ?_
          clear hK K
          iterate 5 (first | (apply seqM_skip; (focus (simp only [List.getElem?_toArray, List.getElem?_cons_succ, List.getElem?_cons_zero]; rfl)); (focus rfl); simp only [Act.put, List.setIfInBounds_toArray, List.set_cons_zero, List.set_cons_succ]) | (apply seqM_take; (focus (simp only [List.getElem?_toArray, List.getElem?_cons_succ, List.getElem?_cons_zero]; rfl)); (focus rfl); (focus (intro w' hS; skip; first | (go_simp; rfl) | (go_simp; done))); simp only [Act.put, List.setIfInBounds_toArray, List.set_cons_zero, List.set_cons_succ]))
          refine seqM_nil ?_
          go_wp2_with fail
          go_ret2
          rw [HR.out]
          exact ⟨⟨rfl, R1, rfl, hD2⟩, hbel.drew.trans hB2⟩
        | err c =>
          have HC : Hid (Calls Tryz.prog 105 #[.pointer (some ⟨d, 0, none⟩), .string R1] wr.drew fun e w' => ((∃ n, e = .returned (.tuple #[.int .i64 n, .int .i64 c])) ∧ c ≠ 0 ∧ c ≠ 8 ∧ Bad w' d false) ∧ Below n0 wr.drew w') := by
            have h := trailer_any n0 d R1 R1 b1 wr.drew HDE.out.drew (by omega) (HMX.out.below hbel.drew)
            rw [hst] at h
            exact h
          have HR : Hid (D = .err c) := by show _ = _; rw [← HD.out, dec_eq, hst]
          clear hst
          go_wp2_with fail
          refine wp_region_mid [(true, 0), (true, 1), (true, 2), (true, 3), (true, 4), (true, 5), (true, 6), (true, 7), (true, 8), (false, 9), (true, 10), (true, 11), (true, 12), (true, 13), (true, 14)] 9 (fun w' => w'.cell? ⟨d, 0, none⟩ = some (fnOf .trailer) ∧ w'.cell? ⟨d, 1, none⟩ = some (.string R1)) (by kernel_rfl) (by kernel_rfl) (by kernel_rfl) (fun _ _ _ _ _ h => h) (by kernel_rfl) (by kernel_rfl) ?_ ?_
          · exact ⟨c0, c1⟩
          iterate 9 (first | (apply seqM_skip; (focus (simp only [List.getElem?_toArray, List.getElem?_cons_succ, List.getElem?_cons_zero]; rfl)); (focus rfl); simp only [Act.put, List.setIfInBounds_toArray, List.set_cons_zero, List.set_cons_succ]) | (apply seqM_take; (focus (simp only [List.getElem?_toArray, List.getElem?_cons_succ, List.getElem?_cons_zero]; rfl)); (focus rfl); (focus (intro w' hS; obtain ⟨h1, h2⟩ := hS (by decide); first | (go_simp; rfl) | (go_simp; done))); simp only [Act.put, List.setIfInBounds_toArray, List.set_cons_zero, List.set_cons_succ]))
          apply seqM_eff
          (focus (simp only [List.getElem?_toArray, List.getElem?_cons_succ, List.getElem?_cons_zero]; rfl))
          (focus rfl)
          intro K hK
          go_simp
          refine HC.out.mono ?_
          rintro e w2 ⟨⟨⟨n, rfl⟩, hc0, hc8, x0, x1, x2, x3, hb2⟩, hB2⟩
          refine hK _ _ ?_
          clear hK K
          iterate 5 (first | (apply seqM_skip; (focus (simp only [List.getElem?_toArray, List.getElem?_cons_succ, List.getElem?_cons_zero]; rfl)); (focus rfl); simp only [Act.put, List.setIfInBounds_toArray, List.set_cons_zero, List.set_cons_succ]) | (apply seqM_take; (focus (simp only [List.getElem?_toArray, List.getElem?_cons_succ, List.getElem?_cons_zero]; rfl)); (focus rfl); (focus (intro w' hS; skip; first | (go_simp; rfl) | (go_simp; done))); simp only [Act.put, List.setIfInBounds_toArray, List.set_cons_zero, List.set_cons_succ]))
          refine seqM_nil ?_
          have e8 : (c == 8) = false := by rw [beq_eq_false_iff_ne]; exact hc8
          have e0 : (c != 0) = true := by rw [bne_iff_ne]; exact hc0
          have c5 := hb2.cell 5
          have f5 := hb2.frozen 5
          have hb3 := hb2.set_ 5 (.bool true)
          have hB3 := (hbel.drew.trans hB2).setCell (p := ⟨d, 5, none⟩) hnd (.bool true)
          go_wp2_with fail
          go_ret2
          rw [HR.out]
          exact ⟨⟨rfl, _, _, _, _, hb3⟩, hB3⟩
        | go k st2 b2 => exact absurd hst (by intro h; revert h; exact step_nogo _ _ _ _ _)
        | fin k =>
          have HC : Hid (Calls Tryz.prog 105 #[.pointer (some ⟨d, 0, none⟩), .string R1] wr.drew fun e w' => (e = .returned (.tuple #[.int .i64 (k : Int), .int .i64 0]) ∧ Dec w' n0 d .trailer R1 b1 true) ∧ Below n0 wr.drew w') := by
            have h := trailer_any n0 d R1 R1 b1 wr.drew HDE.out.drew (by omega) (HMX.out.below hbel.drew)
            rw [hst] at h
            exact h
          have HR : Hid (D = .done b1 ((sl R1).drop k)) := by show _ = _; rw [← HD.out, dec_eq .trailer, hst]
          have hkl := (step_more .trailer b1 (sl R1) [] (by rw [hst]; exact fun h => by cases h)).2.2 k hst
          rw [sl_len] at hkl
          clear hst
          go_wp2_with fail
          refine wp_region_mid [(true, 0), (true, 1), (true, 2), (true, 3), (true, 4), (true, 5), (true, 6), (true, 7), (true, 8), (false, 9), (true, 10), (true, 11), (true, 12), (true, 13), (true, 14)] 9 (fun w' => w'.cell? ⟨d, 0, none⟩ = some (fnOf .trailer) ∧ w'.cell? ⟨d, 1, none⟩ = some (.string R1)) (by kernel_rfl) (by kernel_rfl) (by kernel_rfl) (fun _ _ _ _ _ h => h) (by kernel_rfl) (by kernel_rfl) ?_ ?_
          · exact ⟨c0, c1⟩
          iterate 9 (first | (apply seqM_skip; (focus (simp only [List.getElem?_toArray, List.getElem?_cons_succ, List.getElem?_cons_zero]; rfl)); (focus rfl); simp only [Act.put, List.setIfInBounds_toArray, List.set_cons_zero, List.set_cons_succ]) | (apply seqM_take; (focus (simp only [List.getElem?_toArray, List.getElem?_cons_succ, List.getElem?_cons_zero]; rfl)); (focus rfl); (focus (intro w' hS; obtain ⟨h1, h2⟩ := hS (by decide); first | (go_simp; rfl) | (go_simp; done))); simp only [Act.put, List.setIfInBounds_toArray, List.set_cons_zero, List.set_cons_succ]))
          apply seqM_eff
          (focus (simp only [List.getElem?_toArray, List.getElem?_cons_succ, List.getElem?_cons_zero]; rfl))
          (focus rfl)
          intro K hK
          go_simp
          refine HC.out.mono ?_
          rintro e w2 ⟨⟨rfl, left2, v2, hb2, ho2, -, hbl2, hkd2⟩, hB2⟩
          refine hK _ _ ?_
          clear hK K
          iterate 5 (first | (apply seqM_skip; (focus (simp only [List.getElem?_toArray, List.getElem?_cons_succ, List.getElem?_cons_zero]; rfl)); (focus rfl); simp only [Act.put, List.setIfInBounds_toArray, List.set_cons_zero, List.set_cons_succ]) | (apply seqM_take; (focus (simp only [List.getElem?_toArray, List.getElem?_cons_succ, List.getElem?_cons_zero]; rfl)); (focus rfl); (focus (intro w' hS; skip; first | (go_simp; rfl) | (go_simp; done))); simp only [Act.put, List.setIfInBounds_toArray, List.set_cons_zero, List.set_cons_succ]))
          refine seqM_nil ?_
          have d1 := hb2.cell 1
          have f1 := hb2.frozen 1
          have HD3 : Hid (Dec (w2.setCell ⟨d, 1, none⟩ (.string (R1.extract k R1.size))) n0 d .trailer (R1.extract k R1.size) b1 true) := ⟨left2, v2, hb2.set_ 1 (.string (R1.extract k R1.size)), ho2.setFar ⟨d, 1, none⟩ _ (ho2.ne_blk hb2 (by decide)), hnd, hbl2, hkd2⟩
          have hB3 := (hbel.drew.trans hB2).setCell (p := ⟨d, 1, none⟩) hnd (.string (R1.extract k R1.size))
          have hm3 : Hid (decMeas (w2.setCell ⟨d, 1, none⟩ (.string (R1.extract k R1.size))) d = R1.size - k) := by
            show _ = _
            rw [Dec.meas HD3.out, ext_size _ _ _ (Nat.le_refl _)]; rfl
          clear hb2 ho2 hB2 hkd2 hbl2
          go_wp2_with fail
          go_roundw
          case rel => exact ⟨true, .trailer, _, b1, HD3.out, by show D = .done b1 (sl (R1.extract k R1.size)); rw [sl_extract_end]; exact HR.out, by rw [ext_size _ _ _ (Nat.le_refl _)]; omega, hB3⟩
          case measure => rw [hm3.out, HMS.out]; simp; omega
end Go.Proofs.YtoalfjkbgeiggaaGreatDoor
