/- target: what Normal answers. -/
import Derived.Test.YthocoplaehbncaaDoorTargetD
import Derived.Test.YthocoplaehbncaaDoorCut1
namespace Go.Proofs.YthocoplaehbncaaDoor
set_option maxRecDepth 20000
open Go.RowKit
namespace Tar
def NormAns (l : List UInt8) (e : Ending) : Prop :=
  match normalF l with
  | .error c => e = .returned (.tuple #[.string ByteArray.empty, .int .i64 c])
  | .ok t => e = .returned (.tuple #[.string (mkS t), .int .i64 0])
theorem ans_err {l : List UInt8} {c : Int} {e : Ending} (h : normalF l = .error c) (he : e = .returned (.tuple #[.string ByteArray.empty, .int .i64 c])) : NormAns l e := by unfold NormAns; rw [h]; exact he
theorem ans_ok {l t : List UInt8} {e : Ending} (h : normalF l = .ok t) (he : e = .returned (.tuple #[.string (mkS t), .int .i64 0])) : NormAns l e := by unfold NormAns; rw [h]; exact he
theorem good_iff (c : UInt8) : goodB c = (decide (33 ≤ (c.toNat : Int)) && decide ((c.toNat : Int) ≤ 126) && !((c.toNat : Int) == 35)) := by
  unfold goodB
  have e : ((c.toNat : Int) == 35) = (c == 35) := u8_beq c 35
  rw [e]
  congr 1
  rw [Bool.eq_iff_iff]
  simp only [Bool.and_eq_true, decide_eq_true_eq, u8_le]
  exact Iff.rfl
end Tar
open Tar in
set_option maxHeartbeats 6400000 in
theorem normal_any (s : ByteArray) (w : World) (hs : s.size ≤ 281474976710656) (hmx : (∃ m, w.cell? ⟨1, 0, none⟩ = some (.int .i64 m))) (hmg : 1 < w.heap.size) :
    Calls Tryd.prog 26 #[.string s] w fun e w' => NormAns (sl s) e ∧ Below w.heap.size w w' := by
  have HM := Lib.hid (fun w' (hb : Below w.heap.size w w') => show (∃ m, w'.cell? ⟨1, 0, none⟩ = some (.int .i64 m)) from hmx.elim fun m hm => ⟨m, (hb.cell hmg).trans hm⟩)
  clear hmx hmg
  by_cases h200 : 200 < s.size
  · have HF : Hid (normalF (sl s) = .error 2) := by show _ = _; unfold normalF; rw [if_pos (by rw [sl_len]; exact h200)]
    go_enter Tryd.func26, Tryd.ntmps26
    go_wp2_with fail
    go_ret2
    exact ⟨ans_err HF.out rfl, Below.refl _ _⟩
  · by_cases h0 : s.size = 0
    · have HF : Hid (normalF (sl s) = .error 3) := by
        show _ = _
        rw [empty_of_size s h0]; rfl
      have he : s.toList.isEmpty = true := by rw [ba_toList, empty_of_size s h0]; rfl
      have he2 : (s.toList == []) = true := by rw [ba_toList, empty_of_size s h0]; rfl
      go_enter Tryd.func26, Tryd.ntmps26
      go_wp2_with fail
      go_ret2
      exact ⟨ans_err HF.out rfl, Below.refl _ _⟩
    · have hpos : 0 < s.size := by omega
      have he : s.toList.isEmpty = false := isEmpty_no s hpos
      have HC := Lib.hid (sl_cons s hpos)
      by_cases h47 : s[0] = 47
      · have hne : ((s[0].toNat : Int) != 47) = false := by rw [h47]; rfl
        have HF : Hid (normalF (sl s) = match normL (sl s) with
            | none => .error 3
            | some b => if (sl s).all goodB = true then .ok (dotsP (cutQ b).1 ++ (cutQ b).2) else .error 3) := by
          show _ = _
          unfold normalF
          rw [if_neg (by rw [sl_len]; omega), if_neg (by rw [HC.out, h47]; simp)]
          rfl
        have hhd : Hid (∃ r, sl s = 47 :: r) := ⟨_, by rw [HC.out, h47]⟩
        clear h47 HC
        have hA : Acc (w.alloc (.cells #[.slice none 0 0] 67)) w.heap.size w.heap.size [] := ⟨Nat.le_refl _, by simp, _, Blk.new w _ _, Owns.nil .., by simp [Value.ownBlock]⟩
        have HE := Lib.hid (eachN_any s w.heap.size w.heap.size _ hA (by omega))
        clear hA
        go_enter Tryd.func26, Tryd.ntmps26
        go_wp2_with fail
        refine HE.out.mono ?_
        rintro e w1 ⟨hans, b1⟩
        have bb : Below w.heap.size w w1 := ((Below.refl _ _).alloc (Nat.le_refl _) _).trans b1
        clear HE b1
        have hcase : ∃ g0 : Bool, e = .returned (.bool g0) ∧ ((g0 = false ∧ normL (sl s) = none) ∨ (g0 = true ∧ ∃ b, normL (sl s) = some b ∧ Acc w1 w.heap.size w.heap.size b)) := by
          unfold EachNAns at hans
          cases hn : normL (sl s) with
          | none => rw [hn] at hans; exact ⟨false, hans.1, .inl ⟨rfl, rfl⟩⟩
          | some b => rw [hn] at hans; exact ⟨true, hans.1, .inr ⟨rfl, b, rfl, hans.2⟩⟩
        obtain ⟨g0, rfl, hg0⟩ := hcase
        have HG0 := Lib.hid hg0
        clear hans hg0
        go_wp2_with fail
        go_loopw [5, 25] (fun g i wr => ∃ k : Nat, k ≤ s.size ∧ i = .int .i64 k ∧ g = .bool (g0 && ((sl s).take k).all goodB) ∧ wr = w1) (fun _ i _ => s.size - (intOf i).toNat)
        case atStart => exact ⟨0, by omega, rfl, by simp, rfl⟩
        case round =>
          obtain ⟨k, hk, rfl, rfl, rfl⟩ := hrel
          by_cases hlt : k < s.size
          · have HS : Hid ((g0 && ((sl s).take (k + 1)).all goodB) = ((g0 && ((sl s).take k).all goodB) && goodB s[k])) := by
              show _ = _
              rw [List.take_add_one, sl_getElem? s k hlt, List.all_append]; simp [Bool.and_assoc]
            have HD := Lib.hid (good_iff s[k])
            generalize hgk : (g0 && ((sl s).take k).all goodB) = gk at *
            clear hgk
            have hu := s[k].toNat_lt
            generalize goodB s[k] = gb at *
            generalize hb0 : s[k].toNat = bt at *
            cases gk
            · go_wp2_with fail
              go_roundw
              case rel => exact ⟨k + 1, by omega, by go_num, by rw [HS.out]; rfl, (by trivial)⟩
              case measure => simp [intOf]; omega
            · by_cases hc1 : 33 ≤ (bt : Int)
              · by_cases hc2 : (bt : Int) ≤ 126
                · cases hc3 : ((bt : Int) == 35)
                  · have hc3' : ((bt : Int) != 35) = true := by rw [bne, hc3]; rfl
                    have HD2 : Hid (gb = true) := by show _ = _; rw [HD.out, decide_eq_true hc1, decide_eq_true hc2, hc3]; rfl
                    clear hc3
                    go_wp2_with fail
                    go_roundw
                    case rel => exact ⟨k + 1, by omega, by go_num, by rw [HS.out, HD2.out]; rfl, (by trivial)⟩
                    case measure => simp [intOf]; omega
                  · have hc3' : ((bt : Int) != 35) = false := by rw [bne, hc3]; rfl
                    have HD2 : Hid (gb = false) := by show _ = _; rw [HD.out, hc3]; simp
                    clear hc3
                    go_wp2_with fail
                    go_roundw
                    case rel => exact ⟨k + 1, by omega, by go_num, by rw [HS.out, HD2.out]; rfl, (by trivial)⟩
                    case measure => simp [intOf]; omega
                · have HD2 : Hid (gb = false) := by show _ = _; rw [HD.out, decide_eq_false hc2]; simp
                  go_wp2_with fail
                  go_roundw
                  case rel => exact ⟨k + 1, by omega, by go_num, by rw [HS.out, HD2.out]; rfl, (by trivial)⟩
                  case measure => simp [intOf]; omega
              · have HD2 : Hid (gb = false) := by show _ = _; rw [HD.out, decide_eq_false hc1]; simp
                go_wp2_with fail
                go_roundw
                case rel => exact ⟨k + 1, by omega, by go_num, by rw [HS.out, HD2.out]; rfl, (by trivial)⟩
                case measure => simp [intOf]; omega
          · obtain rfl : k = s.size := by omega
            have hE : (sl s).take s.size = sl s := List.take_of_length_le (by rw [sl_len]; exact Nat.le_refl _)
            rw [hE]
            clear hE
            rcases HG0.out with ⟨rfl, hn⟩ | ⟨rfl, b, hn, hacc⟩
            · have HF2 : Hid (normalF (sl s) = .error 3) := by show _ = _; rw [HF.out, hn]
              clear HF hn HG0
              go_wp2_with fail
              go_ret2
              exact ⟨ans_err HF2.out rfl, bb⟩
            · rw [Bool.true_and]
              cases hga : (sl s).all goodB
              · have HF2 : Hid (normalF (sl s) = .error 3) := by show _ = _; rw [HF.out, hn]; dsimp only; rw [hga, if_neg (by simp)]
                clear HF hn HG0 hga hacc
                go_wp2_with fail
                go_ret2
                exact ⟨ans_err HF2.out rfl, bb⟩
              · have HF2 : Hid (normalF (sl s) = .ok (dotsP (cutQ b).1 ++ (cutQ b).2)) := by show _ = _; rw [HF.out, hn]; dsimp only; rw [hga, if_pos rfl]
                have hbl : b.length ≤ 200 := by have := norm_len hn; rw [sl_len] at this; omega
                have hb47 : Hid (∃ rb, b = 47 :: rb) := by
                  obtain ⟨r, hr⟩ := hhd.out
                  rw [hr] at hn
                  obtain ⟨a, z, ha, hz, he⟩ := norm_at (x := []) s47.1 s47.2.1 hn
                  injection ha with ha
                  exact ⟨z, by rw [he, ← ha]; rfl⟩
                obtain ⟨-, -, v, hk2, ho, -⟩ := hacc
                clear HF hn HG0 hga hhd
                have c0 := hk2.cell 0
                simp only [List.getElem?_toArray, List.getElem?_cons_zero] at c0
                have hrs := run_string_own (dst := 9) Tryd.underlying67 Tryd.underlying5 Tryd.underlying9 (by rw [← eb_map]; exact ho)
                obtain ⟨A2, c2, hv⟩ := ho.slice
                subst hv
                clear hk2 ho
                have hbz : (mkS b).size ≤ 200 := by rw [mkS_size]; exact hbl
                have HCut := Lib.hid (fun w => cut_one (mkS b) 63 w (by omega))
                unfold CutOne at HCut
                rw [sl_mkS] at HCut
                go_wp2_with fail
                refine (HCut.out _).mono ?_
                rintro e w2 ⟨hcut, b2⟩
                have B2 := belT bb b2
                clear HCut
                rcases hcut with ⟨p, q, hpq, hp63, rfl⟩ | ⟨hno, rfl⟩
                · obtain ⟨pr, hpr⟩ : ∃ pr, p = 47 :: pr := by
                    obtain ⟨rb, hrb⟩ := hb47.out
                    cases p with
                    | nil => rw [List.nil_append, hrb] at hpq; injection hpq with h1 _; exact absurd h1 (by decide)
                    | cons x pr => rw [List.cons_append, hrb] at hpq; injection hpq with h1 _; exact ⟨pr, by rw [← h1]⟩
                  have HR : Hid (normalF (sl s) = .ok (dotsP p ++ 63 :: q)) := by
                    show _ = _
                    rw [HF2.out]; unfold cutQ; rw [cutC_some hpq hp63]
                  have hlen := congrArg List.length hpq
                  simp only [List.length_append, List.length_cons] at hlen
                  have HDo := Lib.hid (fun w' hb => dots_any (mkS p) pr w' (by rw [sl_mkS, hpr]) (by rw [mkS_size]; omega) (HM.out w' hb))
                  rw [sl_mkS] at HDo
                  have hdz : (mkS (dotsP p)).size ≤ 200 := by
                    rw [mkS_size]
                    have h1 := dots_tot List.length rfl (sg 47 [] pr) []
                    rw [seg_tot] at h1
                    have h4 : tot List.length [] = 0 := rfl
                    rcases dots_ne (sg 47 [] pr) [] (.inl (sg_ne 47 pr [])) with h | h
                    · exact absurd h (sg_ne 47 pr [])
                    · have h3 := join_tot 47 _ h
                      unfold dotsP
                      rw [hpr]
                      show (47 :: Lib.join (dotsF [] (sg 47 [] pr)) [47]).length ≤ 200
                      rw [hpr] at hlen
                      simp only [List.length_cons] at hlen ⊢; omega
                  have hqz : (mkS q).size ≤ 200 := by rw [mkS_size]; omega
                  have hq1 : (⟨#[63]⟩ : ByteArray) ++ mkS q = mkS (63 :: q) := by apply sl_inj; rw [sl_append, sl_mkS, sl_mkS]; rfl
                  have hq2 : (mkS (63 :: q)).size ≤ 201 := by rw [mkS_size, List.length_cons]; rw [mkS_size] at hqz; omega
                  have hq3 : mkS (dotsP p) ++ mkS (63 :: q) = mkS (dotsP p ++ 63 :: q) := by apply sl_inj; rw [sl_append, sl_mkS, sl_mkS, sl_mkS]
                  clear HF2 hpq hp63 hpr hlen hb47
                  have HZ := Lib.hid hq3
                  clear hq3
                  generalize mkS (dotsP p) = DD at *
                  generalize mkS (63 :: q) = QQ at *
                  generalize mkS q = Q0 at *
                  generalize mkS p = P0 at *
                  generalize mkS b = B0 at *
                  go_wp2_with fail
                  refine (HDo.out _ B2).mono ?_
                  rintro e w3 ⟨rfl, b3⟩
                  have B3 := belT B2 b3
                  go_wp2_with fail
                  go_ret2
                  exact ⟨ans_ok HR.out (by rw [← HZ.out]; rfl), B3⟩
                · have HR : Hid (normalF (sl s) = .ok (dotsP b ++ [])) := by
                    show _ = _
                    rw [HF2.out]; unfold cutQ; rw [cutC_none hno]
                  rw [List.append_nil] at HR
                  obtain ⟨pr, hpr⟩ := hb47.out
                  have HDo := Lib.hid (fun w' hb => dots_any (mkS b) pr w' (by rw [sl_mkS, hpr]) (by rw [mkS_size]; omega) (HM.out w' hb))
                  rw [sl_mkS] at HDo
                  have hdz : (mkS (dotsP b)).size ≤ 200 := by
                    rw [mkS_size]
                    have h1 := dots_tot List.length rfl (sg 47 [] pr) []
                    rw [seg_tot] at h1
                    have h4 : tot List.length [] = 0 := rfl
                    rcases dots_ne (sg 47 [] pr) [] (.inl (sg_ne 47 pr [])) with h | h
                    · exact absurd h (sg_ne 47 pr [])
                    · have h3 := join_tot 47 _ h
                      unfold dotsP
                      rw [hpr]
                      show (47 :: Lib.join (dotsF [] (sg 47 [] pr)) [47]).length ≤ 200
                      rw [hpr] at hbl
                      simp only [List.length_cons] at hbl ⊢; omega
                  clear HF2 hno hpr hb47
                  generalize hDD : mkS (dotsP b) = DD at *
                  have HDD := Lib.hid hDD
                  clear hDD
                  generalize mkS b = B0 at *
                  go_wp2_with fail
                  refine (HDo.out _ B2).mono ?_
                  rintro e w3 ⟨rfl, b3⟩
                  have B3 := belT B2 b3
                  go_wp2_with fail
                  go_ret2
                  exact ⟨ans_ok HR.out (by rw [HDD.out]; first | rfl | simp), B3⟩
      · have hne : ((s[0].toNat : Int) != 47) = true := by
          rw [bne_iff_ne]; intro e; apply h47; apply UInt8.toNat_inj.1
          have : (47 : UInt8).toNat = 47 := rfl
          omega
        have HF : Hid (normalF (sl s) = .error 3) := by
          show _ = _
          unfold normalF
          rw [if_neg (by rw [sl_len]; omega), if_pos (by rw [HC.out]; simp; exact h47)]
        clear h47 HC
        go_enter Tryd.func26, Tryd.ntmps26
        go_wp2_with fail
        go_ret2
        exact ⟨ans_err HF.out rfl, Below.refl _ _⟩
end Go.Proofs.YthocoplaehbncaaDoor
