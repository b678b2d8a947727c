/- TargetOnce, TargetDots: the laws' walks. -/
import Derived.Test.YthocoplaehbncaaDoorTargetE
namespace Go.Proofs.YthocoplaehbncaaDoor
set_option maxRecDepth 20000
open Go.RowKit
open Tar
def HasMax (w : World) : Prop := (∃ m, w.cell? ⟨1, 0, none⟩ = some (.int .i64 m)) ∧ 1 < w.heap.size
theorem HasMax.below {w w' : World} (h : HasMax w) (hb : Below w.heap.size w w') : HasMax w' :=
  ⟨h.1.elim fun m hm => ⟨m, (hb.cell h.2).trans hm⟩, Nat.lt_of_lt_of_le h.2 hb.size⟩
namespace Tar
theorem norm_empty : normalF (sl ByteArray.empty) = .error 3 := by rfl
theorem nf_len {l t : List UInt8} (h : normalF l = .ok t) : l.length ≤ 200 ∧ t.length ≤ 200 := by
  obtain ⟨b, pr, q, h2, -⟩ := nf_of h
  have := (once h).2.2
  omega
theorem pre_slash {t : List UInt8} (h : t.head? = some 47) : Lib.hasPrefix t [47] = true := by
  cases t with
  | nil => cases h
  | cons x t =>
    simp only [List.head?_cons, Option.some.injEq] at h
    subst h
    unfold Lib.hasPrefix; simp [List.isPrefixOf]
/-- What Cut answers, by cutC. -/
theorem cutOne_some {s : ByteArray} {c : UInt8} {e : Ending} {a b : List UInt8} (h : CutOne s c e) (hc : cutC c (sl s) = some (a, b)) : e = .returned (.tuple #[.string (mkS a), .string (mkS b), .bool true]) := by
  rcases h with ⟨a', b', h1, h2, rfl⟩ | ⟨h1, rfl⟩
  · rw [cutC_some h1 h2] at hc
    injection hc with hc; injection hc with h3 h4; rw [h3, h4]
  · rw [cutC_none h1] at hc; cases hc
theorem cutOne_none {s : ByteArray} {c : UInt8} {e : Ending} (h : CutOne s c e) (hc : cutC c (sl s) = none) : e = .returned (.tuple #[.string s, .string ByteArray.empty, .bool false]) := by
  rcases h with ⟨a', b', h1, h2, rfl⟩ | ⟨h1, rfl⟩
  · rw [cutC_some h1 h2] at hc; cases hc
  · rfl
end Tar
set_option maxHeartbeats 1600000 in
theorem targetOnce_walk (s : ByteArray) (w : World) (hs : s.size ≤ 140737488351232) (hx : HasMax w) :
    Calls Tryd.prog 9 #[.string s] w fun e w' => e = .returned (.bool true) ∧ Below w.heap.size w w' := by
  have HN := Lib.hid (normal_any s w (by omega) hx.1 hx.2)
  have HE := Lib.hid (fun w' (hb : Below w.heap.size w w') => normal_any ByteArray.empty w' (by decide) (hx.below hb).1 (hx.below hb).2)
  have HT := Lib.hid (fun t w' (hb : Below w.heap.size w w') (ht : t.size ≤ 140737488351232) => normal_any t w' (by omega) (hx.below hb).1 (hx.below hb).2)
  have HP := Lib.hid (fun t w => Tryd.strings_HasPrefix t ⟨#[47]⟩ w)
  unfold NormAns at HN HE
  rw [norm_empty] at HE
  dsimp only at HE
  clear hx
  cases hn : normalF (sl s) with
  | error c =>
    rw [hn] at HN
    have hc := normalF_code hn
    have hne : (c != 0) = true := by rcases hc with rfl | rfl <;> rfl
    clear hn hc HT HP
    go_enter Tryd.func9, Tryd.ntmps9
    go_wp2_with fail
    refine HN.out.mono ?_
    rintro e w1 ⟨rfl, b1⟩
    go_wp2_with fail
    refine (HE.out _ b1).mono ?_
    rintro e w2 ⟨rfl, b2⟩
    have B2 := belT b1 b2
    go_wp2_with fail
    go_ret
    exact ⟨rfl, B2⟩
  | ok t =>
    rw [hn] at HN
    dsimp only at HN
    obtain ⟨h1, h2, h3⟩ := once hn
    have ht := (nf_len hn).2
    have HT2 := Lib.hid (fun w' hb => HT.out (mkS t) w' hb (by rw [mkS_size]; omega))
    unfold NormAns at HT2
    rw [sl_mkS, h1] at HT2
    dsimp only at HT2
    have HP2 := Lib.hid (fun w => HP.out (mkS t) w)
    rw [show (mkS t).data.toList = t from sl_mkS t, show (⟨#[47]⟩ : ByteArray).data.toList = [47] from rfl, pre_slash h2] at HP2
    have hz : (mkS t).size ≤ s.size := by rw [mkS_size]; rw [sl_len] at h3; exact h3
    clear hn h1 h2 h3 HT HP
    generalize mkS t = T at *
    go_enter Tryd.func9, Tryd.ntmps9
    go_wp2_with fail
    refine HN.out.mono ?_
    rintro e w1 ⟨rfl, b1⟩
    go_wp2_with fail
    refine (HE.out _ b1).mono ?_
    rintro e w2 ⟨rfl, b2⟩
    have B2 := belT b1 b2
    go_wp2_with fail
    refine (HT2.out _ B2).mono ?_
    rintro e w3 ⟨rfl, b3⟩
    have B3 := belT B2 b3
    go_wp2_with fail
    refine (HP2.out _).mono ?_
    rintro e w' ⟨rfl, rfl⟩
    have hd : decide ((T.size : Int) ≤ (s.size : Int)) = true := by rw [decide_eq_true_iff]; omega
    go_wp2_with fail
    go_ret
    exact ⟨rfl, B3⟩
set_option maxHeartbeats 800000 in
theorem path_any (t : ByteArray) (w : World) (hs : t.size ≤ 140737488351232) :
    Calls Tryd.prog 29 #[.string t] w fun e w' => e = .returned (.string (mkS (cutQ (sl t)).1)) ∧ Below w.heap.size w w' := by
  have HC := Lib.hid (cut_one t 63 w hs)
  go_enter Tryd.func29, Tryd.ntmps29
  go_wp2_with fail
  refine HC.out.mono ?_
  rintro e w1 ⟨hc, b1⟩
  cases hcc : cutC 63 (sl t) with
  | none =>
    obtain rfl := cutOne_none hc hcc
    have HQ : Hid (mkS (cutQ (sl t)).1 = t) := by show _ = _; unfold cutQ; rw [hcc]; exact mkS_sl t
    clear hc hcc
    go_wp2_with fail
    go_ret
    exact ⟨ret_str HQ.out.symm, b1⟩
  | some p =>
    obtain ⟨a, b⟩ := p
    obtain rfl := cutOne_some hc hcc
    have HQ : Hid (mkS (cutQ (sl t)).1 = mkS a) := by show _ = _; unfold cutQ; rw [hcc]
    clear hc hcc
    go_wp2_with fail
    go_ret
    exact ⟨ret_str HQ.out.symm, b1⟩
set_option maxHeartbeats 3200000 in
theorem targetDots_walk (s : ByteArray) (w : World) (hs : s.size ≤ 140737488351232) (hx : HasMax w) :
    Calls Tryd.prog 10 #[.string s] w fun e w' => e = .returned (.bool true) ∧ Below w.heap.size w w' := by
  have HN := Lib.hid (normal_any s w (by omega) hx.1 hx.2)
  have HE := Lib.hid (fun w' (hb : Below w.heap.size w w') => normal_any ByteArray.empty w' (by decide) (hx.below hb).1 (hx.below hb).2)
  have HX := Lib.hid (fun w' (hb : Below w.heap.size w w') => (hx.below hb).1)
  unfold NormAns at HN HE
  rw [norm_empty] at HE
  dsimp only at HE
  clear hx
  cases hn : normalF (sl s) with
  | error c =>
    rw [hn] at HN
    have hc := normalF_code hn
    have hne : (c != 0) = true := by rcases hc with rfl | rfl <;> rfl
    clear hn hc HX
    go_enter Tryd.func10, Tryd.ntmps10
    go_wp2_with fail
    refine HN.out.mono ?_
    rintro e w1 ⟨rfl, b1⟩
    go_wp2_with fail
    refine (HE.out _ b1).mono ?_
    rintro e w2 ⟨rfl, b2⟩
    have B2 := belT b1 b2
    go_wp2_with fail
    go_ret
    exact ⟨rfl, B2⟩
  | ok t =>
    rw [hn] at HN
    dsimp only at HN
    obtain ⟨hdot, ⟨ua, ub, hua, hub, hle⟩, hq⟩ := dots_law hn
    obtain ⟨hl1, hl2⟩ := nf_len hn
    have hpz : (cutQ t).1.length ≤ t.length := by
      unfold cutQ
      cases hc : cutC 63 t with
      | none => exact Nat.le_refl _
      | some p => obtain ⟨a, b⟩ := p; have := congrArg List.length (cutC_text hc).1; simp only [List.length_append, List.length_cons] at this ⊢; omega
    have HPa := Lib.hid (fun w => path_any (mkS t) w (by rw [mkS_size]; omega))
    rw [sl_mkS] at HPa
    have HSp := Lib.hid (fun w' hb => split1_any (mkS (cutQ t).1) 47 w' (by rw [mkS_size]; omega) (HX.out w' hb))
    rw [sl_mkS] at HSp
    have HU1 := Lib.hid (fun w => unescape_any s w (by rw [sl_len] at hl1; exact hl1))
    have HU2 := Lib.hid (fun w => unescape_any (mkS t) w (by rw [mkS_size]; exact hl2))
    unfold UnescAns at HU1 HU2
    rw [hua] at HU1
    rw [sl_mkS, hub] at HU2
    dsimp only at HU1 HU2
    have HC1 := Lib.hid (fun w => cut_one s 63 w hs)
    have HC2 := Lib.hid (fun w => cut_one (mkS t) 63 w (by rw [mkS_size]; omega))
    have Hq : Hid (∃ (X Y Z : ByteArray) (P1 P2 : ByteArray) (is : Bool), X.size ≤ 200 ∧ Y.size ≤ 200 ∧ (∀ e, CutOne s 63 e → e = .returned (.tuple #[.string P1, .string X, .bool is])) ∧ (∀ e, CutOne (mkS t) 63 e → e = .returned (.tuple #[.string P2, .string Y, .bool is])) ∧ (∀ e, UnescAns (sl X) e → e = .returned (.tuple #[.string Z, .int .i64 0])) ∧ (∀ e, UnescAns (sl Y) e → e = .returned (.tuple #[.string Z, .int .i64 0]))) := by
      rcases hq with ⟨h1, h2⟩ | ⟨lp, lx, tp, y, u, h1, h2, h3, h4⟩
      · refine ⟨ByteArray.empty, ByteArray.empty, mkS [], s, mkS t, false, by decide, by decide, fun e h => cutOne_none h h1, fun e h => cutOne_none h (by rw [sl_mkS]; exact h2), fun e h => ?_, fun e h => ?_⟩
        · rw [sl_empty] at h; exact h
        · rw [sl_empty] at h; exact h
      · have e1 := congrArg List.length (cutC_text h1).1
        have e2 := congrArg List.length (cutC_text h2).1
        simp only [List.length_append, List.length_cons] at e1 e2
        refine ⟨mkS lx, mkS y, mkS u, mkS lp, mkS tp, true, by rw [mkS_size]; omega, by rw [mkS_size]; omega, fun e h => cutOne_some h h1, fun e h => cutOne_some h (by rw [sl_mkS]; exact h2), fun e h => ?_, fun e h => ?_⟩
        · rw [sl_mkS] at h; unfold UnescAns at h; rw [h3] at h; exact h
        · rw [sl_mkS] at h; unfold UnescAns at h; rw [h4] at h; exact h
    obtain ⟨X, Y, Z, P1, P2, is, hX, hY, q1, q2, q3, q4⟩ := Hq.out
    have Q1 := Lib.hid q1
    have Q2 := Lib.hid q2
    have Q3 := Lib.hid q3
    have Q4 := Lib.hid q4
    have HUX := Lib.hid (fun w => unescape_any X w hX)
    have HUY := Lib.hid (fun w => unescape_any Y w hY)
    have HDot := Lib.hid hdot
    have hub2 : (mkS ub).size ≤ (mkS ua).size := by rw [mkS_size, mkS_size]; exact hle
    have hns := (Tar.sg_sum (cutQ t).1 []).1
    have hlm : ((sg 47 [] (cutQ t).1).map mkS).length = (sg 47 [] (cutQ t).1).length := List.length_map ..
    have hn300 : (sg 47 [] (cutQ t).1).length ≤ 300 := by omega
    clear hn hua hub hle hq hl1 hl2 hpz q1 q2 q3 q4 Hq HX hdot hns
    generalize mkS (cutQ t).1 = PT at *
    generalize sg 47 [] (cutQ t).1 = st at *
    generalize mkS t = T at *
    generalize mkS ua = UA at *
    generalize mkS ub = UB at *
    go_enter Tryd.func10, Tryd.ntmps10
    go_wp2_with fail
    refine HN.out.mono ?_
    rintro e w1 ⟨rfl, b1⟩
    go_wp2_with fail
    refine (HE.out _ b1).mono ?_
    rintro e w2 ⟨rfl, b2⟩
    have B2 := belT b1 b2
    go_wp2_with fail
    refine (HPa.out _).mono ?_
    rintro e w3 ⟨rfl, b3⟩
    have B3 := belT B2 b3
    go_wp2_with fail
    refine (HSp.out _ B3).mono ?_
    rintro e w4 ⟨⟨v, rfl, hsl⟩, b4⟩
    have B4 := belT B3 b4
    have HSl := Lib.hid hsl
    obtain ⟨A, cp, rfl, -⟩ := hsl.form
    clear hsl HN HE HPa HSp b1 b2 b3 b4 B2 B3
    rw [hlm]
    go_wp2_with fail
    have H2 := Lib.hid (fun hn => HSl.out.texts hn)
    go_loopw [38] (fun i wr => ∃ k : Nat, k ≤ st.length ∧ i = .int .i64 k ∧ wr = w4) (fun i _ => st.length - (intOf i).toNat)
    case atStart => exact ⟨0, by omega, rfl, rfl⟩
    case round =>
      obtain ⟨k, hk, rfl, rfl⟩ := hrel
      by_cases hlt : k < st.length
      · obtain ⟨b, off, c', he, _, hbb, hcell⟩ := H2.out (by omega)
        obtain ⟨rfl, rfl⟩ : A = some ⟨b, off, none⟩ ∧ cp = c' := by injection he with h1 h2 h3; exact ⟨h1, h3⟩
        have c0 := hcell k (by omega)
        simp only [List.getElem_map] at c0
        obtain ⟨hd2, hd1⟩ := HDot.out _ (List.getElem_mem hlt)
        have e2 : ((mkS st[k]).toList == [46, 46]) = false := by rw [ba_toList, sl_mkS, beq_eq_false_iff_ne]; exact hd2
        have e1 : ((mkS st[k]).toList == [46]) = false := by rw [ba_toList, sl_mkS, beq_eq_false_iff_ne]; exact hd1
        clear hcell he hd1 hd2
        generalize mkS st[k] = S at *
        go_wp2_with fail
        go_roundw
        case rel => exact ⟨k + 1, by omega, by go_num, (by trivial)⟩
        case measure => simp [intOf]; omega
      · obtain rfl : k = st.length := by omega
        go_wp2_with fail
        refine (HU1.out _).mono ?_
        rintro e w5 ⟨rfl, b5⟩
        have B5 := belT B4 b5
        go_wp2_with fail
        refine (HU2.out _).mono ?_
        rintro e w6 ⟨rfl, b6⟩
        have B6 := belT B5 b6
        go_wp2_with fail
        refine (HC1.out _).mono ?_
        rintro e w7 ⟨hc, b7⟩
        obtain rfl := Q1.out e hc
        have B7 := belT B6 b7
        clear hc
        go_wp2_with fail
        refine (HC2.out _).mono ?_
        rintro e w8 ⟨hc, b8⟩
        obtain rfl := Q2.out e hc
        have B8 := belT B7 b8
        clear hc
        go_wp2_with fail
        refine (HUX.out _).mono ?_
        rintro e w9 ⟨hc, b9⟩
        obtain rfl := Q3.out e hc
        have B9 := belT B8 b9
        clear hc
        go_wp2_with fail
        refine (HUY.out _).mono ?_
        rintro e w10 ⟨hc, b10⟩
        obtain rfl := Q4.out e hc
        have B10 := belT B9 b10
        clear hc
        have hd : decide ((UB.size : Int) ≤ (UA.size : Int)) = true := by rw [decide_eq_true_iff]; omega
        cases is
        all_goals
          go_wp2_with fail
          go_ret
          exact ⟨rfl, B10⟩
end Go.Proofs.YthocoplaehbncaaDoor
