/- VarySame, VaryMore: the laws' walks. -/
import Derived.Test.YthocoplaehbncaaVaryC
import Derived.Test.YthocoplaehbncaaHasStr
namespace Go.Proofs.Ythocoplaehbncaa
set_option maxRecDepth 20000
open Go.RowKit
namespace Vy
theorem wt_up {l : List Fld} (h : (l.map (fun d => d.1.size + d.2.size + 2)).sum ≤ 1048576) : wt l ≤ 4398046511104 := Nat.le_trans h (by decide)
theorem nil_ok (w : World) : LOk w (.slice none 0 0) [] := ⟨SlR.nil w e_ss, by decide⟩
theorem mat_nil : matF (txt [] nVary) [] [] = (true, 0) := mat_empty [] []
end Vy
open Vy
set_option maxHeartbeats 3200000 in
theorem varySame_walk (v0 : Value) (l : List Fld) (v1 : Value) (a : List Fld) (v2 : Value) (b : List Fld) (w : World) (h0 : SlR w e_ss v0 l) (s0 : (l.map (fun d => d.1.size + d.2.size + 2)).sum ≤ 1048576) (h1 : SlR w e_ss v1 a) (s1 : (a.map (fun d => d.1.size + d.2.size + 2)).sum ≤ 1048576) (h2 : SlR w e_ss v2 b) (s2 : (b.map (fun d => d.1.size + d.2.size + 2)).sum ≤ 1048576) :
    Calls Try.prog 3 #[v0, v1, v2] w fun e w' => e = .returned (.bool true) ∧ Below w.heap.size w w' := by
  have hL0 : LOk w v0 l := ⟨h0, wt_up s0⟩
  have hL1 : LOk w v1 a := ⟨h1, wt_up s1⟩
  have hL2 : LOk w v2 b := ⟨h2, wt_up s2⟩
  have HN := Lib.hid (names_all v0 l w hL0)
  have HX := Lib.hid (fun w' (hb : Below w.heap.size w w') => match_any v0 v1 v1 l a a w' (hL0.below hb) (hL1.below hb) (hL1.below hb))
  have HY := Lib.hid (fun w' (hb : Below w.heap.size w w') => match_any v0 v1 v2 l a b w' (hL0.below hb) (hL1.below hb) (hL2.below hb))
  have HZ := Lib.hid (fun w' (hb : Below w.heap.size w w') => match_any v0 v2 v1 l b a w' (hL0.below hb) (hL2.below hb) (hL1.below hb))
  have HE := Lib.hid (fun w' => match_any (.slice none 0 0) (.slice none 0 0) (.slice none 0 0) [] [] [] w' (nil_ok _) (nil_ok _) (nil_ok _))
  rw [mat_nil] at HE
  rw [matF_comm _ b a] at HZ
  have hxa : matF (txt l nVary) a a = if (nmF (txt l nVary)).2.2 = 0 then (!(nmF (txt l nVary)).2.1, 0) else (false, (nmF (txt l nVary)).2.2) := by
    unfold matF; rw [any_diff_self, Bool.or_false]
  have hxy : ∃ y : Bool, matF (txt l nVary) a b = (if (nmF (txt l nVary)).2.2 = 0 then (y && !(nmF (txt l nVary)).2.1, 0) else (false, (nmF (txt l nVary)).2.2)) := by
    refine ⟨!((nmF (txt l nVary)).1.any (diff a b)), ?_⟩
    unfold matF
    congr 1
    cases (nmF (txt l nVary)).2.1 <;> simp
  obtain ⟨y, hy⟩ := hxy
  rw [hxa] at HX
  rw [hy] at HY HZ
  clear hxa hy hL0 hL1 hL2 h0 h1 h2 s0 s1 s2
  generalize nmF (txt l nVary) = R at *
  obtain ⟨L, st, c⟩ := R
  dsimp only at *
  by_cases hc : c = 0
  · subst hc
    simp only [if_true] at HX HY HZ
    go_enter Try.func3, Try.ntmps3
    go_wp2_with fail
    refine HN.out.mono ?_
    rintro e w1 ⟨⟨v, xs, rfl, hsl, -, -, -⟩, b1⟩
    obtain ⟨A, cp, rfl, -⟩ := hsl.form
    clear hsl
    go_wp2_with fail
    refine (HX.out _ b1).mono ?_
    rintro e w2 ⟨rfl, b2⟩
    have B2 := belT b1 b2
    go_wp2_with fail
    refine (HY.out _ B2).mono ?_
    rintro e w3 ⟨rfl, b3⟩
    have B3 := belT B2 b3
    go_wp2_with fail
    refine (HZ.out _ B3).mono ?_
    rintro e w4 ⟨rfl, b4⟩
    have B4 := belT B3 b4
    go_wp2_with fail
    refine (HE.out _).mono ?_
    rintro e w5 ⟨rfl, b5⟩
    have B5 := belT B4 b5
    clear HX HY HZ HE HN b1 b2 b3 b4 b5 B2 B3 B4
    cases st <;> cases y
    all_goals
      go_wp2_with fail
      go_ret
      exact ⟨rfl, B5⟩
  · simp only [if_neg hc] at HX HY HZ
    have hne : (c != 0) = true := by simpa using hc
    have hcc : (c == c) = true := by simp
    go_enter Try.func3, Try.ntmps3
    go_wp2_with fail
    refine HN.out.mono ?_
    rintro e w1 ⟨⟨v, xs, rfl, hsl, -, -, -⟩, b1⟩
    obtain ⟨A, cp, rfl, -⟩ := hsl.form
    clear hsl
    go_wp2_with fail
    refine (HX.out _ b1).mono ?_
    rintro e w2 ⟨rfl, b2⟩
    have B2 := belT b1 b2
    go_wp2_with fail
    refine (HY.out _ B2).mono ?_
    rintro e w3 ⟨rfl, b3⟩
    have B3 := belT B2 b3
    go_wp2_with fail
    refine (HZ.out _ B3).mono ?_
    rintro e w4 ⟨rfl, b4⟩
    have B4 := belT B3 b4
    go_wp2_with fail
    refine (HE.out _).mono ?_
    rintro e w5 ⟨rfl, b5⟩
    have B5 := belT B4 b5
    clear HX HY HZ HE HN b1 b2 b3 b4 b5 B2 B3 B4
    go_wp2_with fail
    go_ret
    exact ⟨rfl, B5⟩
namespace Vy
theorem wt_set (l : List Fld) (n X : ByteArray) : wt (setF l n X) ≤ wt l + n.size + X.size + 2 := by
  unfold wt
  rcases setF_shape l n with ⟨-, h⟩ | ⟨k, hk, -, -, h⟩
  · rw [h X, List.map_append, List.sum_append]; simp; omega
  · rw [h X, List.map_append, List.map_append, List.sum_append, List.sum_append]
    have h1 : ((dropF (l.drop (k + 1)) n).map (fun f => f.1.size + f.2.size + 2)).sum ≤ ((l.drop (k + 1)).map (fun f => f.1.size + f.2.size + 2)).sum := by
      unfold dropF keepN
      generalize l.drop (k + 1) = m
      induction m with
      | nil => simp
      | cons x m ih =>
        rw [List.filter_cons]
        split <;> simp only [List.map_cons, List.sum_cons] <;> omega
    have h2 : (l.map (fun f => f.1.size + f.2.size + 2)).sum = ((l.take k).map (fun f => f.1.size + f.2.size + 2)).sum + ((l.drop k).map (fun f => f.1.size + f.2.size + 2)).sum := by
      rw [← List.sum_append, ← List.map_append, List.take_append_drop]
    rw [List.drop_eq_getElem_cons hk, List.map_cons, List.sum_cons] at h2
    simp only [List.map_cons, List.map_nil, List.sum_cons, List.sum_nil]
    omega
theorem cat_size {T n : ByteArray} (hT : T.size ≤ 1048576) (hn : n.size ≤ 1048576) : (T ++ ⟨#[44]⟩).size ≤ 2097160 ∧ (T ++ ⟨#[44]⟩ ++ n).size ≤ 2097160 := by
  have e : (⟨#[44]⟩ : ByteArray).size = 1 := rfl
  exact ⟨by rw [ByteArray.size_append, e]; omega, by rw [ByteArray.size_append, ByteArray.size_append, e]; omega⟩
theorem isStar_decide (p : ByteArray) : isStar p = (p.toList == [42]) := rfl
end Vy
set_option maxHeartbeats 6400000 in
theorem varyMore_walk (v0 : Value) (l : List Fld) (v1 : Value) (a : List Fld) (v2 : Value) (b : List Fld) (n val : ByteArray) (w : World) (h0 : SlR w e_ss v0 l) (s0 : (l.map (fun d => d.1.size + d.2.size + 2)).sum ≤ 1048576) (h1 : SlR w e_ss v1 a) (s1 : (a.map (fun d => d.1.size + d.2.size + 2)).sum ≤ 1048576) (h2 : SlR w e_ss v2 b) (s2 : (b.map (fun d => d.1.size + d.2.size + 2)).sum ≤ 1048576) (hn : n.size ≤ 1048576) (hval : val.size ≤ 1048576) :
    Calls Try.prog 4 #[v0, v1, v2, .string n, .string val] w fun e w' => e = .returned (.bool true) ∧ Below w.heap.size w w' := by
  have hL0 : LOk w v0 l := ⟨h0, wt_up s0⟩
  have hL1 : LOk w v1 a := ⟨h1, wt_up s1⟩
  have hL2 : LOk w v2 b := ⟨h2, wt_up s2⟩
  have HN := Lib.hid (names_all v0 l w hL0)
  have HE := Lib.hid (fun w' => match_any (.slice none 0 0) (.slice none 0 0) (.slice none 0 0) [] [] [] w' (nil_ok _) (nil_ok _) (nil_ok _))
  rw [mat_nil] at HE
  have HX := Lib.hid (fun w' (hb : Below w.heap.size w w') => match_any v0 v1 v2 l a b w' (hL0.below hb) (hL1.below hb) (hL2.below hb))
  have hwa : wt (setF a n val) ≤ 4398046511104 := by have := wt_set a n val; have : wt a ≤ 1048576 := s1; omega
  have HY := Lib.hid (fun v w' (hb : Below w.heap.size w w') (hv : SlR w' e_ss v (setF a n val)) => match_any v0 v v2 l (setF a n val) b w' (hL0.below hb) ⟨hv, hwa⟩ (hL2.below hb))
  have HT := Lib.hid (fun w => isToken_any n w (by omega))
  have HLo := Lib.hid (fun w => lower_any n w (by omega))
  have HSA := Lib.hid (fun w' (hb : Below w.heap.size w w') => set_any v1 a n val w' (hL1.below hb).sl (by have := wt_len a; have : wt a ≤ 1048576 := s1; omega) (hL1.below hb).lims (by omega))
  have HG := Lib.hid (fun w' (hb : Below w.heap.size w w') => getL_any v0 l nVary w' (hL0.below hb) (by decide))
  have hTs : (txt l nVary).size ≤ 1048576 := Nat.le_trans (txt_wt l nVary) s0
  have hwl : ∀ X : ByteArray, X.size ≤ 2097160 → wt (setF l nVary X) ≤ 4398046511104 := fun X hX => by have := wt_set l nVary X; have : wt l ≤ 1048576 := s0; have e : nVary.size = 4 := rfl; omega
  have HSV := Lib.hid (fun X w' (hb : Below w.heap.size w w') => set_any v0 l nVary X w' (hL0.below hb).sl (by have := wt_len l; have : wt l ≤ 1048576 := s0; omega) (hL0.below hb).lims (by decide))
  have hself : ∀ X : ByteArray, txt (setF l nVary X) nVary = X := fun X => by unfold Vy.txt; rw [selF_set_self, joinS_one]
  have HZ := Lib.hid (fun X (hX : X.size ≤ 2097160) v w' (hb : Below w.heap.size w w') (hv : SlR w' e_ss v (setF l nVary X)) => match_any v v1 v2 (setF l nVary X) a b w' ⟨hv, hwl X hX⟩ (hL1.below hb) (hL2.below hb))
  have HZ2 : Hid (∀ X : ByteArray, X.size ≤ 2097160 → ∀ v w', Below w.heap.size w w' → SlR w' e_ss v (setF l nVary X) → Calls Try.prog 7 #[v, v1, v2] w' fun e w2 => e = .returned (.tuple #[.bool (matF X a b).1, .int .i64 (matF X a b).2]) ∧ Below w'.heap.size w' w2) := fun X hX v w' hb hv => by
    have := HZ.out X hX v w' hb hv
    rw [hself X] at this; exact this
  have HCS := Lib.hid (cat_size hTs hn)
  have Hno : Hid (isR l nVary = false → txt l nVary = ByteArray.empty) := fun h => txt_no h
  clear HZ hself hwl hwa hL0 hL1 hL2 h0 h1 h2 s0 s1 s2
  have HMo : Hid (lowS n ∉ (nmF (txt l nVary)).1 → matF (txt l nVary) (setF a n val) b = matF (txt l nVary) a b) := fun h => mat_other h
  have HCo : Hid (∀ s a b, (matF s a b).2 = (nmF s).2.2) := mat_code
  generalize hTT : txt l nVary = T at *
  clear hTT
  generalize hq : isR l nVary = q at *
  clear hq
  have HMr : Hid (∀ t, (nmF T).2.2 = 0 → (∀ x ∈ (nmF T).1, x ∈ (nmF t).1) → ((nmF T).2.1 = true → (nmF t).2.1 = true) → (nmF t).2.2 = 0 → (matF t a b).1 = true → (matF T a b).1 = true) := fun t h0 hm hst ht h => mat_more h0 hm hst ht h
  have HA : Hid (Tok.isTok n = true → (nmF T).2.2 = 0 → (nmF (T ++ ⟨#[44]⟩ ++ n)).2.2 = 0 → (∀ x ∈ (nmF T).1, x ∈ (nmF (T ++ ⟨#[44]⟩ ++ n)).1) ∧ ((nmF T).2.1 = true → (nmF (T ++ ⟨#[44]⟩ ++ n)).2.1 = true)) := fun hn h0 h => nm_app hn h0 h
  go_enter Try.func4, Try.ntmps4
  go_wp2_with fail
  refine HN.out.mono ?_
  rintro e w1 ⟨⟨v, xs, rfl, hsl, -, hln, hmem⟩, b1⟩
  have HSl := Lib.hid hsl
  have HMem := Lib.hid hmem
  obtain ⟨A, cp, rfl, -⟩ := hsl.form
  clear hsl hmem HN
  go_wp2_with fail
  refine (HE.out _).mono ?_
  rintro e w2 ⟨rfl, b2⟩
  have B2 := belT b1 b2
  by_cases hc : (nmF T).2.2 = 0
  · have HC0 := Lib.hid hc
    rw [hc]
    cases hst : (nmF T).2.1
    · have HST := Lib.hid hst
      clear hst hc
      go_wp2_with fail
      refine (HT.out _).mono ?_
      rintro e w' ⟨rfl, rfl⟩
      cases htk : Tok.isTok n
      · clear htk
        go_wp2_with fail
        go_ret
        exact ⟨rfl, B2⟩
      · have HTK := Lib.hid htk
        clear htk
        cases hstar : (n.toList == [42])
        · have hX2 : (matF T a b).2 = 0 := by rw [HCo.out, HC0.out]
          have hY2 : (matF T (setF a n val) b).2 = 0 := by rw [HCo.out, HC0.out]
          rw [hX2] at HX
          rw [hY2] at HY
          have HHas := Lib.hid (fun w' (hb : Below w1.heap.size w1 w') => hasStr_any _ xs (mkS (Tok.low (sl n))) w' (HSl.out.below hb) (by omega))
          have HYX : Hid (hasS xs (mkS (Tok.low (sl n))) = false → (matF T (setF a n val) b).1 = (matF T a b).1) := fun h => by
            rw [HMo.out (fun hh => by have := hasS_iff.2 ((HMem.out _).2 hh); rw [show mkS (Tok.low (sl n)) = lowS n from rfl] at h; rw [h] at this; cases this)]
          have HFin1 : Hid (q = true → (matF (T ++ ⟨#[44]⟩ ++ n) a b).2 = 0 → (matF (T ++ ⟨#[44]⟩ ++ n) a b).1 = true → (matF T a b).1 = true) := fun _ hg hz => by
            rw [HCo.out] at hg
            obtain ⟨e1, e2⟩ := HA.out HTK.out HC0.out hg
            exact HMr.out _ HC0.out e1 e2 hg hz
          have HFin2 : Hid (q = false → (matF T a b).1 = true) := fun hq => by rw [Hno.out hq, mat_empty]
          have hP1 := HCS.out.1
          have hP2 := HCS.out.2
          have HZa := Lib.hid (HZ2.out (T ++ ⟨#[44]⟩ ++ n) hP2)
          have HZb := Lib.hid (HZ2.out n (by omega))
          clear HZ2 HMo HCo HMr HA HCS HE HMem Hno HC0 HST HTK hX2 hY2 HSl
          generalize (matF T a b).1 = x at *
          generalize (matF T (setF a n val) b).1 = y at *
          generalize hasS xs (mkS (Tok.low (sl n))) = hh at *
          have HSV1 := Lib.hid (HSV.out (T ++ ⟨#[44]⟩ ++ n))
          have HSV2 := Lib.hid (HSV.out n)
          clear HSV
          generalize (matF (T ++ ⟨#[44]⟩ ++ n) a b) = Z1 at *
          generalize (matF n a b) = Z2 at *
          generalize setF l nVary (T ++ ⟨#[44]⟩ ++ n) = L1 at *
          generalize hp1 : T ++ ⟨#[44]⟩ = P1 at *
          generalize hp2 : P1 ++ n = P2 at *
          obtain ⟨z1, g1⟩ := Z1
          obtain ⟨z2, g2⟩ := Z2
          dsimp only at *
          go_wp2_with fail
          refine (HX.out _ B2).mono ?_
          rintro e w3 ⟨rfl, b3⟩
          have B3 := belT B2 b3
          go_wp2_with fail
          refine (HSA.out _ B3).mono ?_
          rintro e w4 ⟨⟨v4, rfl, o4⟩, b4⟩
          have B4 := belT B3 b4
          have S4 := Lib.hid (SlR.of_owns o4)
          obtain ⟨A4, c4, rfl⟩ := o4.slice
          clear o4
          go_wp2_with fail
          refine (HY.out _ _ B4 S4.out).mono ?_
          rintro e w5 ⟨rfl, b5⟩
          have B5 := belT B4 b5
          go_wp2_with fail
          refine (HLo.out _).mono ?_
          rintro e w6 ⟨rfl, b6⟩
          have B6 := belT B5 b6
          have B16 : Below w1.heap.size w1 w6 := belT (belT (belT (belT b2 b3) b4) b5) b6
          go_wp2_with fail
          refine (HHas.out _ B16).mono ?_
          rintro e w' ⟨rfl, rfl⟩
          have hyx : hh = true ∨ (hh = false ∧ y = x) := by
            cases hhh : hh
            · exact .inr ⟨rfl, HYX.out hhh⟩
            · exact .inl rfl
          clear HYX HHas HLo HY HX HSA S4 b1 b2 b3 b4 b5 b6 B2 B3 B4 B5 B16
          rcases hyx with rfl | ⟨rfl, rfl⟩
          all_goals
            go_wp2_with fail
            refine (HG.out _ B6).mono ?_
            rintro e w7 ⟨rfl, b7⟩
            have B7 := belT B6 b7
            clear b7
            cases q
            · go_wp2_with fail
              refine (HSV2.out _ B7).mono ?_
              rintro e w8 ⟨⟨v8, rfl, o8⟩, b8⟩
              have B8 := belT B7 b8
              have S8 := Lib.hid (SlR.of_owns o8)
              obtain ⟨A8, c8, rfl⟩ := o8.slice
              clear o8
              go_wp2_with fail
              refine (HZb.out _ _ B8 S8.out).mono ?_
              rintro e w9 ⟨rfl, b9⟩
              have B9 := belT B8 b9
              have hx1 := HFin2.out (by trivial)
              subst hx1
              by_cases hg0 : g2 = 0
              · have d1 : (g2 != 0) = false := by simp [hg0]
                cases z2
                · go_wp2_with fail
                  go_ret
                  exact ⟨rfl, B9⟩
                · go_wp2_with fail
                  go_ret
                  exact ⟨rfl, B9⟩
              · have d1 : (g2 != 0) = true := by simpa using hg0
                go_wp2_with fail
                go_ret
                exact ⟨rfl, B9⟩
            · go_wp2_with fail
              refine (HSV1.out _ B7).mono ?_
              rintro e w8 ⟨⟨v8, rfl, o8⟩, b8⟩
              have B8 := belT B7 b8
              have S8 := Lib.hid (SlR.of_owns o8)
              obtain ⟨A8, c8, rfl⟩ := o8.slice
              clear o8
              go_wp2_with fail
              refine (HZa.out _ _ B8 S8.out).mono ?_
              rintro e w9 ⟨rfl, b9⟩
              have B9 := belT B8 b9
              by_cases hg0 : g1 = 0
              · have d1 : (g1 != 0) = false := by simp [hg0]
                cases z1
                · clear HFin1 HFin2
                  go_wp2_with fail
                  go_ret
                  exact ⟨rfl, B9⟩
                · have hx1 := HFin1.out (by trivial) hg0 (by trivial)
                  subst hx1
                  go_wp2_with fail
                  go_ret
                  exact ⟨rfl, B9⟩
              · have d1 : (g1 != 0) = true := by simpa using hg0
                go_wp2_with fail
                go_ret
                exact ⟨rfl, B9⟩
        · go_wp2_with fail
          go_ret
          exact ⟨rfl, B2⟩
    · clear hst hc
      go_wp2_with fail
      go_ret
      exact ⟨rfl, B2⟩
  · have hne : ((nmF T).2.2 != 0) = true := by simpa using hc
    generalize (nmF T).2.2 = c at *
    go_wp2_with fail
    go_ret
    exact ⟨rfl, B2⟩
end Go.Proofs.Ythocoplaehbncaa
