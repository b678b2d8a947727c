/- target: what dots answers. -/
import Derived.Test.YthocoplaehbncaaDoorTargetQ
import Derived.Test.YthocoplaehbncaaDoorTargetN
import Derived.Test.YthocoplaehbncaaDoorJoin
import Derived.IntWalk
namespace Go.Proofs.YthocoplaehbncaaDoor
set_option maxRecDepth 20000
open Go.RowKit
/-- The first elements of a list of one's own, in its own block. -/
theorem Owns.cut {α : Type} {w : World} {base : Nat} {e : TypeId} {size : Nat} {enc : α → List Value} {A : Option Addr} {n c : Nat} {xs : List α} (h : Owns w base e size enc (.slice A n c) xs) (hen : ∀ x, (enc x).length = size) (k : Nat) (hk : k ≤ xs.length) : Owns w base e size enc (.slice A k c) (xs.take k) := by
  have hl : (xs.take k).length = k := by simp; omega
  unfold Owns at *
  rw [hl]
  obtain ⟨h1, h2⟩ := h
  refine ⟨by rw [flat_len hen, hl], ?_⟩
  rcases h2 with ⟨hv, hn⟩ | ⟨g, cap, cur, hv, hb, hcur, hnc, hcm, hcs, htk⟩
  · left
    injection hv with e1 e2 e3
    subst e1 e3
    have : k = 0 := by omega
    subst this
    exact ⟨rfl, rfl⟩
  · right
    injection hv with e1 e2 e3
    subst e1 e3
    refine ⟨g, c, cur, rfl, hb, hcur, by omega, hcm, hcs, ?_⟩
    have e : xs.flatMap enc = (xs.take k).flatMap enc ++ (xs.drop k).flatMap enc := by rw [← List.flatMap_append, List.take_append_drop]
    have hlk : ((xs.take k).flatMap enc).length = k * size := by rw [flat_len hen, hl]
    rw [e] at htk
    have := congrArg (List.take (k * size)) htk
    rw [List.take_take, Nat.min_eq_left (Nat.mul_le_mul_right _ hk)] at this
    rw [this, List.take_left' hlk]
theorem es_len1 (s : ByteArray) : (es s).length = 1 := rfl
namespace Tar
theorem dotsF_two (out : List (List UInt8)) (r : List (List UInt8)) : dotsF out ([46, 46] :: r) = dotsF (out.dropLast ++ (if r.isEmpty then [[]] else [])) r := by
  rw [dotsF, if_pos rfl]
theorem dotsF_one (out : List (List UInt8)) (r : List (List UInt8)) : dotsF out ([46] :: r) = dotsF (out ++ (if r.isEmpty then [[]] else [])) r := by
  rw [dotsF, if_neg (by decide), if_pos rfl]
theorem dotsF_no (out : List (List UInt8)) (s : List UInt8) (r : List (List UInt8)) (h1 : s ≠ [46, 46]) (h2 : s ≠ [46]) : dotsF out (s :: r) = dotsF (out ++ [s]) r := by
  rw [dotsF, if_neg h1, if_neg h2]
theorem drop_is (l : List (List UInt8)) (k : Nat) (h : k < l.length) : (l.drop (k + 1)).isEmpty = decide (k + 1 = l.length) := by
  rw [Bool.eq_iff_iff, List.isEmpty_iff, decide_eq_true_iff, List.drop_eq_nil_iff]
  omega
theorem sg_sum : ∀ (l cur : List UInt8), (sg 47 cur l).length ≤ l.length + 1 ∧ ∀ p ∈ sg 47 cur l, p.length ≤ cur.length + l.length
  | [], cur => by
    refine ⟨by simp [sg], fun p hp => ?_⟩
    rw [show sg 47 cur [] = [cur] from rfl, List.mem_singleton] at hp
    subst hp; simp
  | x :: l, cur => by
    rw [sg_c]
    split
    · obtain ⟨h1, h2⟩ := sg_sum l []
      refine ⟨by simp only [List.length_cons]; omega, fun p hp => ?_⟩
      rcases List.mem_cons.1 hp with rfl | hp
      · simp only [List.length_cons]; omega
      · have := h2 p hp; simp only [List.length_nil, List.length_cons] at *; omega
    · obtain ⟨h1, h2⟩ := sg_sum l (cur ++ [x])
      refine ⟨by simp only [List.length_cons]; omega, fun p hp => ?_⟩
      have := h2 p hp; simp only [List.length_append, List.length_cons, List.length_nil] at *; omega
theorem join_map (xs : List (List UInt8)) : joinS (xs.map mkS) ⟨#[47]⟩ = mkS (Lib.join xs [47]) := by
  unfold joinS joinL
  rw [List.map_map]
  congr 2
  conv => rhs; rw [← List.map_id xs]
  exact List.map_congr_left (fun a _ => sl_mkS a)
theorem slash_cons (l : List UInt8) : (⟨#[47]⟩ : ByteArray) ++ mkS l = mkS (47 :: l) := by
  apply sl_inj; rw [sl_append, sl_mkS, sl_mkS]; rfl
end Tar
set_option maxHeartbeats 3200000 in
theorem dots_any (p : ByteArray) (pr : List UInt8) (w : World) (hp : sl p = 47 :: pr) (hs : p.size ≤ 200) (hm : (∃ m, w.cell? ⟨1, 0, none⟩ = some (.int .i64 m))) :
    Calls Tryd.prog 63 #[.string p] w fun e w' => e = .returned (.string (mkS (Tar.dotsP (sl p)))) ∧ Below w.heap.size w w' := by
  have hpl : pr.length + 1 = p.size := by have := congrArg List.length hp; rw [sl_len] at this; simp at this; omega
  obtain ⟨r, hr, hrz⟩ : ∃ r, p.extract 1 p.size = r ∧ r.size = p.size - 1 := ⟨_, rfl, by rw [ext_size _ _ _ (Nat.le_refl _)]⟩
  have hsr : sl r = pr := by rw [← hr, sl_extract_end, hp]; rfl
  have HSp := Lib.hid (split1_any r 47 w (by omega) hm)
  rw [hsr] at HSp
  have HR : Hid (Tar.dotsP (sl p) = 47 :: Lib.join (Tar.dotsF [] (sg 47 [] pr)) [47]) := by show _ = _; unfold Tar.dotsP; rw [hp]; rfl
  obtain ⟨hn1, hn2⟩ := Tar.sg_sum pr []
  have hne : sg 47 [] pr ≠ [] := sg_ne 47 pr []
  have hp1 : 1 ≤ p.size := by omega
  have htot := Tar.dots_tot List.length rfl (sg 47 [] pr) []
  rw [Tar.seg_tot] at htot
  have h0 : Tar.tot List.length [] = 0 := rfl
  have hdl : Hid ((Lib.join (Tar.dotsF [] (sg 47 [] pr)) [47]).length ≤ 200) := by
    show _ ≤ _
    rcases Tar.dots_ne (sg 47 [] pr) [] (.inl hne) with h | h
    · exact absurd h hne
    · have := Tar.join_tot 47 _ h; omega
  clear hm hsr htot h0 hp
  generalize Tar.dotsP (sl p) = D at *
  generalize hst : sg 47 [] pr = st at *
  clear hst
  have hns : st.length ≤ 200 := by omega
  have hps : ∀ s ∈ st, s.length ≤ 200 := fun s hs => by have := hn2 s hs; simp only [List.length_nil] at this; omega
  clear hn1 hn2 hpl
  go_enter Tryd.func63, Tryd.ntmps63
  go_wp2_with fail
  refine HSp.out.mono ?_
  rintro e w2 ⟨⟨v, rfl, hsl⟩, b2⟩
  have HSl := Lib.hid hsl
  have hlm : (st.map mkS).length = st.length := List.length_map ..
  obtain ⟨A, cp, rfl, -⟩ := hsl.form
  clear hsl HSp
  rw [hlm]
  go_wp2_with fail
  have H2 := Lib.hid (fun hn => HSl.out.texts hn)
  go_loopw [3, 12] (fun o i wr => ∃ (k : Nat) (out : List (List UInt8)), k ≤ st.length ∧ out.length ≤ 2 * k ∧ i = .int .i64 k ∧ Owns wr w2.heap.size 9 1 es o (out.map mkS) ∧ Tar.dotsF [] st = Tar.dotsF out (st.drop k) ∧ Below w2.heap.size w2 wr) (fun _ i _ => st.length - (intOf i).toNat)
  case atStart => exact ⟨0, [], by omega, by simp, rfl, Owns.nil _ _ _ _ _, by simp, Below.refl _ _⟩
  case round =>
    obtain ⟨k, out, hk, hol, rfl, hown, hrec, hbel⟩ := hrel
    have HO := Lib.hid hown
    have HRec := Lib.hid hrec
    have Br := belT b2 hbel
    have hlo : (out.map mkS).length = out.length := List.length_map ..
    obtain ⟨Ao, co, rfl⟩ := hown.slice
    rw [hlo] at HO ⊢
    have hco : out.length ≤ co := by
      obtain ⟨A', c', hv, hc, -⟩ := SlR.of_owns HO.out
      injection hv with _ _ h3
      omega
    clear hown hrec
    by_cases hlt : k < st.length
    · obtain ⟨b, off, c', he, _, hbb, hcell⟩ := H2.out (by omega)
      obtain ⟨rfl, rfl⟩ : A = some ⟨b, off, none⟩ ∧ cp = c' := by injection he with h1 h2 h3; exact ⟨h1, h3⟩
      have c0 := (hbel.cell (p := ⟨b, off + k, none⟩) hbb).trans (hcell k (by omega))
      simp only [List.getElem_map] at c0
      have hx := hps _ (List.getElem_mem hlt)
      have HD : Hid (st.drop k = st[k] :: st.drop (k + 1)) := List.drop_eq_getElem_cons hlt
      have HIs := Lib.hid (Tar.drop_is st k hlt)
      have HE2 : Hid (((mkS st[k]).toList == ([46, 46] : List UInt8)) = decide (st[k] = [46, 46])) := by show _ = _; rw [ba_toList, sl_mkS, Bool.eq_iff_iff, beq_iff_eq, decide_eq_true_iff]
      have HE1 : Hid (((mkS st[k]).toList == ([46] : List UInt8)) = decide (st[k] = [46])) := by show _ = _; rw [ba_toList, sl_mkS, Bool.eq_iff_iff, beq_iff_eq, decide_eq_true_iff]
      clear hcell he
      generalize hsk : st[k] = s at *
      clear hsk
      generalize hS : mkS s = S at *
      have HS := Lib.hid hS
      clear hS
      by_cases h2 : s = [46, 46]
      · have e2 : (S.toList == [46, 46]) = true := by rw [HE2.out, decide_eq_true h2]
        have HO2 := Lib.hid (HO.out.cut es_len1 (out.length - 1) (by rw [hlo]; omega))
        have hdl1 : (out.map mkS).take (out.length - 1) = out.dropLast.map mkS := by rw [List.dropLast_eq_take, List.map_take]
        rw [hdl1] at HO2
        have hmx : max (0 : Int) ((out.length : Int) - 1) = ((out.length - 1 : Nat) : Int) := by omega
        have hwr : IntKind.i64.wrap ((out.length : Int) - 1) = (out.length : Int) - 1 := IntWalk.i64_in _ (by omega)
        have hwl : IntKind.i64.wrap ((st.length : Int) - 1) = (st.length : Int) - 1 := IntWalk.i64_in _ (by omega)
        by_cases hlast : k + 1 = st.length
        · have dl : ((k : Int) == (st.length : Int) - 1) = true := by rw [beq_iff_eq]; omega
          have HRN : Hid (Tar.dotsF [] st = Tar.dotsF (out.dropLast ++ [[]]) (st.drop (k + 1))) := by
            show _ = _
            rw [HRec.out, HD.out, h2, Tar.dotsF_two, HIs.out, decide_eq_true hlast]; rfl
          clear h2 hps
          go_wp2_with (at_builtin; go_must (refine wpList_append_owns rfl (.tmp 37) (.tmp 38) _ rfl w2.heap.size 9 (.string ByteArray.empty) 1 16 es Tryd.underlying23 stringInfo rfl (by decide) _ (out.dropLast.map mkS) rfl (HO2.out.alloc _) ⟨wr.heap.size, 0, none⟩ 1 1 [ByteArray.empty] rfl rfl rfl (new_cells _ [.string (ByteArray.empty)] _) (es_one _) (by rw [List.length_map, List.length_dropLast]; simp only [maxLen]; omega) (by rw [List.length_map, List.length_dropLast]; omega) (by have := hbel.size; simp; omega) ?_); intro v' w3 ho3 hg3)
          go_roundw
          case rel => exact ⟨k + 1, out.dropLast ++ [[]], by omega, by rw [List.length_append, List.length_dropLast]; simp only [List.length_cons, List.length_nil]; omega, by go_num, by rw [List.map_append]; exact ho3, HRN.out, bel_append hbel (Nat.le_refl _) HO2.out hg3⟩
          case measure => simp [intOf]; omega
        · have dl : ((k : Int) == (st.length : Int) - 1) = false := by rw [beq_eq_false_iff_ne]; omega
          have HRN : Hid (Tar.dotsF [] st = Tar.dotsF out.dropLast (st.drop (k + 1))) := by
            show _ = _
            rw [HRec.out, HD.out, h2, Tar.dotsF_two, HIs.out, decide_eq_false hlast, if_neg (by simp), List.append_nil]
          clear h2 hps
          go_wp2_with fail
          go_roundw
          case rel => exact ⟨k + 1, out.dropLast, by omega, by rw [List.length_dropLast]; omega, by go_num, HO2.out, HRN.out, hbel⟩
          case measure => simp [intOf]; omega
      · have e2 : (S.toList == [46, 46]) = false := by rw [HE2.out, decide_eq_false h2]
        have hwl : IntKind.i64.wrap ((st.length : Int) - 1) = (st.length : Int) - 1 := IntWalk.i64_in _ (by omega)
        by_cases h1 : s = [46]
        · have e1 : (S.toList == [46]) = true := by rw [HE1.out, decide_eq_true h1]
          by_cases hlast : k + 1 = st.length
          · have dl : ((k : Int) == (st.length : Int) - 1) = true := by rw [beq_iff_eq]; omega
            have HRN : Hid (Tar.dotsF [] st = Tar.dotsF (out ++ [[]]) (st.drop (k + 1))) := by
              show _ = _
              rw [HRec.out, HD.out, h1, Tar.dotsF_one, HIs.out, decide_eq_true hlast]; rfl
            clear h2 h1 hps
            go_wp2_with (at_builtin; go_must (refine wpList_append_owns rfl (.tmp 37) (.tmp 38) _ rfl w2.heap.size 9 (.string ByteArray.empty) 1 16 es Tryd.underlying23 stringInfo rfl (by decide) _ (out.map mkS) rfl (HO.out.alloc _) ⟨wr.heap.size, 0, none⟩ 1 1 [ByteArray.empty] rfl rfl rfl (new_cells _ [.string (ByteArray.empty)] _) (es_one _) (by rw [List.length_map]; simp only [maxLen]; omega) (by rw [List.length_map]; omega) (by have := hbel.size; simp; omega) ?_); intro v' w3 ho3 hg3)
            go_roundw
            case rel => exact ⟨k + 1, out ++ [[]], by omega, by rw [List.length_append]; simp only [List.length_cons, List.length_nil]; omega, by go_num, by rw [List.map_append]; exact ho3, HRN.out, bel_append hbel (Nat.le_refl _) HO.out hg3⟩
            case measure => simp [intOf]; omega
          · have dl : ((k : Int) == (st.length : Int) - 1) = false := by rw [beq_eq_false_iff_ne]; omega
            have HRN : Hid (Tar.dotsF [] st = Tar.dotsF out (st.drop (k + 1))) := by
              show _ = _
              rw [HRec.out, HD.out, h1, Tar.dotsF_one, HIs.out, decide_eq_false hlast, if_neg (by simp), List.append_nil]
            clear h2 h1 hps
            go_wp2_with fail
            go_roundw
            case rel => exact ⟨k + 1, out, by omega, by omega, by go_num, HO.out, HRN.out, hbel⟩
            case measure => simp [intOf]; omega
        · have e1 : (S.toList == [46]) = false := by rw [HE1.out, decide_eq_false h1]
          have HRN : Hid (Tar.dotsF [] st = Tar.dotsF (out ++ [s]) (st.drop (k + 1))) := by
            show _ = _
            rw [HRec.out, HD.out, Tar.dotsF_no _ _ _ h2 h1]
          clear h2 h1 hps
          go_wp2_with (at_builtin; go_must (refine wpList_append_owns rfl (.tmp 18) (.tmp 20) _ rfl w2.heap.size 9 (.string ByteArray.empty) 1 16 es Tryd.underlying23 stringInfo rfl (by decide) _ (out.map mkS) rfl (HO.out.alloc _) ⟨wr.heap.size, 0, none⟩ 1 1 [S] rfl rfl rfl (new_cells _ [.string (S)] _) (es_one _) (by rw [List.length_map]; simp only [maxLen]; omega) (by rw [List.length_map]; omega) (by have := hbel.size; simp; omega) ?_); intro v' w3 ho3 hg3)
          go_roundw
          case rel => exact ⟨k + 1, out ++ [s], by omega, by rw [List.length_append]; simp only [List.length_cons, List.length_nil]; omega, by go_num, by rw [List.map_append, List.map_cons, List.map_nil, HS.out]; exact ho3, HRN.out, bel_append hbel (Nat.le_refl _) HO.out hg3⟩
          case measure => simp [intOf]; omega
    · obtain rfl : k = st.length := by omega
      have HF : Hid (Tar.dotsF [] st = out) := by
        show _ = _
        rw [HRec.out, List.drop_length]; rfl
      have HRs := Lib.hid (SlR.of_owns HO.out)
      have hjl : (joinL (out.map mkS) ⟨#[47]⟩).length ≤ 140737488351232 := by
        have := congrArg ByteArray.size (Tar.join_map out)
        unfold joinS at this
        rw [mkS_size, mkS_size] at this
        rw [this, ← HF.out]
        exact Nat.le_trans hdl.out (by decide)
      have HJ := Lib.hid (join_any _ (out.map mkS) ⟨#[47]⟩ wr HRs.out (by rw [hlo]; omega) hjl)
      rw [Tar.join_map] at HJ
      have hjz : (mkS (Lib.join out [47])).size ≤ 200 := by rw [mkS_size, ← HF.out]; exact hdl.out
      have HCat := Lib.hid (Tar.slash_cons (Lib.join out [47]))
      have HRR : Hid (D = 47 :: Lib.join out [47]) := by show _ = _; rw [HR.out, HF.out]
      clear hjl
      generalize hJ : mkS (Lib.join out [47]) = J at *
      clear hJ
      go_wp2_with fail
      refine HJ.out.mono ?_
      rintro e w3 ⟨rfl, b3⟩
      have B3 := belT Br b3
      go_wp2_with fail
      go_ret
      exact ⟨ret_str (by rw [HCat.out, HRR.out]), B3⟩
end Go.Proofs.YthocoplaehbncaaDoor
