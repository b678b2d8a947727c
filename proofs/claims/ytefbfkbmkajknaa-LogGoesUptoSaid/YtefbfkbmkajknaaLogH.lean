/- LogGoes: the law's walk. -/
import Derived.Test.YtefbfkbmkajknaaLogF
namespace Go.Proofs.Ytefbfkbmkajknaa
open Go.RowKit
theorem Owns.slice {α : Type} {w : World} {base : Nat} {e : TypeId} {size : Nat} {enc : α → List Value} {v : Value} {xs : List α} (h : Owns w base e size enc v xs) : ∃ A cap, v = .slice A xs.length cap := by
  rcases h.form with ⟨h1, h2⟩ | ⟨g, c, h1⟩
  · subst h2; exact ⟨_, _, h1⟩
  · exact ⟨_, _, h1⟩
set_option maxRecDepth 100000 in
set_option maxHeartbeats 3200000 in
theorem logGoes_core (v vm : Value) (l more : List ByteArray) (at_ : Int) (w : World) (h : SlR w es v l) (hm : SlR w es vm more) (hl : l.length ≤ 1048576) (hml : more.length ≤ 1048576) (hmz : ∀ s ∈ more, s.size ≤ 1048576) (hat : Wide at_) :
    Calls Try.prog 7 #[v, vm, .int .i64 at_] w fun e w' => e = .returned (.bool true) ∧ Below w.heap.size w w' := by
  go_enter Try.func7, Try.ntmps7
  go_wp2_with fail
  refine (logged_any v l _ h hl).mono ?_
  rintro e w1 ⟨⟨v1, rfl, o1⟩, b1⟩
  have h1 := SlR.of_owns o1
  have hjl := jour_len l
  have hrl : (recs l).length = l.length := by simp [recs]
  obtain ⟨j, hj, hjs, HJ⟩ : ∃ j : ByteArray, mkS (jour l) = j ∧ j.size ≤ 1073741824 ∧ Hid (sl j = jour l) := ⟨_, rfl, by rw [mkS_size]; omega, sl_mkS _⟩
  rw [hj]
  clear hj hjl o1
  obtain ⟨A1, c1, hv1, hc1⟩ := h1.form
  subst hv1
  clear h1
  obtain ⟨Am, cm, hvm, hcm⟩ := hm.form
  subst hvm
  have HM := Lib.hid (hm.below b1)
  go_wp2_with fail
  refine (rest_any at_ ((j.size : Int) + 1) _ hat (by omega)).mono ?_
  rintro e w' ⟨rfl, rfl⟩
  obtain ⟨k, hk, hkz⟩ : ∃ k : Nat, at_ % ((j.size : Int) + 1) = (k : Int) ∧ k ≤ j.size := by
    have h0 := Int.emod_nonneg at_ (b := (j.size : Int) + 1) (by omega)
    have h1 := Int.emod_lt_of_pos at_ (b := (j.size : Int) + 1) (by omega)
    exact ⟨(at_ % ((j.size : Int) + 1)).toNat, by omega, by omega⟩
  rw [hk]
  clear hk
  go_wp2_with fail
  have HT : Hid (Lg.recAll 0 (sl (j.extract 0 k)) = ((lens (recs l)).take (Lg.whole 0 (lens (recs l)) k).1, (Lg.whole 0 (lens (recs l)) k).2)) := by
    show _ = _
    rw [sl_extract, HJ.out, Nat.sub_zero, List.drop_zero]
    exact Lg.recAll_torn _ 0 k (lens_recs_le l)
  have hwl := Lg.whole_le (lens (recs l)) 0 k
  have hll : (lens (recs l)).length = l.length := by simp [lens, recs]
  have hww := Lg.whole_write (lens (recs l)) 0 k
  obtain ⟨W, B, hWB⟩ : ∃ W B, Lg.whole 0 (lens (recs l)) k = (W, B) := ⟨_, _, rfl⟩
  rw [hWB] at HT hwl hww
  refine (recover_any (j.extract 0 k) _ (by rw [ext_size _ _ _ hkz]; omega)).mono ?_
  rintro e w2 ⟨hr, b2⟩
  rw [HT.out] at hr
  obtain ⟨v2, rfl, o2⟩ := hr
  simp only [List.map_take, lens_mkS] at o2
  have hW := hwl.1
  have hB : B ≤ j.size := by have := hwl.2.1; simp only at this; omega
  rw [hll] at hW
  simp only at hW hww
  obtain ⟨A2, c2, hv2⟩ := o2.slice
  have hlt : ((recs l).take W).length = W := by simp; omega
  rw [hlt] at hv2
  have hT0 : Hid (sl (j.extract 0 B) = Lg.writeL 0 (lens ((recs l).take W))) := by
    show _ = _
    rw [sl_extract, HJ.out, Nat.sub_zero, List.drop_zero]
    unfold lens at hww ⊢
    rw [List.map_take]; exact hww
  have hR : Hid (∀ s ∈ (recs l).take W, s.size ≤ 1000) := fun s hs => recs_le l s (List.mem_of_mem_take hs)
  generalize (recs l).take W = R at o2 hlt hT0 hR
  have HO := Lib.hid o2
  have HRl := Lib.hid hlt
  have hR0 : (j.extract 0 B).size ≤ 1008 * W := by
    have := Lg.writeL_len (lens R) 0 (fun s hs => by
      obtain ⟨x, hx, rfl⟩ := List.mem_map.1 hs
      rw [sl_len]; exact hR.out x hx)
    rw [← hT0.out, sl_len, lens, List.length_map, hlt] at this; exact this
  have HR0 := Lib.hid hR0
  subst hv2
  have HB1 := Lib.hid b1
  have HB2 := Lib.hid b2
  clear o2 hWB b1 b2 hwl hww hll hlt hm hR0
  have g1 : decide (j.size < B) = false := by rw [decide_eq_false_iff_not]; omega
  have g2 : decide (l.length < W) = false := by rw [decide_eq_false_iff_not]; omega
  go_wp2_with fail
  go_loopw [9, 11, 53] (fun u t i wr => ∃ (i' : Nat) (T : ByteArray), i' ≤ more.length ∧ T.size ≤ 1008 * (W + i') ∧ t = .string T ∧ i = .int .i64 i' ∧ Owns wr w1.heap.size 9 1 es u (R ++ more.take i') ∧ sl T = Lg.writeL 0 (lens (R ++ more.take i')) ∧ (∀ s ∈ R ++ more.take i', s.size ≤ 1000) ∧ Below w1.heap.size w1 wr) (fun _ _ i _ => more.length - (intOf i).toNat)
  case atStart =>
    exact ⟨0, j.extract 0 B, by omega, HR0.out, rfl, rfl, by simpa using HO.out, by simpa using hT0.out, by simpa using hR.out, HB2.out⟩
  case round =>
    obtain ⟨i, T, hi, hTz, rfl, rfl, hown, hTT, hall, hbel⟩ := hrel
    obtain ⟨A, cap, hv⟩ := hown.slice
    have hlen : (R ++ more.take i).length = W + i := by rw [List.length_append, HRl.out]; simp; omega
    rw [hlen] at hv
    subst hv
    have HO3 := Lib.hid hown
    have HTT := Lib.hid hTT
    have HALL := Lib.hid hall
    have HLN := Lib.hid hlen
    clear hown hTT hall hlen
    by_cases hlt : i < more.length
    · obtain ⟨g, o, c', he, -, hg, hcell⟩ := HM.out.texts (by omega)
      obtain ⟨rfl, rfl⟩ : Am = some ⟨g, o, none⟩ ∧ cm = c' := by injection he with h1 h2 h3; exact ⟨h1, h3⟩
      have c0 := (hbel.cell (p := ⟨g, o + i, none⟩) hg).trans (hcell i (by omega))
      have hs := hmz _ (List.getElem_mem hlt)
      have HTK : Hid (R ++ more.take (i + 1) = (R ++ more.take i) ++ [more[i]]) := by
        show _ = _; rw [List.take_add_one, List.getElem?_eq_getElem hlt, List.append_assoc]; rfl
      generalize more[i] = s at c0 hs HTK
      clear hcell he
      by_cases hz : 1000 < s.size
      · go_wp2_with fail
        refine (frame_large (W + i) s _ (by omega) hz (by omega)).mono ?_
        rintro e w' ⟨rfl, rfl⟩
        go_wp2_with fail
        go_ret
        exact ⟨ret_bool (by simp; omega), HB1.out.trans (hbel.mono HB1.out.size)⟩
      · go_wp2_with fail
        refine (frame_any (W + i) s _ (by omega) (by omega)).mono ?_
        rintro e w3 ⟨rfl, b3⟩
        have hbb := hbel.trans (b3.mono hbel.size)
        have HO4 := Lib.hid (HO3.out.below b3)
        have hfz : (mkS (Lg.frame (W + i) (sl s))).size = s.size + 8 := by rw [mkS_size, Lg.frame_len, sl_len]
        have hfs : sl (mkS (Lg.frame (W + i) (sl s))) = Lg.frame (W + i) (sl s) := sl_mkS _
        generalize mkS (Lg.frame (W + i) (sl s)) = f at hfz hfs
        have hTf : (T ++ f).size ≤ 1008 * (W + (i + 1)) := by rw [ByteArray.size_append]; omega
        have hadd : T.size + f.size ≤ 9223372036854775807 := by omega
        have hS : Hid (sl (T ++ f) = Lg.writeL 0 (lens (R ++ more.take (i + 1)))) := by
          show _ = _
          have e1 : lens ((R ++ more.take i) ++ [s]) = lens (R ++ more.take i) ++ [sl s] := by simp [lens]
          have e2 : (lens (R ++ more.take i)).length = W + i := by rw [← HLN.out]; simp [lens]
          rw [sl_append, HTT.out, hfs, HTK.out, e1, Lg.writeL_snoc, e2, Nat.zero_add]
        have hA : Hid (∀ s ∈ R ++ more.take (i + 1), s.size ≤ 1000) := by
          intro y hy
          rw [HTK.out] at hy
          rcases List.mem_append.1 hy with hy | hy
          · exact HALL.out y hy
          · rw [List.mem_singleton] at hy; subst hy; omega
        have hlw : (R ++ more.take i).length ≤ 2097152 := by rw [HLN.out]; omega
        clear hfz hfs
        go_wp2_with (at_builtin; go_must (refine wpList_append_owns rfl (.tmp 76) (.tmp 78) _ rfl w1.heap.size 9 (.string ByteArray.empty) 1 16 es Try.underlying25 stringInfo' rfl (by decide) _ _ rfl (HO4.out.alloc _) ⟨w3.heap.size, 0, none⟩ 1 1 [s] rfl rfl rfl (new_cells _ [.string s] _) (es_one [s]) (by simp only [maxLen]; omega) (by omega) (bel_size hbb (Nat.le_refl _) _) ?_); intro v5 w5 hown5 hg5)
        go_roundw
        case rel => exact ⟨i + 1, T ++ f, by omega, hTf, rfl, by go_num, by rw [HTK.out]; exact hown5, hS.out, hA.out, bel_append hbb (Nat.le_refl _) HO4.out hg5⟩
        case measure => simp [intOf]; omega
    · have hE : more.take i = more := List.take_of_length_le (by omega)
      rw [hE] at HO3 HTT HALL HLN
      have hTb : T.size ≤ 2147483648 := by omega
      have HRC : Hid (Lg.recAll 0 (sl T) = (lens (R ++ more), T.size)) := by
        show _ = _
        have := Lg.recAll_back (lens (R ++ more)) (fun s hs => by
          obtain ⟨x, hx, rfl⟩ := List.mem_map.1 hs
          rw [sl_len]; exact HALL.out x hx)
        rw [← HTT.out, sl_len] at this; exact this
      clear hE
      go_wp2_with fail
      refine (recover_any T _ hTb).mono ?_
      rintro e w4 ⟨hr, b4⟩
      rw [HRC.out] at hr
      obtain ⟨v4, rfl, o4⟩ := hr
      rw [show (lens (R ++ more), T.size).1.map mkS = R ++ more from lens_mkS _] at o4
      have H4 := Lib.hid (SlR.of_owns o4)
      have H3 := Lib.hid ((SlR.of_owns HO3.out).below b4)
      clear o4
      go_wp2_with fail
      refine (eqStr_any _ _ (R ++ more) (R ++ more) _ H4.out H3.out (by rw [HLN.out]; omega) (by rw [HLN.out]; omega)).mono ?_
      rintro e w' ⟨rfl, rfl⟩
      rw [same_refl]
      go_wp2_with fail
      go_ret
      exact ⟨rfl, (HB1.out.trans (hbel.mono HB1.out.size)).trans (b4.mono (Nat.le_trans HB1.out.size hbel.size))⟩
theorem logGoes_walk (v : Value) (l : List ByteArray) (vm : Value) (more : List ByteArray) (at_ : Int) (w : World) (h : SlR w es v l) (hs : (l.map (fun s => s.size + 1)).sum ≤ 1048576) (hm : SlR w es vm more) (hms : (more.map (fun s => s.size + 1)).sum ≤ 1048576) (hat : (Lit.int .i64 at_).wf = true) :
    Calls Try.prog 7 #[v, vm, .int .i64 at_] w fun e w' => e = .returned (.bool true) ∧ Below w.heap.size w w' :=
  logGoes_core v vm l more at_ w h hm (Nat.le_trans (sum_len _ (fun _ => by omega) l) hs) (Nat.le_trans (sum_len _ (fun _ => by omega) more) hms) (fun s hs' => by have := sum_mem (fun s : ByteArray => s.size + 1) hs'; omega) (wide_of hat)
end Go.Proofs.Ytefbfkbmkajknaa
