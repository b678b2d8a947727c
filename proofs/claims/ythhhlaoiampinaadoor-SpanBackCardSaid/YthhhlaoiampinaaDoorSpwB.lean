/- What span's Print answers for a list that is good. -/
import Derived.Test.YthhhlaoiampinaaDoorSpwA
import Derived.Test.YthhhlaoiampinaaDoorJoin
namespace Go.Proofs.YthhhlaoiampinaaDoor
open Go.RowKit
set_option maxRecDepth 20000
namespace Spw
open Spc
def tx (d : Int × Int) : ByteArray := mkS (wL d.1 d.2)
theorem tx_size {d : Int × Int} (h : Spn.wantB d = true) : (tx d).size ≤ 11 := by
  have hn := want_nums (a := d.1) (b := d.2) h
  have z1 : (mkS (numL d.1)).size ≤ 5 := numL_size (by rcases hn with ⟨h, _⟩ | ⟨h, _⟩ | ⟨h, _⟩ <;> simp [h])
  have z2 : (mkS (numL d.2)).size ≤ 5 := numL_size (by rcases hn with ⟨_, h⟩ | ⟨_, h⟩ | ⟨_, h⟩ <;> simp [h])
  unfold tx
  rw [mkS_size] at z1 z2 ⊢; unfold wL; simp only [List.length_append, List.length_cons]; omega
set_option maxHeartbeats 2000000 in
theorem printW_ok (v : Value) (l : List (Int × Int)) (w : World) (h : SlR w e_ii v l) (hl : l.length ≤ 20) (hg : Spn.checkI l = 0) (he : Bd.HasErr w) :
    Calls Tryd.prog 9 #[v] w fun e w' => e = .returned (.tuple #[.string ((⟨#[98, 121, 116, 101, 115, 61]⟩ : ByteArray) ++ joinS (l.map tx) ⟨#[44]⟩), .int .i64 0]) ∧ Below w.heap.size w w' := by
  have HE := Lib.hid (fun w' (hb : Below w.heap.size w w') => (he.below hb).p10)
  have HR := Lib.hid h
  have HCk := Lib.hid (checkWant_any v l w h (by omega))
  rw [hg] at HCk
  have HG : Hid (∀ d ∈ l, Spn.wantB d = true) := by
    intro d hd
    unfold Spn.checkI at hg
    split at hg
    · cases hg
    · rename_i h1
      simp only [not_or, Bool.not_eq_true, List.any_eq_false] at h1
      have := h1.2 d hd
      simpa using this
  clear hg he
  obtain ⟨A, c, rfl, hc, -⟩ := h
  go_enter Tryd.func9, Tryd.ntmps9
  go_wp2_with fail
  refine HCk.out.mono ?_
  rintro e w1 ⟨rfl, b1⟩
  have d20 : decide (20 < (l.length : Int)) = false := by rw [decide_eq_false_iff_not]; omega
  go_wp2_with fail
  go_loopw [5, 20] (fun o i wr => ∃ k : Nat, k ≤ l.length ∧ i = .int .i64 k ∧ Owns wr w.heap.size 9 1 es o ((l.take k).map tx) ∧ Below w.heap.size w wr) (fun _ i _ => l.length - (intOf i).toNat)
  case atStart => exact ⟨0, by omega, rfl, Owns.nil _ _ _ _ _, b1⟩
  case round =>
    obtain ⟨k, hk, rfl, hown, hbel⟩ := hrel
    have HO := Lib.hid hown
    by_cases hlt : k < l.length
    · obtain ⟨b, off, c', he, hbb, hcell⟩ := HR.out.two (fun _ => rfl) (by omega)
      obtain ⟨rfl, rfl⟩ : A = some ⟨b, off, none⟩ ∧ c = c' := by injection he with h1 h2 h3; exact ⟨h1, h3⟩
      obtain ⟨q0, q1⟩ := hcell k hlt (.int .i64 l[k].1) (.int .i64 l[k].2) rfl rfl
      have c0 := (hbel.cell (p := ⟨b, off + k * 2, none⟩) hbb).trans q0
      have c1 := (hbel.cell (p := ⟨b, off + k * 2 + 1, none⟩) hbb).trans q1
      have hw := HG.out l[k] (List.getElem_mem hlt)
      have HT : Hid ((l.take (k + 1)).map tx = (l.take k).map tx ++ [mkS (wL l[k].1 l[k].2)]) := by show _ = _; rw [List.take_add_one, List.getElem?_eq_getElem hlt, List.map_append]; rfl
      have hlen : ((l.take k).map tx).length ≤ 20 := by simp; omega
      clear hcell q0 q1 he hown
      generalize (l.take k).map tx = ts at *
      generalize l[k] = d at *
      obtain ⟨f, g⟩ := d
      have hbd := Spn.wantB_bounds hw
      dsimp only at hbd c0 c1 HT
      have HX := Lib.hid (fun w' hp => Bd.itoa_any f w' (by omega) (by omega) hp)
      have HY := Lib.hid (fun w' hp => Bd.itoa_any g w' (by omega) (by omega) hp)
      have hn := want_nums hw
      have HB0 := hbel.alloc hbel.size (.cells #[.int .i64 f, .int .i64 g] 40)
      have HOA := Lib.hid (HO.out.alloc (.cells #[.int .i64 f, .int .i64 g] 40))
      have HK := Blk.new wr 40 #[.int .i64 f, .int .i64 g]
      clear hw hbd
      go_wp2_with fail
      generalize wr.alloc (.cells #[.int .i64 f, .int .i64 g] 40) = wa at *
      have HC := Lib.hid (fun w' (hb : Below wa.heap.size wa w') => And.intro ((hb.cell (p := ⟨wr.heap.size, 0, none⟩) HK.lt).trans (HK.cell 0)) ((hb.cell (p := ⟨wr.heap.size, 1, none⟩) HK.lt).trans (HK.cell 1)))
      have HP1 := Lib.hid (HE.out _ HB0)
      have HSz := HB0.size
      clear HE
      rcases hn with ⟨rfl, hb⟩ | ⟨ha, rfl⟩ | ⟨ha, hb⟩
      · have hb2 := nB_bounds hb
        have dg : decide (g < 0) = false := by rw [decide_eq_false_iff_not]; omega
        have zL : (mkS (Lib.itoa g)).size ≤ 5 := by rw [mkS_size]; exact itoa_len hb
        have HF : Hid (mkS (wL (-1) g) = (⟨#[]⟩ : ByteArray) ++ ⟨#[45]⟩ ++ mkS (Lib.itoa g)) := by
          refine sl_inj ?_
          rw [sl_mkS, sl_append, sl_append, sl_mkS]; unfold wL; rw [numL_full hb]; rfl
        obtain ⟨P, hP⟩ : ∃ P, (⟨#[]⟩ : ByteArray) ++ ⟨#[45]⟩ = P := ⟨_, rfl⟩
        have zP : P.size = 1 := by rw [← hP]; rfl
        rw [hP] at HF
        generalize mkS (Lib.itoa g) = L at *
        generalize mkS (Lib.itoa (-1)) = F at *
        clear hb hb2
        refine wp_region_seq [(true, 0), (true, 1), (true, 3), (true, 4), (false, 2), (false, 5), (true, 6), (true, 7)] (fun w' => Below wa.heap.size wa w') (by kernel_rfl) (by kernel_rfl) (fun _ _ _ _ _ h => h) (by kernel_rfl) (by kernel_rfl) (by first | exact (Below.refl _ _).drew | exact Below.drew (by assumption)) ?_
        have bS : Below wa.heap.size wa _ := (by first | exact Below.drew (by assumption) | exact (Below.refl _ wa).drew)
        iterate 8 (first
          | (apply seqH_skip; (focus (simp only [List.getElem?_toArray, List.getElem?_cons_succ, List.getElem?_cons_zero]; rfl)); (focus rfl); simp only [Act.put, List.setIfInBounds_toArray, List.set_cons_zero, List.set_cons_succ])
          | (apply seqH_take; (focus (simp only [List.getElem?_toArray, List.getElem?_cons_succ, List.getElem?_cons_zero]; rfl)); (focus rfl); (focus (intro w' hS; obtain ⟨c0, c1⟩ := HC.out _ hS; first | (go_simp; rfl) | (go_simp; done))); simp only [Act.put, List.setIfInBounds_toArray, List.set_cons_zero, List.set_cons_succ])
          | (apply seqH_pass; (focus (simp only [List.getElem?_toArray, List.getElem?_cons_succ, List.getElem?_cons_zero]; rfl)); (focus rfl); (focus assumption); simp only [Act.put, List.setIfInBounds_toArray, List.set_cons_zero, List.set_cons_succ])
          | (apply seqH_eff; (focus (simp only [List.getElem?_toArray, List.getElem?_cons_succ, List.getElem?_cons_zero]; rfl)); (focus rfl); intro K hK; go_simp; (go_at_call 25; (first | (with_reducible refine (HX.out _ (HP1.out.below rfl (by assumption))).mono ?_) | (with_reducible refine (HY.out _ (HP1.out.below rfl (by assumption))).mono ?_))); rintro e wN ⟨rfl, bN⟩; refine hK _ _ (seq_next (by assumption) bN (fun bS' => ?_)); clear hK K))
        refine seqH_nil ?_
        obtain ⟨c0, c1⟩ := HC.out _ bS'
        have HO3 := Lib.hid (HOA.out.below bS')
        have HB3 := belT HB0 bS'
        go_wp2_with (at_builtin; go_must (refine wpList_append_owns rfl (.tmp 36) (.tmp 41) _ rfl w.heap.size 9 (.string ByteArray.empty) 1 16 es Tryd.underlying26 stringInfo rfl (by decide) _ ts rfl (HO3.out.alloc _) ⟨_, 0, none⟩ 1 1 [_] rfl rfl rfl (new_cells _ [.string _] _) (es_one [_]) (by simp only [maxLen]; omega) (by omega) (bel_size HB3 (Nat.le_refl _) _) ?_); intro v3 w3 hown3 hg3)
        go_roundw
        case rel => exact ⟨k + 1, by omega, by go_num, by rw [HT.out, HF.out]; exact hown3, (HB3.alloc HB3.size _).grown hg3 (bel_size HB3 (Nat.le_refl _) _) (fun k hk => (HO3.out.lt k hk).1)⟩
        case measure => simp [intOf]; omega
      · have ha2 := nB_bounds ha
        have df : decide (f < 0) = false := by rw [decide_eq_false_iff_not]; omega
        have zF : (mkS (Lib.itoa f)).size ≤ 5 := by rw [mkS_size]; exact itoa_len ha
        have HF : Hid (mkS (wL f (-1)) = mkS (Lib.itoa f) ++ ⟨#[45]⟩ ++ ⟨#[]⟩) := by
          refine sl_inj ?_
          rw [sl_mkS, sl_append, sl_append, sl_mkS]; unfold wL; rw [numL_full ha, List.append_assoc]; rfl
        generalize mkS (Lib.itoa f) = F at *
        obtain ⟨P, hP⟩ : ∃ P, F ++ (⟨#[45]⟩ : ByteArray) = P := ⟨_, rfl⟩
        have zP : P.size ≤ 6 := by rw [← hP, ByteArray.size_append]; have : (⟨#[45]⟩ : ByteArray).size = 1 := rfl; omega
        rw [hP] at HF
        generalize mkS (Lib.itoa (-1)) = L at *
        clear ha ha2
        refine wp_region_seq [(true, 0), (true, 1), (true, 3), (true, 4), (false, 2), (false, 5), (true, 6), (true, 7)] (fun w' => Below wa.heap.size wa w') (by kernel_rfl) (by kernel_rfl) (fun _ _ _ _ _ h => h) (by kernel_rfl) (by kernel_rfl) (by first | exact (Below.refl _ _).drew | exact Below.drew (by assumption)) ?_
        have bS : Below wa.heap.size wa _ := (by first | exact Below.drew (by assumption) | exact (Below.refl _ wa).drew)
        iterate 8 (first
          | (apply seqH_skip; (focus (simp only [List.getElem?_toArray, List.getElem?_cons_succ, List.getElem?_cons_zero]; rfl)); (focus rfl); simp only [Act.put, List.setIfInBounds_toArray, List.set_cons_zero, List.set_cons_succ])
          | (apply seqH_take; (focus (simp only [List.getElem?_toArray, List.getElem?_cons_succ, List.getElem?_cons_zero]; rfl)); (focus rfl); (focus (intro w' hS; obtain ⟨c0, c1⟩ := HC.out _ hS; first | (go_simp; rfl) | (go_simp; done))); simp only [Act.put, List.setIfInBounds_toArray, List.set_cons_zero, List.set_cons_succ])
          | (apply seqH_pass; (focus (simp only [List.getElem?_toArray, List.getElem?_cons_succ, List.getElem?_cons_zero]; rfl)); (focus rfl); (focus assumption); simp only [Act.put, List.setIfInBounds_toArray, List.set_cons_zero, List.set_cons_succ])
          | (apply seqH_eff; (focus (simp only [List.getElem?_toArray, List.getElem?_cons_succ, List.getElem?_cons_zero]; rfl)); (focus rfl); intro K hK; go_simp; (go_at_call 25; (first | (with_reducible refine (HX.out _ (HP1.out.below rfl (by assumption))).mono ?_) | (with_reducible refine (HY.out _ (HP1.out.below rfl (by assumption))).mono ?_))); rintro e wN ⟨rfl, bN⟩; refine hK _ _ (seq_next (by assumption) bN (fun bS' => ?_)); clear hK K))
        refine seqH_nil ?_
        obtain ⟨c0, c1⟩ := HC.out _ bS'
        have HO3 := Lib.hid (HOA.out.below bS')
        have HB3 := belT HB0 bS'
        go_wp2_with (at_builtin; go_must (refine wpList_append_owns rfl (.tmp 36) (.tmp 41) _ rfl w.heap.size 9 (.string ByteArray.empty) 1 16 es Tryd.underlying26 stringInfo rfl (by decide) _ ts rfl (HO3.out.alloc _) ⟨_, 0, none⟩ 1 1 [_] rfl rfl rfl (new_cells _ [.string _] _) (es_one [_]) (by simp only [maxLen]; omega) (by omega) (bel_size HB3 (Nat.le_refl _) _) ?_); intro v3 w3 hown3 hg3)
        go_roundw
        case rel => exact ⟨k + 1, by omega, by go_num, by rw [HT.out, HF.out]; exact hown3, (HB3.alloc HB3.size _).grown hg3 (bel_size HB3 (Nat.le_refl _) _) (fun k hk => (HO3.out.lt k hk).1)⟩
        case measure => simp [intOf]; omega
      · have ha2 := nB_bounds ha
        have hb2 := nB_bounds hb
        have df : decide (f < 0) = false := by rw [decide_eq_false_iff_not]; omega
        have dg : decide (g < 0) = false := by rw [decide_eq_false_iff_not]; omega
        have zF : (mkS (Lib.itoa f)).size ≤ 5 := by rw [mkS_size]; exact itoa_len ha
        have zL : (mkS (Lib.itoa g)).size ≤ 5 := by rw [mkS_size]; exact itoa_len hb
        have HF : Hid (mkS (wL f g) = mkS (Lib.itoa f) ++ ⟨#[45]⟩ ++ mkS (Lib.itoa g)) := by
          refine sl_inj ?_
          rw [sl_mkS, sl_append, sl_append, sl_mkS, sl_mkS]; unfold wL; rw [numL_full ha, numL_full hb, List.append_assoc]; rfl
        generalize mkS (Lib.itoa f) = F at *
        generalize mkS (Lib.itoa g) = L at *
        obtain ⟨P, hP⟩ : ∃ P, F ++ (⟨#[45]⟩ : ByteArray) = P := ⟨_, rfl⟩
        have zP : P.size ≤ 6 := by rw [← hP, ByteArray.size_append]; have : (⟨#[45]⟩ : ByteArray).size = 1 := rfl; omega
        rw [hP] at HF
        clear ha hb ha2 hb2
        refine wp_region_seq [(true, 0), (true, 1), (true, 3), (true, 4), (false, 2), (false, 5), (true, 6), (true, 7)] (fun w' => Below wa.heap.size wa w') (by kernel_rfl) (by kernel_rfl) (fun _ _ _ _ _ h => h) (by kernel_rfl) (by kernel_rfl) (by first | exact (Below.refl _ _).drew | exact Below.drew (by assumption)) ?_
        have bS : Below wa.heap.size wa _ := (by first | exact Below.drew (by assumption) | exact (Below.refl _ wa).drew)
        iterate 8 (first
          | (apply seqH_skip; (focus (simp only [List.getElem?_toArray, List.getElem?_cons_succ, List.getElem?_cons_zero]; rfl)); (focus rfl); simp only [Act.put, List.setIfInBounds_toArray, List.set_cons_zero, List.set_cons_succ])
          | (apply seqH_take; (focus (simp only [List.getElem?_toArray, List.getElem?_cons_succ, List.getElem?_cons_zero]; rfl)); (focus rfl); (focus (intro w' hS; obtain ⟨c0, c1⟩ := HC.out _ hS; first | (go_simp; rfl) | (go_simp; done))); simp only [Act.put, List.setIfInBounds_toArray, List.set_cons_zero, List.set_cons_succ])
          | (apply seqH_pass; (focus (simp only [List.getElem?_toArray, List.getElem?_cons_succ, List.getElem?_cons_zero]; rfl)); (focus rfl); (focus assumption); simp only [Act.put, List.setIfInBounds_toArray, List.set_cons_zero, List.set_cons_succ])
          | (apply seqH_eff; (focus (simp only [List.getElem?_toArray, List.getElem?_cons_succ, List.getElem?_cons_zero]; rfl)); (focus rfl); intro K hK; go_simp; (go_at_call 25; (first | (with_reducible refine (HX.out _ (HP1.out.below rfl (by assumption))).mono ?_) | (with_reducible refine (HY.out _ (HP1.out.below rfl (by assumption))).mono ?_))); rintro e wN ⟨rfl, bN⟩; refine hK _ _ (seq_next (by assumption) bN (fun bS' => ?_)); clear hK K))
        refine seqH_nil ?_
        obtain ⟨c0, c1⟩ := HC.out _ bS'
        have HO3 := Lib.hid (HOA.out.below bS')
        have HB3 := belT HB0 bS'
        go_wp2_with (at_builtin; go_must (refine wpList_append_owns rfl (.tmp 36) (.tmp 41) _ rfl w.heap.size 9 (.string ByteArray.empty) 1 16 es Tryd.underlying26 stringInfo rfl (by decide) _ ts rfl (HO3.out.alloc _) ⟨_, 0, none⟩ 1 1 [_] rfl rfl rfl (new_cells _ [.string _] _) (es_one [_]) (by simp only [maxLen]; omega) (by omega) (bel_size HB3 (Nat.le_refl _) _) ?_); intro v3 w3 hown3 hg3)
        go_roundw
        case rel => exact ⟨k + 1, by omega, by go_num, by rw [HT.out, HF.out]; exact hown3, (HB3.alloc HB3.size _).grown hg3 (bel_size HB3 (Nat.le_refl _) _) (fun k hk => (HO3.out.lt k hk).1)⟩
        case measure => simp [intOf]; omega
    · have hE : l.take k = l := List.take_of_length_le (by omega)
      rw [hE] at HO
      have hkl : (l.map tx).length ≤ 20 := by simp; omega
      have HJ : (joinL (l.map tx) ⟨#[44]⟩).length ≤ 1000 := by
        refine Nat.le_trans (joinL_len _ _) ?_
        have key : ∀ (m : List (Int × Int)), (∀ d ∈ m, Spn.wantB d = true) → ((m.map tx).map (fun x => x.size + (⟨#[44]⟩ : ByteArray).size)).sum ≤ 12 * m.length := by
          intro m
          induction m with
          | nil => intro _; simp
          | cons d m ih =>
            intro h
            have h1 := tx_size (h d (by simp))
            have h2 := ih (fun x hx => h x (by simp [hx]))
            have h3 : (⟨#[44]⟩ : ByteArray).size = 1 := rfl
            rw [List.map_cons, List.map_cons, List.sum_cons, List.length_cons]
            omega
        have := key l HG.out
        omega
      have hsz : (joinS (l.map tx) ⟨#[44]⟩).size ≤ 1000 := by unfold joinS; rw [mkS_size]; exact HJ
      have HJn := Lib.hid (join_any _ (l.map tx) ⟨#[44]⟩ wr (SlR.of_owns HO.out) (by omega) (by omega))
      rw [hE] at hown
      clear HO HG HJ hE
      generalize hts : l.map tx = ts at *
      have HTS := Lib.hid hts
      clear hts
      obtain ⟨A2, c2, hv⟩ := hown.slice
      subst hv
      clear hown
      generalize hJ : joinS ts ⟨#[44]⟩ = J at *
      have HJ := Lib.hid hJ
      clear hJ
      obtain ⟨R, hR⟩ : ∃ R, (⟨#[98, 121, 116, 101, 115, 61]⟩ : ByteArray) ++ J = R := ⟨_, rfl⟩
      go_wp2_with fail
      refine HJn.out.mono ?_
      rintro e w2 ⟨rfl, b2⟩
      go_wp2_with fail
      go_ret2
      exact ⟨by rw [← hR, ← HJ.out, ← HTS.out]; rfl, belT hbel b2⟩
end Spw
end Go.Proofs.YthhhlaoiampinaaDoor
