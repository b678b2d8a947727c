/- ChunkSplits: into whatever pieces a text comes, it is cut at the same places. -/
import Derived.Test.YtnobcehiahcfkaaCkW
import Derived.Test.YtnobcehiahcfkaaEqStr
namespace Go.Proofs.Ytnobcehiahcfkaa
set_option maxRecDepth 20000
open Go.RowKit Go.Shelf
theorem take_flat {l : List ByteArray} {k : Nat} (h : k < l.length) : ((l.take (k + 1)).map sl).flatten = ((l.take k).map sl).flatten ++ sl l[k] := by
  rw [List.take_add_one, List.getElem?_eq_getElem h, Option.toList_some, List.map_append, List.flatten_append]
  simp only [List.map_cons, List.map_nil, List.flatten_cons, List.flatten_nil, List.append_nil]
theorem flat_sum : ∀ (l : List ByteArray), ((l.map sl).flatten).length ≤ (l.map (fun s => s.size + 1)).sum
  | [] => by simp
  | x :: l => by
    have := flat_sum l
    simp only [List.map_cons, List.flatten_cons, List.length_append, List.sum_cons, sl_len]
    omega
theorem sum_take (l : List ByteArray) (k : Nat) (h : k < l.length) : ((l.take k).map (fun s => s.size + 1)).sum + (l[k].size + 1) ≤ (l.map (fun s => s.size + 1)).sum := by
  conv => rhs; rw [← List.take_append_drop k l, List.map_append, List.sum_append]
  rw [List.drop_eq_getElem_cons h, List.map_cons, List.sum_cons]
  omega
set_option maxHeartbeats 1600000 in
theorem chunkSplits_walk (v : Value) (l : List ByteArray) (w : World) (h : SlR w es v l) (hs : (l.map (fun s => s.size + 1)).sum ≤ 1048576) :
    Calls Try.prog 6 #[v] w fun e w' => e = .returned (.bool true) ∧ Below w.heap.size w w' := by
  have hlen : l.length ≤ 1048576 := Nat.le_trans (sum_len _ (fun _ => by omega) l) hs
  have HT := Lib.hid h
  obtain ⟨A, c, rfl, hc, hA⟩ := h
  have hfs := flat_sum l
  have HF := Lib.hid (Nat.le_trans hfs hs)
  have HSUM := Lib.hid (fun (k : Nat) (hk : k < l.length) => Nat.le_trans (Nat.add_le_add_right (flat_sum (l.take k)) (l[k].size + 1)) (Nat.le_trans (sum_take l k hk) hs))
  clear hfs
  go_enter Try.func6, Try.ntmps6
  go_wp2_with fail
  refine (newC_any _).mono ?_
  rintro e w1 ⟨rfl, hc1, b1, z1⟩
  go_wp2_with fail
  refine (cut_x_any w1).mono ?_
  rintro e w2 ⟨⟨A', c', rfl⟩, b2⟩
  have hc2 := hc1.kt (Nat.le_refl _) b2
  have bB := b1.trans (b2.mono b1.size)
  have hz2 : w.heap.size + 1 ≤ w2.heap.size := by rw [← z1]; exact b2.size
  have HC := Lib.hid hc2
  clear hc1 hc2
  go_wp2_with fail
  go_loopw [4, 17] (fun g i wr => ∃ k : Nat, i = .int .i64 k ∧ k ≤ l.length ∧ Owns wr w2.heap.size 9 1 es g ((Pc.cuts gear 0 [] ((l.take k).map sl).flatten).1.map mkS) ∧ Cutter wr w.heap.size w.heap.size (Pc.cuts gear 0 [] ((l.take k).map sl).flatten).2.1 (Pc.cuts gear 0 [] ((l.take k).map sl).flatten).2.2 ∧ Below w.heap.size w wr ∧ w2.heap.size ≤ wr.heap.size) (fun _ i _ => l.length - (intOf i).toNat)
  case atStart => exact ⟨0, rfl, Nat.zero_le _, Owns.nil .., HC.out, bB, Nat.le_refl _⟩
  case round =>
    obtain ⟨k, rfl, hk, hog, hcu, hbel, hsz⟩ := hrel
    have HFL := Lib.hid (flat_ge _ (Pc.cuts_sizes gear 0 [] ((l.take k).map sl).flatten (by decide)).1)
    have HLN := Lib.hid (congrArg List.length (Pc.cuts_flat gear 0 [] ((l.take k).map sl).flatten))
    have HSM := Lib.hid (Pc.cuts_sum gear 0 [] ((l.take k).map sl).flatten (by decide))
    have HSZ := Lib.hid (Pc.cuts_sizes gear 0 [] ((l.take k).map sl).flatten (by decide)).2
    by_cases hlt : k < l.length
    · obtain ⟨b, off, c2, hv, hc2, hb, hcell⟩ := HT.out.texts (by omega)
      injection hv with h1 h2 h3
      subst h1 h3
      have c0 := (hbel.cell (p := ⟨b, off + k, none⟩) hb).trans (hcell k hlt)
      have HTF := Lib.hid (take_flat hlt)
      have HCA := Lib.hid (Pc.cuts_append gear 0 [] ((l.take k).map sl).flatten (sl l[k]))
      have HSK := Lib.hid (HSUM.out k hlt)
      clear hcell h2 hA hc2
      generalize l[k] = s at *
      generalize ((l.take k).map sl).flatten = t at *
      generalize Pc.cuts gear 0 [] t = q at *
      obtain ⟨P, S, r⟩ := q
      dsimp only at hog hcu
      have hrl : r.length + s.size + P.flatten.length ≤ 1048576 := by
        have h1 := HLN.out
        have h2 := HSK.out
        simp only [List.length_append, List.length_nil, Nat.zero_add] at h1
        omega
      have hpl : (P.length + (Pc.cuts gear S r (sl s)).1.length) * 16 ≤ 16777216 := by
        have h1 := HFL.out
        have h2 := flat_ge _ (Pc.cuts_sizes gear S r (sl s) HSZ.out).1
        have h3 := congrArg List.length (Pc.cuts_flat gear S r (sl s))
        simp only [List.length_append, sl_len] at h3
        dsimp only at h1
        omega
      have HOG := Lib.hid hog
      have HCU := Lib.hid hcu
      clear hog hcu
      go_wp2_with fail
      refine (write_any _ _ S r s wr HCU.out (Nat.le_refl _) HSM.out HSZ.out (by omega)).mono ?_
      rintro e w3 ⟨v3, rfl, ho3, hc3, k3⟩
      have hoA := HOG.out.ktS k3
      have bA := hbel.trans (k3.below (Nat.le_trans bB.size hsz))
      have hml : (P.map mkS).length = P.length := List.length_map ..
      have hml2 : ((Pc.cuts gear S r (sl s)).1.map mkS).length = (Pc.cuts gear S r (sl s)).1.length := List.length_map ..
      have HNEW := Lib.hid (SlR.of_owns ho3)
      have HA3 := Lib.hid hoA
      have HC3 := Lib.hid hc3
      have hsz3 : w2.heap.size ≤ w3.heap.size := Nat.le_trans hsz k3.size
      clear ho3 hoA hc3 k3
      go_wp2_with (at_builtin; go_must (refine wpList_append_slr rfl (.tmp 21) (.tmp 24) _ rfl w2.heap.size 9 (.string ByteArray.empty) 1 16 es Try.underlying24 stringInfo rfl (by decide) (fun _ => rfl) _ _ rfl HA3.out _ _ rfl HNEW.out (es_one _) (by rw [hml, hml2]; simp only [maxLen]; omega) (by rw [hml, hml2]; omega) hsz3 ?_); intro v4 w4 hown hgrow)
      go_roundw
      case rel =>
        refine ⟨k + 1, by go_num, hlt, ?_, ?_, bA.grown hgrow bA.size (fun j hj => Nat.le_trans bB.size (HA3.out.lt j hj).1), Nat.le_trans hsz3 hgrow.size⟩
        · rw [HTF.out, HCA.out]
          dsimp only
          rw [List.map_append]
          exact hown
        · rw [HTF.out, HCA.out]
          exact HC3.out.kept hgrow (fun j hj => (HA3.out.notT j hj).2)
      case measure => exact meas_lt hlt
    · have hE : l.take k = l := List.take_of_length_le (by omega)
      rw [hE] at hog hcu HFL HLN
      have hcl := cut_count (l.map sl).flatten (Nat.le_trans HF.out (by decide))
      have HCT : Hid ((Pc.cut gear (l.map sl).flatten).map mkS = (Pc.cuts gear 0 [] (l.map sl).flatten).1.map mkS ++ (Pc.tl (Pc.cuts gear 0 [] (l.map sl).flatten).2.2).map mkS) := List.map_append ..
      have HCL := Lib.hid (cut_len (l.map sl).flatten (Nat.le_trans HF.out (by decide)))
      have hxl : (((Pc.cuts gear 0 [] (l.map sl).flatten).1.map mkS).length + ((Pc.tl (Pc.cuts gear 0 [] (l.map sl).flatten).2.2).map mkS).length) * 16 ≤ 140737488355328 := by
        rw [List.length_map, List.length_map]; exact HCL.out
      have HTX := HT.out.below (hbel.mono (by exact Nat.le_refl _))
      have HOG := Lib.hid hog
      have HCU := Lib.hid hcu
      have HTR := Lib.hid HTX
      clear hog hcu hcl HTX
      go_wp2_with fail
      refine (endC_any _ _ _ _ wr HCU.out (Nat.le_refl _)).mono ?_
      rintro e w3 ⟨v3, rfl, ho3, hc3, k3⟩
      have hoA := HOG.out.ktS k3
      have bA := hbel.trans (k3.below (Nat.le_trans bB.size hsz))
      have HNEW := Lib.hid (SlR.of_owns ho3)
      have HA3 := Lib.hid hoA
      have HC3 := Lib.hid hc3
      have hsz3 : w2.heap.size ≤ w3.heap.size := Nat.le_trans hsz k3.size
      clear ho3 hoA hc3 k3
      go_wp2_with (at_builtin; go_must (refine wpList_append_slr rfl (.tmp 27) (.tmp 29) _ rfl w2.heap.size 9 (.string ByteArray.empty) 1 16 es Try.underlying24 stringInfo rfl (by decide) (fun _ => rfl) _ _ rfl HA3.out _ _ rfl HNEW.out (es_one _) (by simp only [maxLen]; omega) hxl hsz3 ?_); intro v4 w4 hown hgrow)
      have hb4 := bA.grown hgrow bA.size (fun j hj => Nat.le_trans bB.size (HA3.out.lt j hj).1)
      have hc4 := HC3.out.kept hgrow (fun j hj => (HA3.out.notT j hj).2)
      rw [← HCT.out] at hown
      have hcc := cut_count (l.map sl).flatten (Nat.le_trans HF.out (by decide))
      have hsz4 : w2.heap.size ≤ w4.heap.size := Nat.le_trans hsz3 hgrow.size
      have HL4 := Lib.hid (HT.out.below hb4)
      have HO4 := Lib.hid hown
      have HC4 := Lib.hid hc4
      have hj : joinS l ByteArray.empty = mkS (l.map sl).flatten := by unfold joinS; rw [joinL_flat]
      clear hown hgrow hc4 HNEW HA3 HC3 HTR HOG HCU HCT HCL hxl HFL HLN HSM HSZ
      refine (join_any _ l ByteArray.empty w4 HL4.out (by omega) (by rw [joinL_flat]; exact Nat.le_trans HF.out (by decide))).mono ?_
      rintro e w5 ⟨rfl, b5⟩
      rw [hj]
      go_wp2_with fail
      refine (cut_any (mkS (l.map sl).flatten) w5 (by rw [mkS_size]; exact Nat.le_trans HF.out (by decide))).mono ?_
      rintro e w6 ⟨v6, rfl, ho6, b6⟩
      rw [sl_mkS] at ho6
      have b56 := b5.trans (b6.mono b5.size)
      have HR1 := Lib.hid ((SlR.of_owns HO4.out).below b56)
      have HR2 := Lib.hid (SlR.of_owns ho6)
      have HC6 := Lib.hid (HC4.out.kt (Nat.le_refl _) b56)
      have B6 := hb4.trans (b56.mono hb4.size)
      clear ho6 b5 b6
      go_wp2_with fail
      refine (eqStr_any v4 v6 _ _ w6 HR1.out HR2.out (by rw [List.length_map]; omega) (by rw [List.length_map]; omega)).mono ?_
      rintro e w7 ⟨rfl, rfl⟩
      have hT : SameTexts ((Pc.cut gear (l.map sl).flatten).map mkS) ((Pc.cut gear (l.map sl).flatten).map mkS) = true := decide_eq_true rfl
      rw [hT]
      go_wp2_with fail
      refine (endC_any _ _ _ _ w6 HC6.out (Nat.le_refl _)).mono ?_
      rintro e w8 ⟨v8, rfl, ho8, hc8, k8⟩
      obtain ⟨A8, c8, hv8⟩ := ho8.slice
      have hl8 : ((Pc.tl []).map mkS).length = 0 := rfl
      rw [hl8] at hv8
      subst hv8
      have B8 := B6.trans (k8.below (Nat.le_trans B6.size (Nat.le_refl _)))
      clear ho8 hc8 k8
      go_wp2_with fail
      go_ret
      exact ⟨rfl, B8⟩
end Go.Proofs.Ytnobcehiahcfkaa
