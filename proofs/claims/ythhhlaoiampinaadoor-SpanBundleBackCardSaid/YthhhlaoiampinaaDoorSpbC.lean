/- span's Unbundle: of a bundle's text, and where the boundary is none. -/
import Derived.Test.YthhhlaoiampinaaDoorSpbA
import Derived.Test.YthhhlaoiampinaaDoorSpbB
import Derived.Test.YthhhlaoiampinaaDoorTwoOwn
import Derived.Test.YthhhlaoiampinaaDoorRegionP
import Derived.Test.YthhhlaoiampinaaDoorSpcC
namespace Go.Proofs.YthhhlaoiampinaaDoor
set_option maxRecDepth 20000
open Go.RowKit
/-- The library's variable MaxLen holds some number. -/
def HasMaxU (w : World) : Prop := (∃ m, w.cell? ⟨5, 0, none⟩ = some (.int .i64 m)) ∧ 5 < w.heap.size
theorem HasMaxU.below {w w' : World} (h : HasMaxU w) (hb : Below w.heap.size w w') : HasMaxU w' :=
  ⟨h.1.elim fun m hm => ⟨m, (hb.cell h.2).trans hm⟩, Nat.lt_of_lt_of_le h.2 hb.size⟩
namespace Spb
open Spc
theorem slcInfoU : ElemInfo Tryd.prog 31 (.agg #[.int .i64 0, .int .i64 0]) 2 16 := by unfold ElemInfo; kernel_rfl
theorem ii_oneU (l : List (Int × Int)) : ∀ u ∈ l.flatMap e_ii, u.oneCell' = true := by
  intro u hu
  obtain ⟨d, _, hd⟩ := List.mem_flatMap.1 hu
  simp only [e_ii, List.mem_cons, List.not_mem_nil, or_false] at hd
  rcases hd with rfl | rfl <;> rfl
theorem pre_isU (u r : ByteArray) (w : World) :
    Calls Tryd.prog 20 #[.string (u ++ r), .string u] w fun e w' => e = .returned (.tuple #[.string r, .bool true]) ∧ w' = w := by
  have hp : Lib.hasPrefix (u ++ r).data.toList u.data.toList = true := by
    refine List.isPrefixOf_iff_prefix.2 ⟨sl r, ?_⟩
    show _ = sl _
    rw [sl_append]; rfl
  have ht : mkS (Lib.trimPrefix (u ++ r).data.toList u.data.toList) = r := by
    refine sl_inj ?_
    unfold Lib.trimPrefix
    rw [if_pos hp, sl_mkS]
    show (sl (u ++ r)).drop (sl u).length = _
    rw [sl_append, List.drop_left' rfl]
  refine (Tryd.strings_CutPrefix _ u w).mono fun e w' ⟨he, hw⟩ => ⟨?_, hw⟩
  rw [he]
  show Ending.returned (.tuple #[.string (mkS (Lib.trimPrefix _ u.data.toList)), .bool (Lib.hasPrefix _ u.data.toList)]) = _
  rw [hp, ht]
theorem cut_isU (a r : List UInt8) (h : (13 : UInt8) ∉ a) (w : World) (hz : (mkS (a ++ [13, 10, 13, 10] ++ r)).size < 4294967281) (hm : HasMaxU w) :
    Calls Tryd.prog 21 #[.string (mkS (a ++ [13, 10, 13, 10] ++ r)), .string ⟨#[13, 10, 13, 10]⟩] w fun e w' => e = .returned (.tuple #[.string (mkS a), .string (mkS r), .bool true]) ∧ Below w.heap.size w w' := by
  obtain ⟨⟨m, hm⟩, -⟩ := hm
  refine (Tryd.strings_Cut _ ⟨#[13, 10, 13, 10]⟩ m w hz hm).mono fun e w' ⟨he, n, hw⟩ => ⟨?_, hw ▸ below_drewN (Below.refl _ _) _⟩
  have hc : Lib.cut (mkS (a ++ [13, 10, 13, 10] ++ r)).data.toList (⟨#[13, 10, 13, 10]⟩ : ByteArray).data.toList = (a, r, true) := by
    show Lib.cut (sl (mkS _)) [13, 10, 13, 10] = _
    rw [sl_mkS]; exact cut_first a r h
  rw [he, hc]; rfl
theorem unbundle_bad (bd s : ByteArray) (n : Int) (w : World) (hbd : bd.size ≤ 140737488351232) (hq : isBd bd = false) :
    Calls Tryd.prog 7 #[.string bd, .string s, .int .i64 n] w fun e w' => (∃ a b, e = .returned (.tuple #[a, b, .int .i64 3])) ∧ Below w.heap.size w w' := by
  have HB := Lib.hid (fun w' => isBoundary_any bd w' hbd)
  rw [hq] at HB
  clear hq
  go_enter Tryd.func7, Tryd.ntmps7
  go_wp2_with fail
  refine (HB.out _).mono ?_
  rintro e w' ⟨rfl, rfl⟩
  go_wp2_with fail
  go_ret3
  exact ⟨⟨_, _, rfl⟩, Below.refl _ _⟩
/-- What of the text is behind a slice's mark. -/
theorem behind {B D : List UInt8} {n : Int} {d : Int × Int} {l : List (Int × Int)} (hn : n = (D.length : Int)) (h : conB d.1 d.2 n = true) :
    (mkS (cutT D d ++ ([13, 10] ++ bunL B D n l))).extract 0 (d.2.toNat - d.1.toNat) = mkS (cutT D d) ∧
    (mkS (cutT D d ++ ([13, 10] ++ bunL B D n l))).extract (d.2.toNat - d.1.toNat) (d.2.toNat - d.1.toNat + 2) = ⟨#[13, 10]⟩ ∧
    (mkS (cutT D d ++ ([13, 10] ++ bunL B D n l))).extract (d.2.toNat - d.1.toNat + 2) (mkS (cutT D d ++ ([13, 10] ++ bunL B D n l))).size = mkS (bunL B D n l) := by
  have hl := cutT_len hn h
  rw [← hl]
  refine ⟨sl_inj ?_, sl_inj ?_, sl_inj ?_⟩
  · rw [sl_extract, sl_mkS, sl_mkS, List.drop_zero, Nat.sub_zero, List.take_left' rfl]
  · rw [sl_extract, sl_mkS, List.drop_left' rfl, Nat.add_sub_cancel_left]; rfl
  · rw [sl_extract_end, sl_mkS, sl_mkS, ← List.append_assoc, List.drop_left' (by simp)]
set_option maxHeartbeats 4000000 in
theorem unbundle_ok (bd : ByteArray) (D : List UInt8) (n : Int) (l : List (Int × Int)) (w : World) (hq : isBd bd = true) (hne : l ≠ []) (hl : l.length ≤ 20) (hn : n = (D.length : Int)) (hok : okL n l) (he : Bd.HasErr w) (hm : HasMaxU w) :
    Calls Tryd.prog 7 #[.string bd, .string (mkS (bunL (sl bd) D n l)), .int .i64 n] w fun e w' => (∃ v1 v2, e = .returned (.tuple #[v1, v2, .int .i64 0]) ∧ SlR w' e_ii v1 l ∧ SlR w' es v2 (l.map fun d => mkS (cutT D d))) ∧ Below w.heap.size w w' := by
  have hB30 : bd.size ≤ 30 := by
    unfold isBd at hq; rw [Bool.and_eq_true, decide_eq_true_iff] at hq; exact hq.2
  have HB := Lib.hid (fun w' => isBoundary_any bd w' (by omega))
  rw [hq] at HB
  have HE := Lib.hid (fun w' (hb : Below w.heap.size w w') => he.below hb)
  have HM := Lib.hid (fun w' (hb : Below w.heap.size w w') => hm.below hb)
  have HN := Lib.hid hn
  have HOk := Lib.hid hok
  have HNe := Lib.hid hne
  have HBd : Hid ((sl bd).length ≤ 30) := by show _ ≤ _; rw [sl_len]; exact hB30
  obtain ⟨P1, hP1⟩ : ∃ P1, (⟨#[45, 45]⟩ : ByteArray) ++ bd = P1 := ⟨_, rfl⟩
  obtain ⟨P2, hP2⟩ : ∃ P2, P1 ++ (⟨#[13, 10]⟩ : ByteArray) = P2 := ⟨_, rfl⟩
  obtain ⟨P3, hP3⟩ : ∃ P3, P2 ++ (⟨#[67, 111, 110, 116, 101, 110, 116, 45, 82, 97, 110, 103, 101, 58, 32]⟩ : ByteArray) = P3 := ⟨_, rfl⟩
  obtain ⟨Q1, hQ1⟩ : ∃ Q1, P1 ++ (⟨#[45, 45]⟩ : ByteArray) = Q1 := ⟨_, rfl⟩
  obtain ⟨Q2, hQ2⟩ : ∃ Q2, Q1 ++ (⟨#[13, 10]⟩ : ByteArray) = Q2 := ⟨_, rfl⟩
  have z0 : (⟨#[45, 45]⟩ : ByteArray).size = 2 := rfl
  have zc : (⟨#[13, 10]⟩ : ByteArray).size = 2 := rfl
  have z1 : P1.size ≤ 32 := by rw [← hP1, ByteArray.size_append]; omega
  have z2 : P2.size ≤ 34 := by rw [← hP2, ByteArray.size_append]; omega
  have z3 : P3.size ≤ 49 := by rw [← hP3, ByteArray.size_append]; have : (⟨#[67, 111, 110, 116, 101, 110, 116, 45, 82, 97, 110, 103, 101, 58, 32]⟩ : ByteArray).size = 15 := rfl; omega
  have z4 : Q1.size ≤ 34 := by rw [← hQ1, ByteArray.size_append]; omega
  have z5 : Q2.size ≤ 36 := by rw [← hQ2, ByteArray.size_append]; omega
  have HS3 : Hid (sl P3 = headL (sl bd)) := by show _ = _; rw [← hP3, ← hP2, ← hP1, sl_append, sl_append, sl_append]; rfl
  have HQ2 : Hid (sl Q2 = endL (sl bd)) := by show _ = _; rw [← hQ2, ← hQ1, ← hP1, sl_append, sl_append, sl_append]; rfl
  clear hq he hm hn hok hne z0 zc
  go_enter Tryd.func7, Tryd.ntmps7
  go_wp2_with fail
  refine (HB.out _).mono ?_
  rintro e w' ⟨rfl, rfl⟩
  go_wp2_with fail
  go_loopw [1, 9, 10] (fun s p t wr => ∃ k : Nat, k ≤ l.length ∧ s = .string (mkS (bunL (sl bd) D n (l.drop k))) ∧ Owns wr w'.heap.size 31 2 e_ii p (l.take k) ∧ Owns wr w'.heap.size 9 1 es t ((l.take k).map fun d => mkS (cutT D d)) ∧ Below w'.heap.size w' wr) (fun s _ _ _ => match s with | .string t => t.size | _ => 0)
  case atStart => exact ⟨0, by omega, rfl, Owns.nil .., Owns.nil .., Below.refl _ _⟩
  case round =>
    obtain ⟨k, hk, rfl, hoA, hoB, hbel⟩ := hrel
    by_cases hlt : k < l.length
    · obtain ⟨r, hr⟩ : ∃ r, l.drop k = l[k] :: r := ⟨_, List.drop_eq_getElem_cons hlt⟩
      have HDr : Hid (l.drop (k + 1) = r) := by
        show _ = _
        rw [List.drop_eq_getElem_cons hlt] at hr
        injection hr
      have HTk : Hid (l.take (k + 1) = l.take k ++ [l[k]]) := by show _ = _; rw [List.take_add_one, List.getElem?_eq_getElem hlt]; rfl
      have hcon := HOk.out l[k] (List.getElem_mem hlt)
      have hlr : r.length ≤ 20 := by have := HDr.out; rw [← this, List.length_drop]; omega
      have hokr : okL n r := fun d hd => HOk.out d (by rw [← HDr.out] at hd; exact List.mem_of_mem_drop hd)
      have hpl : (l.take k).length = k := by rw [List.length_take]; omega
      rw [hr]
      clear hr
      have HA := Lib.hid hoA
      have HBo := Lib.hid hoB
      generalize l[k] = d at *
      generalize l.take k = ps at *
      obtain ⟨x, y⟩ := d
      have hin := conB_in hcon
      obtain ⟨nx, rfl⟩ : ∃ nx : Nat, x = nx := ⟨x.toNat, by omega⟩
      obtain ⟨ny, rfl⟩ : ∃ ny : Nat, y = ny := ⟨y.toNat, by omega⟩
      have hbeh := behind (B := sl bd) (l := r) HN.out hcon
      have hcl := cutT_len HN.out hcon
      have hbl := bunL_len HN.out HBd.out hokr hlr
      have hc13 := conL_no13 hcon
      have hcs := conL_len2 hcon
      have HPa := Lib.hid (fun w2 h2 => parseC_con hcon w2 h2)
      have hne2 := bunL_ne (sl bd) D n ((nx : Int), (ny : Int)) r
      rw [bunL_cons] at hne2 ⊢
      have HTm : Hid ((ps ++ [((nx : Int), (ny : Int))]).map (fun d => mkS (cutT D d)) = ps.map (fun d => mkS (cutT D d)) ++ [mkS (cutT D ((nx : Int), (ny : Int)))]) := List.map_append ..
      simp only [Int.toNat_natCast] at hbeh hcl
      generalize conL (nx : Int) (ny : Int) n = cl at *
      generalize cutT D ((nx : Int), (ny : Int)) = ct at *
      generalize hbq : bunL (sl bd) D n r = bl at *
      have HBL := Lib.hid hbq
      clear hbq
      obtain ⟨ts, hts⟩ : ∃ ts, ps.map (fun d => mkS (cutT D d)) = ts := ⟨_, rfl⟩
      rw [hts] at HTm hoB HBo
      clear hts
      obtain ⟨N, hN⟩ : ∃ N, ny - nx = N := ⟨_, rfl⟩
      rw [hN] at hbeh hcl
      have hmk : mkS (headL (sl bd) ++ (cl ++ [13, 10, 13, 10] ++ (ct ++ ([13, 10] ++ bl)))) = P3 ++ mkS (cl ++ [13, 10, 13, 10] ++ (ct ++ ([13, 10] ++ bl))) := sl_inj (by rw [sl_append, sl_mkS, sl_mkS, HS3.out])
      have hS2 : ((mkS (headL (sl bd) ++ (cl ++ [13, 10, 13, 10] ++ (ct ++ ([13, 10] ++ bl))))).toList == Q2.toList) = false := by
        rw [beq_eq_false_iff_ne, ba_toList, ba_toList, sl_mkS, HQ2.out]
        exact hne2
      have hR1 : (mkS (cl ++ [13, 10, 13, 10] ++ (ct ++ ([13, 10] ++ bl)))).size < 4294967281 := by
        rw [mkS_size]; simp only [List.length_append, List.length_cons, List.length_nil]; omega
      have hR2 : (mkS (ct ++ ([13, 10] ++ bl))).size = N + 2 + bl.length := by
        rw [mkS_size]; simp only [List.length_append, List.length_cons, List.length_nil]; omega
      have HMe0 : Hid ((mkS bl).size < (mkS (headL (sl bd) ++ (cl ++ [13, 10, 13, 10] ++ (ct ++ ([13, 10] ++ bl))))).size) := by
        show _ < _
        rw [mkS_size, mkS_size]; simp only [List.length_append, List.length_cons, List.length_nil]; omega
      rw [hmk] at hS2 HMe0 ⊢
      have HPre := Lib.hid (fun w2 => pre_isU P3 (mkS (cl ++ [13, 10, 13, 10] ++ (ct ++ ([13, 10] ++ bl)))) w2)
      have HCut := Lib.hid (fun w2 h2 => cut_isU cl (ct ++ ([13, 10] ++ bl)) hc13 w2 hR1 h2)
      obtain ⟨hx0, hx1, hx2⟩ := hbeh
      clear hmk hne2 hc13 hR1
      generalize mkS (cl ++ [13, 10, 13, 10] ++ (ct ++ ([13, 10] ++ bl))) = R1 at *
      generalize mkS (ct ++ ([13, 10] ++ bl)) = R2 at *
      generalize hsq : mkS bl = S3 at *
      have HSQ := Lib.hid hsq
      clear hsq
      generalize mkS ct = X at *
      generalize mkS cl = T at *
      generalize P3 ++ R1 = S2 at *
      have hxs : N + 2 ≤ R2.size := by omega
      have hwn : IntKind.i64.wrap ((ny : Int) - (nx : Int)) = (N : Int) := by rw [IntWalk.i64_in _ (by omega)]; omega
      have hw2 : IntKind.i64.wrap ((N : Int) + 2) = (N : Int) + 2 := IntWalk.i64_in _ (by omega)
      have hlt2 : decide ((R2.size : Int) < (N : Int) + 2) = false := by rw [decide_eq_false_iff_not]; omega
      have htn : ((N : Int) + 2).toNat = N + 2 := by omega
      have hi1 : (N : Int) ≤ (N : Int) + 2 := by omega
      have hi2 : (N : Int) + 2 ≤ (R2.size : Int) := by omega
      have hi3 : (N : Int) ≤ (R2.size : Int) := by omega
      have hi4 : 0 ≤ (N : Int) + 2 := by omega
      have hp20 : ((ps.length : Int) == 20) = false := by rw [beq_eq_false_iff_ne]; omega
      have hps : ps.length ≤ 20 := by omega
      have htsl : ts.length ≤ 20 := by
        have h1 := congrArg List.length HTm.out
        simp only [List.length_append, List.length_map, List.length_cons, List.length_nil] at h1
        omega
      have hnn : (n != n) = false := by simp
      obtain ⟨A1, c1, hv1⟩ := hoA.slice
      obtain ⟨A2, c2, hv2⟩ := hoB.slice
      subst hv1 hv2
      have HMe := HMe0
      clear hoA hoB hcl hbl hcs hR2 hcon hokr hpl hN HMe0 hin
      go_wp2_with fail
      refine (HPre.out _).mono ?_
      rintro e w2 ⟨rfl, rfl⟩
      go_wp2_with fail
      refine (HCut.out _ (HM.out _ hbel)).mono ?_
      rintro e w3 ⟨rfl, b3⟩
      have B3 := belT hbel b3
      go_wp2_with fail
      refine (HPa.out _ (HE.out _ B3)).mono ?_
      rintro e w4 ⟨rfl, b4⟩
      have B4 := belT B3 b4
      have HAr := Lib.hid ((HA.out.below b3).below b4)
      have HBr := Lib.hid ((HBo.out.below b3).below b4)
      have hK5 := Blk.new w4 31 #[.int .i64 (nx : Int), .int .i64 (ny : Int)]
      have B5 := B4.alloc B4.size (.cells #[.int .i64 (nx : Int), .int .i64 (ny : Int)] 31)
      have b45 : Below w4.heap.size w4 (w4.alloc (.cells #[.int .i64 (nx : Int), .int .i64 (ny : Int)] 31)) := (Below.refl _ _).alloc (Nat.le_refl _) _
      clear HPre HCut HPa HA HBo
      go_wp2_with fail
      generalize w4.alloc (.cells #[.int .i64 (nx : Int), .int .i64 (ny : Int)] 31) = w5 at *
      have kd : KS w' w4.heap.size (.int .i64 (nx : Int)) (.int .i64 (ny : Int)) w5 := ⟨B5, hK5.lt, hK5.cell 0, hK5.cell 1⟩
      have HA3 := Lib.hid (HAr.out.below b45)
      have HB2 := Lib.hid (HBr.out.below b45)
      refine wp_region_plan (.take 0 (.take 1 (.take 4 (.take 5 (.take 6 (.take 7 (.two 2 (.two 3 (.eff 8 (.eff 9 (.take 10 (.take 11 .nil)))) 8 (.eff 3 (.eff 9 (.take 10 (.take 11 .nil))))) 8 (.eff 2 (.eff 3 (.eff 9 (.take 10 (.take 11 .nil)))))))))))) (KS w' w4.heap.size (.int .i64 (nx : Int)) (.int .i64 (ny : Int))) (by kernel_rfl) (by kernel_rfl) (fun _ _ _ _ _ h => h) (by kernel_rfl) (by kernel_rfl) kd.drew ?_
      iterate 6 (first | (apply seqP_skip; (focus (simp only [List.getElem?_toArray, List.getElem?_cons_succ, List.getElem?_cons_zero]; rfl)); (focus rfl); simp only [Act.put, List.setIfInBounds_toArray, List.set_cons_zero, List.set_cons_succ]) | (apply seqP_take; (focus (simp only [List.getElem?_toArray, List.getElem?_cons_succ, List.getElem?_cons_zero]; rfl)); (focus rfl); (focus (intro w' hS; obtain ⟨_, _, k0, k1⟩ := hS; first | (go_simp; rfl) | (go_simp; done))); simp only [Act.put, List.setIfInBounds_toArray, List.set_cons_zero, List.set_cons_succ]))
      apply seqP_two
      (focus (simp only [List.getElem?_toArray, List.getElem?_cons_succ, List.getElem?_cons_zero]; rfl))
      (focus (simp only [List.getElem?_toArray, List.getElem?_cons_succ, List.getElem?_cons_zero]; rfl))
      (focus rfl)
      (focus rfl)
      · intro K hK
        go_simp
        have sA : KS w' w4.heap.size (.int .i64 (nx : Int)) (.int .i64 (ny : Int)) (w5.alloc (.cells #[.int .i64 (nx : Int), .int .i64 (ny : Int)] 31)).drew := (kd.alloc _).drew
        refine hK _ _ ⟨sA, ?_⟩
        clear hK K
        have HNA := Lib.hid (SlR.lit (enc := e_ii) w5 [.int .i64 (nx : Int), .int .i64 (ny : Int)] 31 [((nx : Int), (ny : Int))] rfl).drew
        have OA := Lib.hid (HA3.out.alloc (.cells #[.int .i64 (nx : Int), .int .i64 (ny : Int)] 31)).drew
        have OB := Lib.hid (HB2.out.alloc (.cells #[.int .i64 (nx : Int), .int .i64 (ny : Int)] 31)).drew
        change Hid (SlR (w5.alloc (.cells #[.int .i64 (nx : Int), .int .i64 (ny : Int)] 31)).drew e_ii _ _) at HNA
        generalize (w5.alloc (.cells #[.int .i64 (nx : Int), .int .i64 (ny : Int)] 31)).drew = wA at *
        apply seqP_two
        (focus (simp only [List.getElem?_toArray, List.getElem?_cons_succ, List.getElem?_cons_zero]; rfl))
        (focus (simp only [List.getElem?_toArray, List.getElem?_cons_succ, List.getElem?_cons_zero]; rfl))
        (focus rfl)
        (focus rfl)
        · intro K hK
          refine wp_append_owns (.tmp 89) (.tmp 91) _ rfl w'.heap.size 31 (.agg #[.int .i64 0, .int .i64 0]) 2 16 e_ii Tryd.underlying22 slcInfoU rfl (by decide) (fun _ => rfl) _ ps rfl OA.out _ [((nx : Int), (ny : Int))] rfl HNA.out (ii_oneU _) (by simp only [maxLen, List.length_cons, List.length_nil]; omega) (by simp only [List.length_cons, List.length_nil]; omega) sA.bel.size ?_
          intro v1 wB hoA2 hgA
          have sB := sA.grown hgA (fun k hk => (OA.out.lt k hk).1) (fun e => absurd (HAr.out.lt _ e.symm).2 (Nat.lt_irrefl _))
          have OB2 := Lib.hid (OB.out.grownOther hgA (OB.out.apart OA.out (by decide)))
          have OA2 := Lib.hid hoA2
          clear hoA2 hgA
          refine hK _ _ ⟨sB, ?_⟩
          clear hK K
          apply seqP_eff
          (focus (simp only [List.getElem?_toArray, List.getElem?_cons_succ, List.getElem?_cons_zero]; rfl))
          (focus rfl)
          intro K hK
          go_simp
          have sC := sB.alloc (.cells #[.string X] 9)
          refine hK _ _ ⟨sC, ?_⟩
          clear hK K
          apply seqP_eff
          (focus (simp only [List.getElem?_toArray, List.getElem?_cons_succ, List.getElem?_cons_zero]; rfl))
          (focus rfl)
          intro K hK
          refine wp_append_owns (.tmp 93) (.tmp 97) _ rfl w'.heap.size 9 (.string ByteArray.empty) 1 16 es Tryd.underlying26 stringInfo rfl (by decide) (fun _ => rfl) _ ts rfl (OB2.out.alloc _) _ [X] rfl (SlR.lit (enc := es) wB [.string X] 9 [X] rfl) (es_one _) (by simp only [maxLen, List.length_cons, List.length_nil]; omega) (by simp only [List.length_cons, List.length_nil]; omega) sC.bel.size ?_
          intro v2 wC hoB3 hgB
          have sD := sC.grown hgB (fun k hk => (OB2.out.lt k hk).1) (fun e => absurd (HBr.out.lt _ e.symm).2 (Nat.lt_irrefl _))
          have OA3 := Lib.hid ((OA2.out.alloc (.cells #[.string X] 9)).grownOther hgB ((OA2.out.alloc (.cells #[.string X] 9)).apart (OB2.out.alloc (.cells #[.string X] 9)) (by decide)))
          have OB3 := Lib.hid hoB3
          clear hoB3 hgB
          refine hK _ _ ⟨sD, ?_⟩
          clear hK K
          iterate 2 (first | (apply seqP_skip; (focus (simp only [List.getElem?_toArray, List.getElem?_cons_succ, List.getElem?_cons_zero]; rfl)); (focus rfl); simp only [Act.put, List.setIfInBounds_toArray, List.set_cons_zero, List.set_cons_succ]) | (apply seqP_take; (focus (simp only [List.getElem?_toArray, List.getElem?_cons_succ, List.getElem?_cons_zero]; rfl)); (focus rfl); (focus (intro w' hS; skip; first | (go_simp; rfl) | (go_simp; done))); simp only [Act.put, List.setIfInBounds_toArray, List.set_cons_zero, List.set_cons_succ]))
          refine seqP_nil ?_
          go_wp2_with fail
          go_roundw
          case rel => exact ⟨k + 1, by omega, by rw [HDr.out, HBL.out, HSQ.out], by rw [HTk.out]; exact OA3.out, by rw [HTk.out, HTm.out]; exact OB3.out, sD.bel⟩
          case measure => exact HMe.out
        · intro K hK
          go_simp
          have sB := sA.alloc (.cells #[.string X] 9)
          refine hK _ _ ⟨sB, ?_⟩
          clear hK K
          apply seqP_eff
          (focus (simp only [List.getElem?_toArray, List.getElem?_cons_succ, List.getElem?_cons_zero]; rfl))
          (focus rfl)
          intro K hK
          refine wp_append_owns (.tmp 89) (.tmp 91) _ rfl w'.heap.size 31 (.agg #[.int .i64 0, .int .i64 0]) 2 16 e_ii Tryd.underlying22 slcInfoU rfl (by decide) (fun _ => rfl) _ ps rfl (OA.out.alloc _) _ [((nx : Int), (ny : Int))] rfl (HNA.out.below ((Below.refl _ wA).alloc (Nat.le_refl _) (.cells #[.string X] 9))) (ii_oneU _) (by simp only [maxLen, List.length_cons, List.length_nil]; omega) (by simp only [List.length_cons, List.length_nil]; omega) sB.bel.size ?_
          intro v1 wC hoA2 hgA
          have sC := sB.grown hgA (fun k hk => (OA.out.lt k hk).1) (fun e => absurd (HAr.out.lt _ e.symm).2 (Nat.lt_irrefl _))
          have OB2 := Lib.hid ((OB.out.alloc (.cells #[.string X] 9)).grownOther hgA ((OB.out.alloc (.cells #[.string X] 9)).apart (OA.out.alloc (.cells #[.string X] 9)) (by decide)))
          have HNB := Lib.hid ((SlR.lit (enc := es) wA [.string X] 9 [X] rfl).grown hgA (fun e => absurd (OA.out.lt _ e.symm).2 (Nat.lt_irrefl _)))
          have OA2 := Lib.hid hoA2
          clear hoA2 hgA
          refine hK _ _ ⟨sC, ?_⟩
          clear hK K
          apply seqP_eff
          (focus (simp only [List.getElem?_toArray, List.getElem?_cons_succ, List.getElem?_cons_zero]; rfl))
          (focus rfl)
          intro K hK
          refine wp_append_owns (.tmp 93) (.tmp 97) _ rfl w'.heap.size 9 (.string ByteArray.empty) 1 16 es Tryd.underlying26 stringInfo rfl (by decide) (fun _ => rfl) _ ts rfl OB2.out _ [X] rfl HNB.out (es_one _) (by simp only [maxLen, List.length_cons, List.length_nil]; omega) (by simp only [List.length_cons, List.length_nil]; omega) sC.bel.size ?_
          intro v2 wD hoB3 hgB
          have sD := sC.grown hgB (fun k hk => (OB2.out.lt k hk).1) (fun e => absurd (HBr.out.lt _ e.symm).2 (Nat.lt_irrefl _))
          have OA3 := Lib.hid (OA2.out.grownOther hgB (OA2.out.apart OB2.out (by decide)))
          have OB3 := Lib.hid hoB3
          clear hoB3 hgB
          refine hK _ _ ⟨sD, ?_⟩
          clear hK K
          iterate 2 (first | (apply seqP_skip; (focus (simp only [List.getElem?_toArray, List.getElem?_cons_succ, List.getElem?_cons_zero]; rfl)); (focus rfl); simp only [Act.put, List.setIfInBounds_toArray, List.set_cons_zero, List.set_cons_succ]) | (apply seqP_take; (focus (simp only [List.getElem?_toArray, List.getElem?_cons_succ, List.getElem?_cons_zero]; rfl)); (focus rfl); (focus (intro w' hS; skip; first | (go_simp; rfl) | (go_simp; done))); simp only [Act.put, List.setIfInBounds_toArray, List.set_cons_zero, List.set_cons_succ]))
          refine seqP_nil ?_
          go_wp2_with fail
          go_roundw
          case rel => exact ⟨k + 1, by omega, by rw [HDr.out, HBL.out, HSQ.out], by rw [HTk.out]; exact OA3.out, by rw [HTk.out, HTm.out]; exact OB3.out, sD.bel⟩
          case measure => exact HMe.out
      · intro K hK
        go_simp
        have sA : KS w' w4.heap.size (.int .i64 (nx : Int)) (.int .i64 (ny : Int)) (w5.alloc (.cells #[.string X] 9)).drew := (kd.alloc _).drew
        refine hK _ _ ⟨sA, ?_⟩
        clear hK K
        have HNB := Lib.hid (SlR.lit (enc := es) w5 [.string X] 9 [X] rfl).drew
        have OA := Lib.hid (HA3.out.alloc (.cells #[.string X] 9)).drew
        have OB := Lib.hid (HB2.out.alloc (.cells #[.string X] 9)).drew
        change Hid (SlR (w5.alloc (.cells #[.string X] 9)).drew es _ _) at HNB
        generalize (w5.alloc (.cells #[.string X] 9)).drew = wA at *
        apply seqP_eff
        (focus (simp only [List.getElem?_toArray, List.getElem?_cons_succ, List.getElem?_cons_zero]; rfl))
        (focus rfl)
        intro K hK
        go_simp
        have sB := sA.alloc (.cells #[.int .i64 (nx : Int), .int .i64 (ny : Int)] 31)
        refine hK _ _ ⟨sB, ?_⟩
        clear hK K
        apply seqP_eff
        (focus (simp only [List.getElem?_toArray, List.getElem?_cons_succ, List.getElem?_cons_zero]; rfl))
        (focus rfl)
        intro K hK
        refine wp_append_owns (.tmp 89) (.tmp 91) _ rfl w'.heap.size 31 (.agg #[.int .i64 0, .int .i64 0]) 2 16 e_ii Tryd.underlying22 slcInfoU rfl (by decide) (fun _ => rfl) _ ps rfl (OA.out.alloc _) _ [((nx : Int), (ny : Int))] rfl (SlR.lit (enc := e_ii) wA [.int .i64 (nx : Int), .int .i64 (ny : Int)] 31 [((nx : Int), (ny : Int))] rfl) (ii_oneU _) (by simp only [maxLen, List.length_cons, List.length_nil]; omega) (by simp only [List.length_cons, List.length_nil]; omega) sB.bel.size ?_
        intro v1 wC hoA2 hgA
        have sC := sB.grown hgA (fun k hk => (OA.out.lt k hk).1) (fun e => absurd (HAr.out.lt _ e.symm).2 (Nat.lt_irrefl _))
        have OB2 := Lib.hid ((OB.out.alloc (.cells #[.int .i64 (nx : Int), .int .i64 (ny : Int)] 31)).grownOther hgA ((OB.out.alloc (.cells #[.int .i64 (nx : Int), .int .i64 (ny : Int)] 31)).apart (OA.out.alloc (.cells #[.int .i64 (nx : Int), .int .i64 (ny : Int)] 31)) (by decide)))
        have HNB2 := Lib.hid ((HNB.out.below ((Below.refl _ wA).alloc (Nat.le_refl _) (.cells #[.int .i64 (nx : Int), .int .i64 (ny : Int)] 31))).grown hgA (fun e => absurd (HA3.out.lt _ e.symm).2 (Nat.lt_irrefl _)))
        have OA2 := Lib.hid hoA2
        clear hoA2 hgA
        refine hK _ _ ⟨sC, ?_⟩
        clear hK K
        apply seqP_eff
        (focus (simp only [List.getElem?_toArray, List.getElem?_cons_succ, List.getElem?_cons_zero]; rfl))
        (focus rfl)
        intro K hK
        refine wp_append_owns (.tmp 93) (.tmp 97) _ rfl w'.heap.size 9 (.string ByteArray.empty) 1 16 es Tryd.underlying26 stringInfo rfl (by decide) (fun _ => rfl) _ ts rfl OB2.out _ [X] rfl HNB2.out (es_one _) (by simp only [maxLen, List.length_cons, List.length_nil]; omega) (by simp only [List.length_cons, List.length_nil]; omega) sC.bel.size ?_
        intro v2 wD hoB3 hgB
        have sD := sC.grown hgB (fun k hk => (OB2.out.lt k hk).1) (fun e => absurd (HBr.out.lt _ e.symm).2 (Nat.lt_irrefl _))
        have OA3 := Lib.hid (OA2.out.grownOther hgB (OA2.out.apart OB2.out (by decide)))
        have OB3 := Lib.hid hoB3
        clear hoB3 hgB
        refine hK _ _ ⟨sD, ?_⟩
        clear hK K
        iterate 2 (first | (apply seqP_skip; (focus (simp only [List.getElem?_toArray, List.getElem?_cons_succ, List.getElem?_cons_zero]; rfl)); (focus rfl); simp only [Act.put, List.setIfInBounds_toArray, List.set_cons_zero, List.set_cons_succ]) | (apply seqP_take; (focus (simp only [List.getElem?_toArray, List.getElem?_cons_succ, List.getElem?_cons_zero]; rfl)); (focus rfl); (focus (intro w' hS; skip; first | (go_simp; rfl) | (go_simp; done))); simp only [Act.put, List.setIfInBounds_toArray, List.set_cons_zero, List.set_cons_succ]))
        refine seqP_nil ?_
        go_wp2_with fail
        go_roundw
        case rel => exact ⟨k + 1, by omega, by rw [HDr.out, HBL.out, HSQ.out], by rw [HTk.out]; exact OA3.out, by rw [HTk.out, HTm.out]; exact OB3.out, sD.bel⟩
        case measure => exact HMe.out
    · have hk0 : k = l.length := by omega
      have hE2 : mkS (bunL (sl bd) D n (l.drop k)) = Q2 := by
        rw [hk0, List.drop_length, bunL_nil]
        exact sl_inj (by rw [sl_mkS, HQ2.out])
      have hE3 : l.take k = l := List.take_of_length_le (by omega)
      rw [hE2]
      rw [hE3] at hoA hoB
      have hqq : (Q2.toList == Q2.toList) = true := beq_self_eq_true _
      have HAg := Lib.hid (agree_any _ _ l (l.map fun d => mkS (cutT D d)) D n wr (SlR.of_owns hoA) (SlR.of_owns hoB) (List.length_map ..) hl HN.out HOk.out (fun i h => by rw [List.getElem_map, sl_mkS]))
      have HSA := Lib.hid (SlR.of_owns hoA)
      have HSB := Lib.hid (SlR.of_owns hoB)
      have hl0 : ((l.length : Int) == 0) = false := by rw [beq_eq_false_iff_ne]; intro e; exact HNe.out (List.eq_nil_of_length_eq_zero (by omega))
      clear hk0 hE2 hE3 hlt
      obtain ⟨A1, c1, hv1⟩ := hoA.slice
      subst hv1
      obtain ⟨ts, hts⟩ : ∃ ts, (l.map fun d => mkS (cutT D d)) = ts := ⟨_, rfl⟩
      have HTs := Lib.hid hts
      rw [hts] at HSB hoB
      clear hts hoA hoB
      go_wp2_with fail
      refine HAg.out.mono ?_
      rintro e w9 ⟨rfl, b9⟩
      go_wp2_with fail
      go_ret3
      exact ⟨⟨_, _, rfl, HSA.out.below b9, by rw [HTs.out]; exact HSB.out.below b9⟩, belT hbel b9⟩
end Spb
end Go.Proofs.YthhhlaoiampinaaDoor
