/- What span's Merge computes. -/
import Derived.Test.YthhhlaoiampinaaMrgS
import Derived.Test.YthhhlaoiampinaaRegionL
import Derived.IntWalk
namespace Go.Proofs.Ythhhlaoiampinaa
set_option maxRecDepth 20000
open Go.RowKit
namespace Mrg
theorem mrgL_snoc (l : List (Int × Int)) {k : Nat} (h : k < l.length) : mrgL (l.take (k + 1)) = addM (mrgL (l.take k)) l[k] := by
  unfold mrgL; rw [List.take_add_one, List.getElem?_eq_getElem h, List.foldl_append]; rfl
theorem addM_len (o : List (Int × Int)) (s : Int × Int) : (addM o s).length ≤ o.length + 1 := by
  rcases List.eq_nil_or_concat o with rfl | ⟨i, x, rfl⟩
  · simp [addM_nil]
  · rw [List.concat_eq_append]
    by_cases h : s.1 ≤ x.2
    · rw [addM_in h]; simp
    · rw [addM_out h]; simp
theorem mrgL_len (l : List (Int × Int)) : (mrgL l).length ≤ l.length := by
  have key : ∀ (l o : List (Int × Int)), (l.foldl addM o).length ≤ o.length + l.length := by
    intro l
    induction l with
    | nil => intro o; simp
    | cons s l ih => intro o; have h1 := ih (addM o s); have h2 := addM_len o s; rw [List.foldl_cons, List.length_cons]; omega
  have := key l []
  show (l.foldl addM []).length ≤ _
  simpa using this
theorem set_eq {l : List Value} {i : Nat} {u : Value} (h : l[i]? = some u) : l.set i u = l := by
  apply List.ext_getElem?
  intro j
  rw [List.getElem?_set]
  split
  · rename_i hij; subst hij
    split
    · exact h.symm
    · rename_i hl; rw [List.getElem?_eq_none (by omega)] at h; cases h
  · rfl
theorem put_second {w : World} {base g n cap : Nat} {i : List (Int × Int)} {x : Int × Int} (m : Int) (h : Owns w base 26 2 e_ii (.slice (some ⟨g, 0, none⟩) n cap) (i ++ [x])) :
    Owns (w.setCell ⟨g, i.length * 2 + 1, none⟩ (.int .i64 m)) base 26 2 e_ii (.slice (some ⟨g, 0, none⟩) n cap) (i ++ [(x.1, m)]) := by
  obtain ⟨hb, rfl, hn, hm, cur, hh, hs, ht⟩ := h.row
  have hset : (i ++ [x]).set i.length (x.1, m) = i ++ [(x.1, m)] := by rw [List.set_append_right _ _ (Nat.le_refl _)]; simp
  have h0 : ((i ++ [x]).flatMap e_ii)[i.length * 2]? = some (.int .i64 x.1) := by
    have := flat2 (en := e_ii) (fun _ => rfl) (i ++ [x]) i.length 0 x (.int .i64 x.1) (by simp) (by omega) rfl
    exact this
  have := Owns.of_row (w := w.setCell ⟨g, i.length * 2 + 1, none⟩ (.int .i64 m)) (e := 26) (xs := (i ++ [x]).set i.length (x.1, m)) (en := e_ii) (cap := cap) (size := 2) (fun _ => rfl) hb (by rw [List.length_set]; exact hn) hm (hh.set_ (i.length * 2 + 1) (.int .i64 m)) (by simpa using hs) (by
    rw [← flat2_set (fun _ => rfl) (i ++ [x]) i.length (x.1, m) (.int .i64 x.1) (.int .i64 m) rfl (by simp), set_eq h0, ← ht]
    simp only [Array.toList_setIfInBounds, List.length_set]
    rw [List.take_set])
  rw [List.length_set] at this
  rwa [hset] at this
set_option maxHeartbeats 2000000 in
theorem merge_any (v : Value) (l : List (Int × Int)) (w : World) (h : SlR w e_ii v l) (hl : l.length * 16 ≤ 140737488355328) :
    Calls Try.prog 7 #[v] w fun e w' => (∃ u m, e = .returned u ∧ Owns w' w.heap.size 26 2 e_ii u m ∧ MergedOf l m) ∧ Below w.heap.size w w' := by
  have HCl := Lib.hid (cloneSlc_any v l w h hl)
  have HDe := Lib.hid (fun u w1 (o : Owns w1 w.heap.size 26 2 e_ii u l) => deleteSlc_any u l w.heap.size w1 o (by omega))
  have hkl : (keepG l).length ≤ l.length := List.length_filter_le _ _
  have HSo := Lib.hid (fun u w1 (o : Owns w1 w.heap.size 26 2 e_ii u (keepG l)) => sortSlc_any u (keepG l) w.heap.size w1 o (by omega))
  have HMg : Hid (∀ d : List (Int × Int), d.Perm (keepG l) → d.Pairwise (fun a b => a.1 ≤ b.1) → MergedOf l (mrgL d) ∧ d.length ≤ l.length) := fun d hp hs => ⟨merged hp hs, by have := hp.length_eq; omega⟩
  unfold mfn at HDe
  clear h hkl
  go_enter Try.func7, Try.ntmps7
  go_wp2_with fail
  refine HCl.out.mono ?_
  rintro e w1 ⟨⟨u1, rfl, o1⟩, b1⟩
  go_wp2_with fail
  refine (HDe.out u1 w1 o1).mono ?_
  rintro e w2 ⟨⟨u2, rfl, o2⟩, g2⟩
  have b2 := b1.grown g2 b1.size (fun k hk => (o1.lt k hk).1)
  go_wp2_with fail
  refine (HSo.out u2 w2 o2).mono ?_
  rintro e w3 ⟨rfl, ⟨d, hp, hs, o3⟩, g3⟩
  have b3 := b2.grown g3 b2.size (fun k hk => (o2.lt k hk).1)
  obtain ⟨hmg, hdl⟩ := HMg.out d hp hs
  have HF := Lib.hid hmg
  have HR := Lib.hid (SlR.of_owns o3)
  have HB := Lib.hid b3
  obtain ⟨A, c, hu⟩ := o3.slice
  subst hu
  clear HMg hp hs hmg o1 o2 g2 g3 b1 b2 HCl HDe HSo o3 b3
  have hdl2 : (d.length + 1) * 16 ≤ 140737488355344 := by omega
  go_wp2_with fail
  go_loopw [3, 14] (fun o i wr => ∃ k : Nat, k ≤ d.length ∧ i = .int .i64 k ∧ Owns wr w3.heap.size 26 2 e_ii o (mrgL (d.take k)) ∧ Below w3.heap.size w3 wr) (fun _ i _ => d.length - (intOf i).toNat)
  case atStart => exact ⟨0, by omega, rfl, Owns.nil .., Below.refl _ _⟩
  case round =>
    obtain ⟨k, hk, rfl, hown, hbel⟩ := hrel
    have HO := Lib.hid hown
    by_cases hlt : k < d.length
    · obtain ⟨b, off, c', he, hbb, hcell⟩ := HR.out.two (fun _ => rfl) (by omega)
      obtain ⟨rfl, rfl⟩ : A = some ⟨b, off, none⟩ ∧ c = c' := by injection he with h1 h2 h3; exact ⟨h1, h3⟩
      obtain ⟨q0, q1⟩ := hcell k hlt (.int .i64 d[k].1) (.int .i64 d[k].2) rfl rfl
      have c0 := (hbel.cell (p := ⟨b, off + k * 2, none⟩) hbb).trans q0
      have c1 := (hbel.cell (p := ⟨b, off + k * 2 + 1, none⟩) hbb).trans q1
      have HT := Lib.hid (mrgL_snoc d hlt)
      have hml := mrgL_len (d.take k)
      rw [List.length_take, Nat.min_eq_left hk] at hml
      clear hcell q0 q1 he hown
      generalize mrgL (d.take k) = ms at *
      generalize d[k] = s at *
      obtain ⟨f, t⟩ := s
      dsimp only at c0 c1 HT
      have HB0 := hbel.alloc hbel.size (.cells #[.int .i64 f, .int .i64 t] 26)
      have HOA := Lib.hid (HO.out.alloc (.cells #[.int .i64 f, .int .i64 t] 26))
      have HK := Blk.new wr 26 #[.int .i64 f, .int .i64 t]
      have HSz := HB0.size
      rcases List.eq_nil_or_concat ms with rfl | ⟨i, x, rfl⟩
      · rw [addM_nil] at HT
        obtain ⟨A2, c2, hv⟩ : ∃ A2 c2, _ = Value.slice A2 0 c2 := HO.out.slice
        subst hv
        go_wp2_with fail
        generalize wr.alloc (.cells #[.int .i64 f, .int .i64 t] 26) = wa at *
        have k0 := HK.cell 0
        have k1 := HK.cell 1
        refine wp_region_seq [(true, 0), (true, 1), (true, 2), (true, 3), (true, 4), (true, 5), (true, 6), (true, 7), (true, 8), (true, 9), (true, 10), (true, 11)] (fun w' => w' = wa.drew) (by kernel_rfl) (by kernel_rfl) (fun _ _ _ _ _ h => h) (by kernel_rfl) (by kernel_rfl) ?_ ?_
        · rfl
        iterate 12 (first | (apply seqH_skip; (focus (simp only [List.getElem?_toArray, List.getElem?_cons_succ, List.getElem?_cons_zero]; rfl)); (focus rfl); simp only [Act.put, List.setIfInBounds_toArray, List.set_cons_zero, List.set_cons_succ]) | (apply seqH_take; (focus (simp only [List.getElem?_toArray, List.getElem?_cons_succ, List.getElem?_cons_zero]; rfl)); (focus rfl); (focus (intro w' hS; subst hS; first | (go_simp; rfl) | (go_simp; done))); simp only [Act.put, List.setIfInBounds_toArray, List.set_cons_zero, List.set_cons_succ]) | (apply seqH_pass; (focus (simp only [List.getElem?_toArray, List.getElem?_cons_succ, List.getElem?_cons_zero]; rfl)); (focus rfl); (focus assumption); simp only [Act.put, List.setIfInBounds_toArray, List.set_cons_zero, List.set_cons_succ]))
        refine seqH_nil ?_
        clear k0 k1
        replace HK := HK.drew
        replace HOA := Lib.hid HOA.out.drew
        replace HB0 := HB0.drew
        replace HSz : w3.heap.size ≤ wa.drew.heap.size := HSz
        generalize wa.drew = wb at *
        have k0 := HK.cell 0
        have k1 := HK.cell 1
        go_wp2_with (at_builtin; go_must (refine wpList_append_owns rfl (.tmp 45) (.tmp 47) _ rfl w3.heap.size 26 (.agg #[.int .i64 0, .int .i64 0]) 2 16 e_ii Try.underlying22 slcInfoB rfl (by decide) _ [] rfl (HOA.out.alloc _) ⟨_, 0, none⟩ 1 1 [(f, t)] rfl rfl rfl (new_cells _ [.int .i64 f, .int .i64 t] _) (ii_oneB [_]) (by simp only [List.length_nil, maxLen]; omega) (by simp only [List.length_nil]; omega) (Nat.le_trans HSz (le_alloc _ _)) ?_); intro v3 w4 hown3 hg3)
        go_roundw
        case rel => exact ⟨k + 1, by omega, by go_num, by rw [HT.out]; exact hown3, (HB0.alloc HB0.size _).grown hg3 (Nat.le_trans HB0.size (le_alloc _ _)) (fun k hk => (HOA.out.lt k hk).1)⟩
        case measure => simp [intOf]; omega
      · rw [List.concat_eq_append] at HT HO HOA hml
        have hil : (i ++ [x]).length = i.length + 1 := by simp
        rw [hil] at hml
        obtain ⟨A2, c2, hv⟩ : ∃ A2 c2, _ = Value.slice A2 (i.length + 1) c2 := by rw [← hil]; exact HO.out.slice
        subst hv
        obtain ⟨g, cap, hv⟩ : ∃ g cap, Value.slice A2 (i.length + 1) c2 = Value.slice (some ⟨g, 0, none⟩) (i.length + 1) cap := by
          rcases HO.out.form with ⟨_, h0⟩ | ⟨g, cap, h0⟩
          · exact absurd h0 (by simp)
          · rw [hil] at h0; exact ⟨g, cap, h0⟩
        rw [hv] at HO HOA
        injection hv with hv1 _ hv3
        subst hv1 hv3
        have hw1 : IntKind.i64.wrap (((i.length : Nat) : Int) + 1 - 1) = (i.length : Int) := by rw [IntWalk.i64_in _ (by omega)]; omega
        have hge : decide ((0 : Int) ≤ (i.length : Int)) = true := by rw [decide_eq_true_iff]; omega
        have hcs := HOA.out.cells2 (fun _ => rfl) i.length (by simp) (.int .i64 x.1) (.int .i64 x.2) (by simp; rfl) (by simp; rfl)
        have hlx : (i.length : Int) < (i.length : Int) + 1 := by omega
        go_wp2_with fail
        generalize wr.alloc (.cells #[.int .i64 f, .int .i64 t] 26) = wa at *
        have k0 := HK.cell 0
        have k1 := HK.cell 1
        obtain ⟨p0, p1, r0, r1⟩ := hcs
        by_cases hle : f ≤ x.2
        · have HA : Hid (addM (i ++ [x]) (f, t) = i ++ [(x.1, max x.2 t)]) := addM_in hle
          rw [HA.out] at HT
          have hdc : decide (f ≤ x.2) = true := decide_eq_true hle
          have HP := Lib.hid (put_second (max x.2 t) HOA.out)
          have hgl := HOA.out.lt g rfl
          refine wp_region_seq [(true, 0), (true, 1), (true, 2), (true, 3), (true, 4), (true, 5), (true, 6), (true, 7), (true, 8), (true, 9), (true, 10), (true, 11)] (fun w' => w' = wa.drew) (by kernel_rfl) (by kernel_rfl) (fun _ _ _ _ _ h => h) (by kernel_rfl) (by kernel_rfl) ?_ ?_
          · rfl
          iterate 12 (first | (apply seqH_skip; (focus (simp only [List.getElem?_toArray, List.getElem?_cons_succ, List.getElem?_cons_zero]; rfl)); (focus rfl); simp only [Act.put, List.setIfInBounds_toArray, List.set_cons_zero, List.set_cons_succ]) | (apply seqH_take; (focus (simp only [List.getElem?_toArray, List.getElem?_cons_succ, List.getElem?_cons_zero]; rfl)); (focus rfl); (focus (intro w' hS; subst hS; first | (go_simp; rfl) | (go_simp; done))); simp only [Act.put, List.setIfInBounds_toArray, List.set_cons_zero, List.set_cons_succ]) | (apply seqH_pass; (focus (simp only [List.getElem?_toArray, List.getElem?_cons_succ, List.getElem?_cons_zero]; rfl)); (focus rfl); (focus assumption); simp only [Act.put, List.setIfInBounds_toArray, List.set_cons_zero, List.set_cons_succ]))
          refine seqH_nil ?_
          clear hle HA
          replace HK := HK.drew
          replace HOA := Lib.hid HOA.out.drew
          replace HB0 := HB0.drew
          replace HP : Hid (Owns (wa.drew.setCell ⟨g, i.length * 2 + 1, none⟩ (.int .i64 (max x.2 t))) _ _ _ _ _ _) := Lib.hid (put_second (max x.2 t) HOA.out)
          replace hgl : w3.heap.size ≤ g ∧ g < wa.drew.heap.size := hgl
          replace r1 : wa.drew.frozen? ⟨g, i.length * 2 + 1, none⟩ = false := r1
          replace p1 : wa.drew.cell? ⟨g, i.length * 2 + 1, none⟩ = some (.int .i64 x.2) := p1
          clear k0 k1 p0 r0 hdc
          go_wp2_with fail
          generalize wa.drew = wb at *
          have k1 := HK.cell 1
          obtain ⟨M, hM⟩ : ∃ M, max x.2 t = M := ⟨_, rfl⟩
          rw [hM] at HP HT
          refine wp_region_last [(true, 0), (true, 1), (true, 2), (true, 3), (true, 4), (true, 5), (true, 6), (true, 7), (true, 8), (true, 9), (true, 10), (true, 11), (false, 12)] 12 (fun w' => w' = wb.drew) (by kernel_rfl) (by kernel_rfl) (by kernel_rfl) (fun _ _ _ _ _ h => h) (by kernel_rfl) (by kernel_rfl) ?_ ?_
          · rfl
          iterate 12 (first | (apply seqL_skip; (focus (simp only [List.getElem?_toArray, List.getElem?_cons_succ, List.getElem?_cons_zero]; rfl)); (focus rfl); simp only [Act.put, List.setIfInBounds_toArray, List.set_cons_zero, List.set_cons_succ]) | (apply seqL_take; (focus (simp only [List.getElem?_toArray, List.getElem?_cons_succ, List.getElem?_cons_zero]; rfl)); (focus rfl); (focus (intro w' hS; subst hS; first | (go_simp; rfl) | (go_simp; done))); simp only [Act.put, List.setIfInBounds_toArray, List.set_cons_zero, List.set_cons_succ]))
          apply seqL_eff
          (focus (simp only [List.getElem?_toArray, List.getElem?_cons_succ, List.getElem?_cons_zero]; rfl))
          (focus rfl)
          intro K hK
          go_simp
          refine hK _ _ ⟨fun h => absurd rfl h, ?_⟩
          clear hK K
          refine seqL_nil ?_
          have hB5 := (HB0.setCell (p := ⟨g, i.length * 2 + 1, none⟩) hgl.1 (.int .i64 M)).drew
          have HP5 := Lib.hid HP.out.drew
          clear r1 p1 k1
          generalize (wb.setCell ⟨g, i.length * 2 + 1, none⟩ (.int .i64 M)).drew = w5 at *
          go_wp2_with fail
          go_roundw
          case rel => exact ⟨k + 1, by omega, by go_num, by rw [HT.out]; exact HP5.out, hB5⟩
          case measure => simp [intOf]; omega
        · have HA : Hid (addM (i ++ [x]) (f, t) = i ++ [x] ++ [(f, t)]) := addM_out hle
          rw [HA.out] at HT
          have hdc : decide (f ≤ x.2) = false := decide_eq_false hle
          refine wp_region_seq [(true, 0), (true, 1), (true, 2), (true, 3), (true, 4), (true, 5), (true, 6), (true, 7), (true, 8), (true, 9), (true, 10), (true, 11)] (fun w' => w' = wa.drew) (by kernel_rfl) (by kernel_rfl) (fun _ _ _ _ _ h => h) (by kernel_rfl) (by kernel_rfl) ?_ ?_
          · rfl
          iterate 12 (first | (apply seqH_skip; (focus (simp only [List.getElem?_toArray, List.getElem?_cons_succ, List.getElem?_cons_zero]; rfl)); (focus rfl); simp only [Act.put, List.setIfInBounds_toArray, List.set_cons_zero, List.set_cons_succ]) | (apply seqH_take; (focus (simp only [List.getElem?_toArray, List.getElem?_cons_succ, List.getElem?_cons_zero]; rfl)); (focus rfl); (focus (intro w' hS; subst hS; first | (go_simp; rfl) | (go_simp; done))); simp only [Act.put, List.setIfInBounds_toArray, List.set_cons_zero, List.set_cons_succ]) | (apply seqH_pass; (focus (simp only [List.getElem?_toArray, List.getElem?_cons_succ, List.getElem?_cons_zero]; rfl)); (focus rfl); (focus assumption); simp only [Act.put, List.setIfInBounds_toArray, List.set_cons_zero, List.set_cons_succ]))
          refine seqH_nil ?_
          clear k0 k1 p0 p1 r0 r1 hle HA
          replace HK := HK.drew
          replace HOA := Lib.hid HOA.out.drew
          replace HB0 := HB0.drew
          replace HSz : w3.heap.size ≤ wa.drew.heap.size := HSz
          generalize wa.drew = wb at *
          have k0 := HK.cell 0
          have k1 := HK.cell 1
          go_wp2_with (at_builtin; go_must (refine wpList_append_owns rfl (.tmp 45) (.tmp 47) _ rfl w3.heap.size 26 (.agg #[.int .i64 0, .int .i64 0]) 2 16 e_ii Try.underlying22 slcInfoB rfl (by decide) _ (i ++ [x]) rfl (HOA.out.alloc _) ⟨_, 0, none⟩ 1 1 [(f, t)] rfl rfl rfl (new_cells _ [.int .i64 f, .int .i64 t] _) (ii_oneB [_]) (by rw [hil]; simp only [maxLen]; omega) (by rw [hil]; omega) (Nat.le_trans HSz (le_alloc _ _)) ?_); intro v3 w4 hown3 hg3)
          go_roundw
          case rel => exact ⟨k + 1, by omega, by go_num, by rw [HT.out]; exact hown3, (HB0.alloc HB0.size _).grown hg3 (Nat.le_trans HB0.size (le_alloc _ _)) (fun k hk => (HOA.out.lt k hk).1)⟩
          case measure => simp [intOf]; omega
    · have hE : d.take k = d := List.take_of_length_le (by omega)
      rw [hE] at HO
      clear hown hE
      go_wp2_with fail
      go_ret
      exact ⟨⟨_, _, rfl, HO.out.mono HB.out.size, HF.out⟩, belT HB.out hbel⟩
end Mrg
end Go.Proofs.Ythhhlaoiampinaa
