/- body: what size answers. -/
import Derived.Test.YtoalfjkbgeiggaaGreatDoorZip4
import Derived.Test.YtoalfjkbgeiggaaGreatDoorZip5
import Derived.Lib.AtoiErrMem
namespace Go.Proofs.YtoalfjkbgeiggaaGreatDoor
set_option maxRecDepth 20000
open Go.RowKit
namespace Bd
/-- strconv's two errors are there. -/
structure HasErr (w : World) : Prop where
  p10 : HasP10 w
  syn : ∃ t p, w.cell? ⟨0, 0, none⟩ = some (.iface t p)
  ran : ∃ t p, w.cell? ⟨1, 0, none⟩ = some (.iface t p)
  lts : 0 < w.heap.size
  ltr : 1 < w.heap.size
theorem HasErr.below {w w' : World} (h : HasErr w) (hb : Below w.heap.size w w') : HasErr w' where
  p10 := h.p10.below rfl hb
  syn := h.syn.elim fun t x => x.elim fun p hp => ⟨t, p, (hb.cell h.lts).trans hp⟩
  ran := h.ran.elim fun t x => x.elim fun p hp => ⟨t, p, (hb.cell h.ltr).trans hp⟩
  lts := Nat.lt_of_lt_of_le h.lts hb.size
  ltr := Nat.lt_of_lt_of_le h.ltr hb.size
theorem atoi_in {l : List UInt8} {v : Int} (h : Lib.atoiAll l = .ok v) : -9223372036854775808 ≤ v ∧ v ≤ 9223372036854775807 := by
  unfold Lib.atoiAll at h
  split at h
  · cases h
  · dsimp only at h
    split at h
    · cases h
    · cases h
    · split at h
      · cases h
      · rename_i h1
        split at h
        · cases h
        · rename_i h2
          injection h with h
          subst h
          split <;> omega
def numF (p : List UInt8) : Int × Int :=
  match Lib.atoiAll p with
  | .ok v => if v < 0 ∨ 4 < p.length ∨ Lib.itoa v ≠ p then (0, 10) else if 5000 < v then (0, 2) else (v, 0)
  | _ => (0, 10)
def sizeF (s : ByteArray) : Int × Int :=
  match Tok.splitL (sl s) with
  | .error _ => (0, 10)
  | .ok [] => (0, 10)
  | .ok (p :: ps) => if (p :: ps).all (fun q => q == p) = true then numF p else (0, 10)
theorem numF_in (p : List UInt8) : (numF p).2 ≠ 0 ∧ (numF p).1 = 0 ∨ (numF p).2 = 0 ∧ 0 ≤ (numF p).1 ∧ (numF p).1 ≤ 5000 := by
  unfold numF
  split
  · split
    · exact .inl ⟨by simp, rfl⟩
    · rename_i h
      split
      · exact .inl ⟨by simp, rfl⟩
      · exact .inr ⟨rfl, by omega, by omega⟩
  · exact .inl ⟨by simp, rfl⟩
theorem sizeF_in (s : ByteArray) : (sizeF s).2 ≠ 0 ∧ (sizeF s).1 = 0 ∨ (sizeF s).2 = 0 ∧ 0 ≤ (sizeF s).1 ∧ (sizeF s).1 ≤ 5000 := by
  unfold sizeF
  split
  · exact .inl ⟨by simp, rfl⟩
  · exact .inl ⟨by simp, rfl⟩
  · split
    · exact numF_in _
    · exact .inl ⟨by simp, rfl⟩
theorem itoa_any (n : Int) (w : World) (h0 : -9223372036854775808 ≤ n) (h1 : n ≤ 9223372036854775807) (hp : HasP10 w) :
    Calls Tryz.prog 36 #[.int .i64 n] w fun e w' => e = .returned (.string (mkS (Lib.itoa n))) ∧ Below w.heap.size w w' := by
  refine (Tryz.strconv_Itoa n h0 h1 w hp.1).mono fun e w' ⟨he, k, os, hw⟩ => ⟨he, ?_⟩
  rw [hw]; exact below_grow_ _ w (Nat.le_refl _) k os
/-- What Atoi answers. -/
def AtoiR (p : List UInt8) (v : Int) (ev : Value) : Prop := (Lib.atoiAll p = .ok v ∧ ev = .nilIface) ∨ ((∀ u, Lib.atoiAll p ≠ .ok u) ∧ ∃ t q, ev = .iface t q)
theorem atoi_any (p : ByteArray) (w : World) (hs : p.size ≤ 1000) (h : HasErr w) :
    Calls Tryz.prog 38 #[.string p] w fun e w' => (∃ v ev, e = .returned (.tuple #[.int .i64 v, ev]) ∧ AtoiR (sl p) v ev) ∧ Below w.heap.size w w' := by
  obtain ⟨t1, p1, hsy⟩ := h.syn
  obtain ⟨t2, p2, hra⟩ := h.ran
  cases ha : Lib.atoiAll (sl p) with
  | ok v =>
    refine (Tryz.strconv_Atoi_ok p (by omega) v ha w).mono fun e w' ⟨he, hw⟩ => ⟨⟨v, _, he, .inl ⟨ha, rfl⟩⟩, ?_⟩
    rcases hw with rfl | ⟨t, rfl⟩
    · exact Below.refl _ _
    · exact Lib.bytesWorld_below _ _ _
  | «syntax» =>
    refine (Tryz.strconv_Atoi_syntax p (by omega) ha _ w hsy (.inr ⟨_, _, rfl⟩)).mono fun e w' ⟨N, he, _, _, hb⟩ => ⟨⟨_, _, he, .inr ⟨fun u hu => (by rw [ha] at hu; cases hu), _, _, rfl⟩⟩, hb⟩
  | range =>
    refine (Tryz.strconv_Atoi_range p (by omega) ha _ w hra (.inr ⟨_, _, rfl⟩)).mono fun e w' ⟨N, he, _, _, hb⟩ => ⟨⟨_, _, he, .inr ⟨fun u hu => (by rw [ha] at hu; cases hu), _, _, rfl⟩⟩, hb⟩
set_option maxHeartbeats 6400000 in
theorem size_any (s : ByteArray) (w : World) (hs : s.size ≤ 140737488351232) (he : HasErr w) :
    Calls Tryz.prog 26 #[.string s] w fun e w' => e = .returned (.tuple #[.int .i64 (sizeF s).1, .int .i64 (sizeF s).2]) ∧ Below w.heap.size w w' := by
  have HE := Lib.hid (fun w' (hb : Below w.heap.size w w') => he.below hb)
  have HR : Hid (sizeF s = match Tok.splitL (sl s) with
    | .error _ => (0, 10)
    | .ok [] => (0, 10)
    | .ok (p :: ps) => if (p :: ps).all (fun q => q == p) = true then numF p else (0, 10)) := rfl
  have HSp := Lib.hid (split_any s w hs)
  clear he
  generalize sizeF s = R at *
  obtain ⟨r1, r2⟩ := R
  go_enter Tryz.func26, Tryz.ntmps26
  go_wp2_with fail
  refine HSp.out.mono ?_
  rintro e w1 ⟨hans, b1⟩
  unfold SplitAns at hans
  clear HSp
  cases hsp : Tok.splitL (sl s) with
  | error c =>
    rw [hsp] at hans HR
    dsimp only at hans HR
    subst hans
    have hc : 2 ≤ c ∧ c ≤ 3 := by
      unfold Tok.splitL at hsp
      split at hsp
      · injection hsp with h; omega
      · split at hsp
        · injection hsp with h; omega
        · split at hsp
          · injection hsp with h; omega
          · cases hsp
    have hne : (c != 0) = true := by simp; omega
    injection HR.out with h1 h2
    subst h1 h2
    clear hsp hc HR
    go_wp2_with fail
    go_ret2
    exact ⟨rfl, b1⟩
  | ok ps0 =>
    rw [hsp] at hans HR
    dsimp only at hans HR
    obtain ⟨v, rfl, ho⟩ := hans
    obtain ⟨k1, k2, -⟩ := Tok.split_short hsp
    have HSl := Lib.hid (SlR.of_owns ho)
    obtain ⟨A, cp, rfl, -⟩ := (SlR.of_owns ho).form
    have hlm : (ps0.map mkS).length = ps0.length := List.length_map ..
    clear ho hsp
    rw [hlm]
    by_cases hnil : ps0 = []
    · subst hnil
      injection HR.out with h1 h2
      subst h1 h2
      clear HR
      go_wp2_with fail
      go_ret2
      exact ⟨rfl, b1⟩
    · obtain ⟨p, ps, hL⟩ : ∃ p ps, ps0 = p :: ps := by
        cases ps0 with
        | nil => exact absurd rfl hnil
        | cons p ps => exact ⟨p, ps, rfl⟩
      have HR2 : Hid ((r1, r2) = if ps0.all (fun q => q == p) = true then numF p else (0, 10)) := by
        show _ = _
        rw [HR.out, hL]
      clear HR
      have hL0 : 0 < ps0.length := by rw [hL]; simp
      have hfst : ps0[0] = p := by simp [hL]
      have H2 := Lib.hid (HSl.out.texts (by rw [hlm]; exact hL0))
      have hp1k : ∀ q ∈ ps0, q.length ≤ 1000 := k1
      clear hL hnil k1
      generalize ps0 = L at *
      obtain ⟨b, off, c', he, _, hbb, hcell⟩ := H2.out
      obtain ⟨rfl, rfl⟩ : A = some ⟨b, off, none⟩ ∧ cp = c' := by injection he with h1 h2 h3; exact ⟨h1, h3⟩
      have h00 := hcell 0 (by omega)
      simp only [List.getElem_map, Nat.add_zero, hfst] at h00
      have HC0 := Lib.hid (fun w' (hb : Below w1.heap.size w1 w') => (hb.cell (p := ⟨b, off, none⟩) hbb).trans h00)
      have HCk := Lib.hid (fun k (hk : k < L.length) w' (hb : Below w1.heap.size w1 w') => (hb.cell (p := ⟨b, off + k, none⟩) hbb).trans (hcell k (by rw [hlm]; exact hk)))
      have hpz : (mkS p).size ≤ 1000 := by rw [mkS_size, ← hfst]; exact hp1k _ (List.getElem_mem _)
      clear hcell he h00 H2 HSl
      have hneL : ((L.length : Int) == 0) = false := by rw [beq_eq_false_iff_ne]; omega
      go_wp2_with fail
      go_loopw [24] (fun i wr => ∃ k : Nat, k ≤ L.length ∧ i = .int .i64 k ∧ (L.take k).all (fun q => q == p) = true ∧ wr = w1) (fun i _ => L.length - (intOf i).toNat)
      case atStart => exact ⟨0, by omega, rfl, rfl, rfl⟩
      case round =>
        obtain ⟨k, hk, rfl, hall, rfl⟩ := hrel
        have HA := Lib.hid hall
        clear hall
        by_cases hlt : k < L.length
        · have c0 := HC0.out _ (Below.refl _ _)
          have c1 := HCk.out k hlt _ (Below.refl _ _)
          simp only [List.getElem_map] at c1
          have HT : Hid ((L.take (k + 1)).all (fun q => q == p) = ((L.take k).all (fun q => q == p) && (L[k] == p))) := by
            show _ = _; rw [List.take_add_one, List.getElem?_eq_getElem hlt, List.all_append]; simp
          have HX : Hid (((mkS L[k]).toList == (mkS p).toList) = (L[k] == p)) := by show _ = _; rw [ba_toList, ba_toList, sl_mkS, sl_mkS]
          have HN : Hid ((L[k] == p) = false → L.all (fun q => q == p) = false) := fun h => by rw [List.all_eq_false]; exact ⟨L[k], List.getElem_mem hlt, by rw [h]; simp⟩
          generalize mkS L[k] = X at *
          generalize hq : (L[k] == p) = q at *
          clear hq
          have hx := HX.out
          cases q
          · have HR3 : Hid ((r1, r2) = (0, 10)) := by show _ = _; rw [HR2.out, HN.out (by trivial), if_neg (by simp)]
            injection HR3.out with h1 h2
            subst h1 h2
            clear HR2 HR3 HN HT
            go_wp2_with fail
            go_ret2
            exact ⟨rfl, b1⟩
          · clear HN
            go_wp2_with fail
            go_roundw
            case rel => exact ⟨k + 1, by omega, by go_num, by rw [HT.out, HA.out]; rfl, (by trivial)⟩
            case measure => simp [intOf]; omega
        · obtain rfl : k = L.length := by omega
          have HR3 : Hid ((r1, r2) = numF p) := by show _ = _; rw [HR2.out, if_pos (by have := HA.out; rwa [List.take_length] at this)]
          have c0 := HC0.out _ (Below.refl _ _)
          have HAt := Lib.hid (fun w' hb => atoi_any (mkS p) w' hpz (HE.out w' hb))
          rw [sl_mkS] at HAt
          have hpl : (mkS p).size = p.length := mkS_size p
          clear HR2 HA HCk
          go_wp2_with fail
          refine (HAt.out _ b1).mono ?_
          rintro e w2 ⟨⟨v, ev, rfl, hat⟩, b2⟩
          have B2 := belT b1 b2
          have HC2 := Lib.hid (fun w' (hb : Below w2.heap.size w2 w') => HC0.out w' (belT b2 hb))
          have HP := Lib.hid (HE.out _ B2).p10
          have hHat := hat
          clear HAt HC0 HE hat c0
          have HNo : Hid ((∀ u, Lib.atoiAll p ≠ .ok u) → numF p = (0, 10)) := fun h => by
            unfold numF
            cases ha : Lib.atoiAll p with
            | ok u => exact absurd ha (h u)
            | «syntax» => rfl
            | range => rfl
          have HOk : Hid (Lib.atoiAll p = .ok v → numF p = if v < 0 ∨ 4 < p.length ∨ Lib.itoa v ≠ p then (0, 10) else if 5000 < v then (0, 2) else (v, 0)) := fun h => by unfold numF; rw [h]
          have HIe : Hid (((mkS (Lib.itoa v)).toList == (mkS p).toList) = decide (Lib.itoa v = p)) := by show _ = _; rw [ba_toList, ba_toList, sl_mkS, sl_mkS, Bool.eq_iff_iff, beq_iff_eq, decide_eq_true_iff]
          generalize mkS p = P at *
          rcases hHat with ⟨hok, rfl⟩ | ⟨hno, t, q, rfl⟩
          · have HN := Lib.hid (HOk.out hok)
            have hvr := atoi_in hok
            have HIt := Lib.hid (fun w' hp => itoa_any v w' hvr.1 hvr.2 hp)
            clear HOk HNo hok
            generalize mkS (Lib.itoa v) = I at *
            by_cases hv : v < 0
            · have HR4 : Hid ((r1, r2) = (0, 10)) := by show _ = _; rw [HR3.out, HN.out, if_pos (.inl hv)]
              injection HR4.out with h1 h2
              subst h1 h2
              have d1 : decide (v < 0) = true := decide_eq_true hv
              clear HR3 HR4 HN HIe hv
              go_wp2_with fail
              refine wp_region_seq [(true, 0), (true, 1), (true, 2), (true, 3), (true, 4), (true, 5), (true, 6), (true, 7), (true, 8), (true, 9), (true, 10), (true, 11), (true, 12), (true, 13), (true, 14), (true, 16), (true, 17), (true, 18), (false, 15), (true, 19), (true, 20), (true, 21)] (fun w' => Below w2.heap.size w2 w') (by kernel_rfl) (by kernel_rfl) (fun _ _ _ _ _ h => h) (by kernel_rfl) (by kernel_rfl) (by first | exact (Below.refl _ _).drew | exact Below.drew (by assumption)) ?_
              have bS : Below w2.heap.size w2 _ := (by first | exact Below.drew (by assumption) | exact (Below.refl _ w2).drew)
              iterate 22 (first
                | (apply seqH_skip; (focus (simp only [List.getElem?_toArray, List.getElem?_cons_succ, List.getElem?_cons_zero]; rfl)); (focus rfl); simp only [Act.put, List.setIfInBounds_toArray, List.set_cons_zero, List.set_cons_succ])
                | (apply seqH_take; (focus (simp only [List.getElem?_toArray, List.getElem?_cons_succ, List.getElem?_cons_zero]; rfl)); (focus rfl); (focus (intro w' hS; have c0 := HC2.out _ hS; first | (go_simp; rfl) | (go_simp; done))); simp only [Act.put, List.setIfInBounds_toArray, List.set_cons_zero, List.set_cons_succ])
                | (apply seqH_pass; (focus (simp only [List.getElem?_toArray, List.getElem?_cons_succ, List.getElem?_cons_zero]; rfl)); (focus rfl); (focus assumption); simp only [Act.put, List.setIfInBounds_toArray, List.set_cons_zero, List.set_cons_succ])
                | (apply seqH_eff; (focus (simp only [List.getElem?_toArray, List.getElem?_cons_succ, List.getElem?_cons_zero]; rfl)); (focus rfl); intro K hK; go_simp; (go_at_call 36; (with_reducible refine (HIt.out _ (HP.out.below rfl (by assumption))).mono ?_)); rintro e wN ⟨rfl, bN⟩; refine hK _ _ (seq_next (by assumption) bN (fun bS' => ?_)); clear hK K))
              refine seqH_nil ?_
              go_wp2_with fail
              go_ret2
              exact ⟨rfl, belT B2 bS⟩
            · have d1 : decide (v < 0) = false := decide_eq_false hv
              by_cases h4 : 4 < p.length
              · have HR4 : Hid ((r1, r2) = (0, 10)) := by show _ = _; rw [HR3.out, HN.out, if_pos (.inr (.inl h4))]
                injection HR4.out with h1 h2
                subst h1 h2
                have d2 : decide (4 < P.size) = true := by rw [decide_eq_true_iff]; omega
                have d2' : decide (4 < (P.size : Int)) = true := by rw [decide_eq_true_iff]; omega
                clear hpl
                clear HR3 HR4 HN HIe
                go_wp2_with fail
                refine wp_region_seq [(true, 0), (true, 1), (true, 2), (true, 3), (true, 4), (true, 5), (true, 6), (true, 7), (true, 8), (true, 9), (true, 10), (true, 11), (true, 12), (true, 13), (true, 14), (true, 16), (true, 17), (true, 18), (false, 15), (true, 19), (true, 20), (true, 21)] (fun w' => Below w2.heap.size w2 w') (by kernel_rfl) (by kernel_rfl) (fun _ _ _ _ _ h => h) (by kernel_rfl) (by kernel_rfl) (by first | exact (Below.refl _ _).drew | exact Below.drew (by assumption)) ?_
                have bS : Below w2.heap.size w2 _ := (by first | exact Below.drew (by assumption) | exact (Below.refl _ w2).drew)
                iterate 22 (first
                  | (apply seqH_skip; (focus (simp only [List.getElem?_toArray, List.getElem?_cons_succ, List.getElem?_cons_zero]; rfl)); (focus rfl); simp only [Act.put, List.setIfInBounds_toArray, List.set_cons_zero, List.set_cons_succ])
                  | (apply seqH_take; (focus (simp only [List.getElem?_toArray, List.getElem?_cons_succ, List.getElem?_cons_zero]; rfl)); (focus rfl); (focus (intro w' hS; have c0 := HC2.out _ hS; first | (go_simp; rfl) | (go_simp; done))); simp only [Act.put, List.setIfInBounds_toArray, List.set_cons_zero, List.set_cons_succ])
                  | (apply seqH_pass; (focus (simp only [List.getElem?_toArray, List.getElem?_cons_succ, List.getElem?_cons_zero]; rfl)); (focus rfl); (focus assumption); simp only [Act.put, List.setIfInBounds_toArray, List.set_cons_zero, List.set_cons_succ])
                  | (apply seqH_eff; (focus (simp only [List.getElem?_toArray, List.getElem?_cons_succ, List.getElem?_cons_zero]; rfl)); (focus rfl); intro K hK; go_simp; (go_at_call 36; (with_reducible refine (HIt.out _ (HP.out.below rfl (by assumption))).mono ?_)); rintro e wN ⟨rfl, bN⟩; refine hK _ _ (seq_next (by assumption) bN (fun bS' => ?_)); clear hK K))
                refine seqH_nil ?_
                go_wp2_with fail
                go_ret2
                exact ⟨rfl, belT B2 bS⟩
              · have d2 : decide (4 < P.size) = false := by rw [decide_eq_false_iff_not]; omega
                have d2' : decide (4 < (P.size : Int)) = false := by rw [decide_eq_false_iff_not]; omega
                clear hpl
                by_cases hit : Lib.itoa v = p
                · have d3 : (I.toList == P.toList) = true := by rw [HIe.out, decide_eq_true hit]
                  by_cases h5 : 5000 < v
                  · have HR4 : Hid ((r1, r2) = (0, 2)) := by show _ = _; rw [HR3.out, HN.out, if_neg (by rintro (h | h | h) <;> first | exact hv h | exact h4 h | exact h hit), if_pos h5]
                    injection HR4.out with h1 h2
                    subst h1 h2
                    have d4 : decide (5000 < v) = true := decide_eq_true h5
                    clear HR3 HR4 HN HIe hit
                    go_wp2_with fail
                    refine wp_region_seq [(true, 0), (true, 1), (true, 2), (true, 3), (true, 4), (true, 5), (true, 6), (true, 7), (true, 8), (true, 9), (true, 10), (true, 11), (true, 12), (true, 13), (true, 14), (true, 16), (true, 17), (true, 18), (false, 15), (true, 19), (true, 20), (true, 21)] (fun w' => Below w2.heap.size w2 w') (by kernel_rfl) (by kernel_rfl) (fun _ _ _ _ _ h => h) (by kernel_rfl) (by kernel_rfl) (by first | exact (Below.refl _ _).drew | exact Below.drew (by assumption)) ?_
                    have bS : Below w2.heap.size w2 _ := (by first | exact Below.drew (by assumption) | exact (Below.refl _ w2).drew)
                    iterate 22 (first
                      | (apply seqH_skip; (focus (simp only [List.getElem?_toArray, List.getElem?_cons_succ, List.getElem?_cons_zero]; rfl)); (focus rfl); simp only [Act.put, List.setIfInBounds_toArray, List.set_cons_zero, List.set_cons_succ])
                      | (apply seqH_take; (focus (simp only [List.getElem?_toArray, List.getElem?_cons_succ, List.getElem?_cons_zero]; rfl)); (focus rfl); (focus (intro w' hS; have c0 := HC2.out _ hS; first | (go_simp; rfl) | (go_simp; done))); simp only [Act.put, List.setIfInBounds_toArray, List.set_cons_zero, List.set_cons_succ])
                      | (apply seqH_pass; (focus (simp only [List.getElem?_toArray, List.getElem?_cons_succ, List.getElem?_cons_zero]; rfl)); (focus rfl); (focus assumption); simp only [Act.put, List.setIfInBounds_toArray, List.set_cons_zero, List.set_cons_succ])
                      | (apply seqH_eff; (focus (simp only [List.getElem?_toArray, List.getElem?_cons_succ, List.getElem?_cons_zero]; rfl)); (focus rfl); intro K hK; go_simp; (go_at_call 36; (with_reducible refine (HIt.out _ (HP.out.below rfl (by assumption))).mono ?_)); rintro e wN ⟨rfl, bN⟩; refine hK _ _ (seq_next (by assumption) bN (fun bS' => ?_)); clear hK K))
                    refine seqH_nil ?_
                    go_wp2_with fail
                    go_ret2
                    exact ⟨rfl, belT B2 (by assumption)⟩
                  · have HR4 : Hid ((r1, r2) = (v, 0)) := by show _ = _; rw [HR3.out, HN.out, if_neg (by rintro (h | h | h) <;> first | exact hv h | exact h4 h | exact h hit), if_neg h5]
                    injection HR4.out with h1 h2
                    subst h1 h2
                    have d4 : decide (5000 < r1) = false := decide_eq_false h5
                    clear HR3 HR4 HN HIe hit
                    go_wp2_with fail
                    refine wp_region_seq [(true, 0), (true, 1), (true, 2), (true, 3), (true, 4), (true, 5), (true, 6), (true, 7), (true, 8), (true, 9), (true, 10), (true, 11), (true, 12), (true, 13), (true, 14), (true, 16), (true, 17), (true, 18), (false, 15), (true, 19), (true, 20), (true, 21)] (fun w' => Below w2.heap.size w2 w') (by kernel_rfl) (by kernel_rfl) (fun _ _ _ _ _ h => h) (by kernel_rfl) (by kernel_rfl) (by first | exact (Below.refl _ _).drew | exact Below.drew (by assumption)) ?_
                    have bS : Below w2.heap.size w2 _ := (by first | exact Below.drew (by assumption) | exact (Below.refl _ w2).drew)
                    iterate 22 (first
                      | (apply seqH_skip; (focus (simp only [List.getElem?_toArray, List.getElem?_cons_succ, List.getElem?_cons_zero]; rfl)); (focus rfl); simp only [Act.put, List.setIfInBounds_toArray, List.set_cons_zero, List.set_cons_succ])
                      | (apply seqH_take; (focus (simp only [List.getElem?_toArray, List.getElem?_cons_succ, List.getElem?_cons_zero]; rfl)); (focus rfl); (focus (intro w' hS; have c0 := HC2.out _ hS; first | (go_simp; rfl) | (go_simp; done))); simp only [Act.put, List.setIfInBounds_toArray, List.set_cons_zero, List.set_cons_succ])
                      | (apply seqH_pass; (focus (simp only [List.getElem?_toArray, List.getElem?_cons_succ, List.getElem?_cons_zero]; rfl)); (focus rfl); (focus assumption); simp only [Act.put, List.setIfInBounds_toArray, List.set_cons_zero, List.set_cons_succ])
                      | (apply seqH_eff; (focus (simp only [List.getElem?_toArray, List.getElem?_cons_succ, List.getElem?_cons_zero]; rfl)); (focus rfl); intro K hK; go_simp; (go_at_call 36; (with_reducible refine (HIt.out _ (HP.out.below rfl (by assumption))).mono ?_)); rintro e wN ⟨rfl, bN⟩; refine hK _ _ (seq_next (by assumption) bN (fun bS' => ?_)); clear hK K))
                    refine seqH_nil ?_
                    go_wp2_with fail
                    go_ret2
                    exact ⟨rfl, belT B2 (by assumption)⟩
                · have HR4 : Hid ((r1, r2) = (0, 10)) := by show _ = _; rw [HR3.out, HN.out, if_pos (.inr (.inr hit))]
                  injection HR4.out with h1 h2
                  subst h1 h2
                  have d3 : (I.toList == P.toList) = false := by rw [HIe.out, decide_eq_false hit]
                  clear HR3 HR4 HN HIe hit
                  go_wp2_with fail
                  refine wp_region_seq [(true, 0), (true, 1), (true, 2), (true, 3), (true, 4), (true, 5), (true, 6), (true, 7), (true, 8), (true, 9), (true, 10), (true, 11), (true, 12), (true, 13), (true, 14), (true, 16), (true, 17), (true, 18), (false, 15), (true, 19), (true, 20), (true, 21)] (fun w' => Below w2.heap.size w2 w') (by kernel_rfl) (by kernel_rfl) (fun _ _ _ _ _ h => h) (by kernel_rfl) (by kernel_rfl) (by first | exact (Below.refl _ _).drew | exact Below.drew (by assumption)) ?_
                  have bS : Below w2.heap.size w2 _ := (by first | exact Below.drew (by assumption) | exact (Below.refl _ w2).drew)
                  iterate 22 (first
                    | (apply seqH_skip; (focus (simp only [List.getElem?_toArray, List.getElem?_cons_succ, List.getElem?_cons_zero]; rfl)); (focus rfl); simp only [Act.put, List.setIfInBounds_toArray, List.set_cons_zero, List.set_cons_succ])
                    | (apply seqH_take; (focus (simp only [List.getElem?_toArray, List.getElem?_cons_succ, List.getElem?_cons_zero]; rfl)); (focus rfl); (focus (intro w' hS; have c0 := HC2.out _ hS; first | (go_simp; rfl) | (go_simp; done))); simp only [Act.put, List.setIfInBounds_toArray, List.set_cons_zero, List.set_cons_succ])
                    | (apply seqH_pass; (focus (simp only [List.getElem?_toArray, List.getElem?_cons_succ, List.getElem?_cons_zero]; rfl)); (focus rfl); (focus assumption); simp only [Act.put, List.setIfInBounds_toArray, List.set_cons_zero, List.set_cons_succ])
                    | (apply seqH_eff; (focus (simp only [List.getElem?_toArray, List.getElem?_cons_succ, List.getElem?_cons_zero]; rfl)); (focus rfl); intro K hK; go_simp; (go_at_call 36; (with_reducible refine (HIt.out _ (HP.out.below rfl (by assumption))).mono ?_)); rintro e wN ⟨rfl, bN⟩; refine hK _ _ (seq_next (by assumption) bN (fun bS' => ?_)); clear hK K))
                  refine seqH_nil ?_
                  go_wp2_with fail
                  go_ret2
                  exact ⟨rfl, belT B2 (by assumption)⟩
          · have HR4 : Hid ((r1, r2) = (0, 10)) := by show _ = _; rw [HR3.out, HNo.out hno]
            injection HR4.out with h1 h2
            subst h1 h2
            have HIt := Lib.hid (fun (w' : World) (hp : HasP10 w') => itoa_any 0 w' (by decide) (by decide) hp)
            clear HR3 HR4 HNo HOk HIe hno
            go_wp2_with fail
            refine wp_region_seq [(true, 0), (true, 1), (true, 2), (true, 3), (true, 4), (true, 5), (true, 6), (true, 7), (true, 8), (true, 9), (true, 10), (true, 11), (true, 12), (true, 13), (true, 14), (true, 16), (true, 17), (true, 18), (false, 15), (true, 19), (true, 20), (true, 21)] (fun w' => Below w2.heap.size w2 w') (by kernel_rfl) (by kernel_rfl) (fun _ _ _ _ _ h => h) (by kernel_rfl) (by kernel_rfl) (by first | exact (Below.refl _ _).drew | exact Below.drew (by assumption)) ?_
            have bS : Below w2.heap.size w2 _ := (by first | exact Below.drew (by assumption) | exact (Below.refl _ w2).drew)
            iterate 22 (first
              | (apply seqH_skip; (focus (simp only [List.getElem?_toArray, List.getElem?_cons_succ, List.getElem?_cons_zero]; rfl)); (focus rfl); simp only [Act.put, List.setIfInBounds_toArray, List.set_cons_zero, List.set_cons_succ])
              | (apply seqH_take; (focus (simp only [List.getElem?_toArray, List.getElem?_cons_succ, List.getElem?_cons_zero]; rfl)); (focus rfl); (focus (intro w' hS; have c0 := HC2.out _ hS; first | (go_simp; rfl) | (go_simp; done))); simp only [Act.put, List.setIfInBounds_toArray, List.set_cons_zero, List.set_cons_succ])
              | (apply seqH_pass; (focus (simp only [List.getElem?_toArray, List.getElem?_cons_succ, List.getElem?_cons_zero]; rfl)); (focus rfl); (focus assumption); simp only [Act.put, List.setIfInBounds_toArray, List.set_cons_zero, List.set_cons_succ])
              | (apply seqH_eff; (focus (simp only [List.getElem?_toArray, List.getElem?_cons_succ, List.getElem?_cons_zero]; rfl)); (focus rfl); intro K hK; go_simp; (go_at_call 36; (with_reducible refine (HIt.out _ (HP.out.below rfl (by assumption))).mono ?_)); rintro e wN ⟨rfl, bN⟩; refine hK _ _ (seq_next (by assumption) bN (fun bS' => ?_)); clear hK K))
            refine seqH_nil ?_
            go_wp2_with fail
            go_ret2
            exact ⟨rfl, belT B2 bS⟩
end Bd
end Go.Proofs.YtoalfjkbgeiggaaGreatDoor
