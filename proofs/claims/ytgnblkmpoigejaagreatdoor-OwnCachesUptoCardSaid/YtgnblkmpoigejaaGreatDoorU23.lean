import Derived.Test.YtgnblkmpoigejaaGreatDoorU22
import Derived.Test.YtgnblkmpoigejaaGreatDoorU17
import Derived.Test.YtgnblkmpoigejaaGreatDoorU20
set_option linter.unusedVariables false
set_option linter.unusedSimpArgs false
namespace Go.Proofs.YtgnblkmpoigejaaGreatDoor
set_option maxRecDepth 20000
open Go.RowKit Go.Shelf
namespace Ca
open Bk
def EnvK (n0 : Lim) (w : World) : Prop := ∃ W0 : World, HasMaxL W0 ∧ HasP10 W0 ∧ (∀ k, n0.ok k → W0.heap.size ≤ k) ∧ Below W0.heap.size W0 w
theorem EnvK.of {w : World} (h1 : HasMaxL w) (h2 : HasP10 w) : EnvK (lim w.heap.size) w := ⟨w, h1, h2, fun _ hk => lim_ok.1 hk, Below.refl _ _⟩
theorem EnvK.sub {n m : Lim} {w : World} (h : EnvK n w) (hm : ∀ k, m.ok k → n.ok k) : EnvK m w := by
 obtain ⟨W0, h1, h2, h3, h4⟩ := h
 exact ⟨W0, h1, h2, fun k hk => h3 k (hm k hk), h4⟩
theorem EnvK.bel {n0 : Lim} {w w' : World} (h : EnvK n0 w) (hb : Bel n0 w w') : EnvK n0 w' := by
 obtain ⟨W0, h1, h2, h3, h4⟩ := h
 exact ⟨W0, h1, h2, h3, h4.trans ⟨hb.os, hb.tape, hb.output, hb.size, fun k hk => hb.block k fun e => absurd (h3 k e) (Nat.not_le_of_lt hk)⟩⟩
theorem EnvK.below {n0 : Lim} {w w' : World} (h : EnvK n0 w) (hb : Below w.heap.size w w') : EnvK n0 w' := by
 obtain ⟨W0, h1, h2, h3, h4⟩ := h
 exact ⟨W0, h1, h2, h3, h4.trans (hb.mono h4.size)⟩
theorem EnvK.max {n0 : Lim} {w : World} (h : EnvK n0 w) : HasMaxL w := by
 obtain ⟨W0, h2, h3, h1, h4⟩ := h
 exact h2.below rfl h4
theorem EnvK.p10 {n0 : Lim} {w : World} (h : EnvK n0 w) : HasP10 w := by
 obtain ⟨W0, h2, h3, h1, h4⟩ := h
 exact h3.below rfl h4
theorem norm_ans {t : ByteArray} {e : Ending} (h : Tar.NormAns (sl t) e) : e = .returned (.tuple #[.string (normK t), .int .i64 (normE t)]) := by
 unfold Tar.NormAns at h
 unfold normK normE
 cases hn : Tar.normalF (sl t) with
 | error c => rw [hn] at h; exact h
 | ok k => rw [hn] at h; exact h
theorem normE_in (t : ByteArray) : normE t = 0 ∨ normE t = 2 ∨ normE t = 3 := by
 unfold normE
 cases hn : Tar.normalF (sl t) with
 | error c => exact .inr (Tar.normalF_code hn)
 | ok k => exact .inl rfl
theorem norm_any {n0 : Lim} (t : ByteArray) (w : World) (ht : t.size ≤ 281474976710656) (he : EnvK n0 w) :
  Calls Tryz.prog 16 #[.string t] w fun e w' => e = .returned (.tuple #[.string (normK t), .int .i64 (normE t)]) ∧ Below w.heap.size w w' := by
 refine (normal_any t w ht he.max.1 he.max.2).mono ?_
 rintro e w' ⟨h, hb⟩
 exact ⟨norm_ans h, hb⟩
theorem best_map {α β : Type} (f : α → β) (cm : β → Int) (l : List α) : (best (fun x => cm (f x)) l).map f = best cm (l.map f) := by
 refine snocRec (P := fun l => (best (fun x => cm (f x)) l).map f = best cm (l.map f)) rfl (fun l x ih => ?_) l
 rw [List.map_append, List.map_cons, List.map_nil, best_snoc, best_snoc, ← ih]
 cases best (fun x => cm (f x)) l with
 | none => rfl
 | some y =>
  simp only [bestS, Option.map_some]
  split <;> rfl
def bestC (xs : List Ce) (m t : ByteArray) (l : List Fld) : Option Ce :=
 if (m ≠ getB ∧ m ≠ headB) ∨ normE t ≠ 0 then none else best (fun x : Ce => x.h.came) (fitsC (normK t) l xs)
theorem bestC_pl (xs : List Ce) (m t : ByteArray) (l : List Fld) : (bestC xs m t l).map Ce.pl = bestE (xs.map Ce.pl) m t l := by
 unfold bestC bestE
 split
 ·rfl
 ·have h1 := best_map Ce.pl (fun e : En => e.x.came) (fitsC (normK t) l xs)
  have h2 : (fitsC (normK t) l xs).map Ce.pl = (xs.map Ce.pl).filter (fitB (normK t) l) := by
   unfold fitsC
   rw [List.filter_map]
   rfl
  rw [h2] at h1
  exact h1
theorem bestC_mem {xs : List Ce} {m t : ByteArray} {l : List Fld} {x : Ce} (h : bestC xs m t l = some x) : x ∈ xs := by
 unfold bestC at h
 split at h
 ·cases h
 ·exact (List.mem_filter.1 (best_mem _ h)).1
def nmO (o : Option Ce) : ByteArray := match o with | none => ⟨#[]⟩ | some x => x.n
theorem meth_beq (m : ByteArray) (l : List UInt8) : (m.toList == l) = decide (m = mkS l) := by
 rw [Bool.eq_iff_iff, beq_iff_eq, decide_eq_true_iff, ba_toList]
 constructor
 ·intro h; exact sl_inj (by rw [sl_mkS, h])
 ·rintro rfl; rw [sl_mkS]
set_option maxHeartbeats 4000000 in
theorem best_any (n0 : Lim) (M made : Nat) (A : Ad) (room : Int) (xs : List Ce) (m t : ByteArray) (u : Value) (b : ByteArray) (l : List Fld) (w : World) (h : CaS w n0 A room M xs made) (hm : made ≤ 9223372036854775807) (hM : M ≤ 4398046511104) (hu : SlR w e_ss u l) (hwl : Vy.wt l ≤ 4398046511104) (ht : t.size ≤ 281474976710656) (he : EnvK n0 w) :
  Calls Tryz.prog 39 #[ptr A.c, rqV m t u b] w fun e w' => e = .returned (.string (nmO (bestC xs m t l))) ∧ Below w.heap.size w w' := by
 obtain ⟨Au, cu, rfl, hcu⟩ := hu.form
 have hb1 := (Below.refl w.heap.size w).alloc (Nat.le_refl _) (.cells #[.string m, .string t, .slice Au l.length cu, .string b] 25)
 have hB := Blk.new w 25 #[.string m, .string t, .slice Au l.length cu, .string b]
 have HN := Lib.hid (norm_any t _ ht (he.below hb1))
 have hS := h.below hb1
 have HS := Lib.hid hS
 have HU := Lib.hid (hu.below hb1)
 have HB1 := Lib.hid hb1
 have HQ : Hid (bestC xs m t l = if (m ≠ getB ∧ m ≠ headB) ∨ normE t ≠ 0 then none else best (fun x : Ce => x.h.came) (fitsC (normK t) l xs)) := rfl
 have hg := meth_beq m [71, 69, 84]
 have hh := meth_beq m [72, 69, 65, 68]
 have eg : mkS [71, 69, 84] = getB := rfl
 have eh : mkS [72, 69, 65, 68] = headB := rfl
 rw [eg] at hg
 rw [eh] at hh
 have hin := normE_in t
 clear h hu he hS eg eh
 generalize bestC xs m t l = R at *
 generalize normE t = E at *
 generalize normK t = key at *
 unfold rqV
 go_enter Tryz.func39, Tryz.ntmps39
 go_wp2_with fail
 generalize w.alloc (.cells #[.string m, .string t, .slice Au l.length cu, .string b] 25) = w1 at *
 refine HN.out.mono ?_
 rintro e w2 ⟨rfl, b2⟩
 have hB2 := hB.below b2 hB.lt
 have k0 := hB2.cell 0
 have k2 := hB2.cell 2
 have HF := Lib.hid (fits_any n0 M made A room xs key _ l w2 (HS.out.below b2) hm hM (HU.out.below b2) hwl)
 have BW2 := Lib.hid (HB1.out.trans (b2.mono HB1.out.size))
 have hS2 := HS.out.below b2
 have HS2 := Lib.hid hS2
 clear hS2 b2 HN HS HB1 HU hB hB2
 by_cases hmm : m ≠ getB ∧ m ≠ headB
 ·have hg1 : (m.toList == [71, 69, 84]) = false := by rw [hg]; exact decide_eq_false hmm.1
  have hh1 : (m.toList == [72, 69, 65, 68]) = false := by rw [hh]; exact decide_eq_false hmm.2
  have HR : Hid (R = none) := by show _ = _; rw [HQ.out, if_pos (.inl hmm)]
  clear hg hh HQ hin hmm
  go_wp2_with fail
  go_ret
  exact ⟨by rw [HR.out]; rfl, BW2.out⟩
 ·by_cases hE : E = 0
  ·subst hE
   have HR : Hid (R = best (fun x : Ce => x.h.came) (fitsC key l xs)) := by
    show _ = _
    rw [HQ.out, if_neg (by rintro (h | h); exact hmm h; exact h rfl)]
   clear HQ hin
   have hcase : (m.toList == [71, 69, 84]) = true ∨ ((m.toList == [71, 69, 84]) = false ∧ (m.toList == [72, 69, 65, 68]) = true) := by
    by_cases q : m = getB
    ·exact .inl (by rw [hg]; exact decide_eq_true q)
    ·refine .inr ⟨by rw [hg]; exact decide_eq_false q, ?_⟩
     rw [hh]
     by_cases q2 : m = headB
     ·exact decide_eq_true q2
     ·exact absurd ⟨q, q2⟩ hmm
   clear hg hh hmm
   rcases hcase with hg1 | ⟨hg1, hh1⟩
   all_goals
    go_wp2_with fail
    refine HF.out.mono ?_
    rintro e w3 ⟨⟨v3, rfl, o3⟩, b3⟩
    have hys : ∀ y ∈ fitsC key l xs, y ∈ xs := fun y hy => (List.mem_filter.1 hy).1
    have hyl : (fitsC key l xs).length ≤ 20 := Nat.le_trans (List.length_filter_le _ _) HS2.out.t.len
    have HT3 := Lib.hid (HS2.out.t.below b3)
    have BW3 := Lib.hid (BW2.out.trans (b3.mono BW2.out.size))
    have HX := Lib.hid (SlR.of_owns o3)
    obtain ⟨Av, cv, rfl⟩ : ∃ Av cv, v3 = .slice Av (fitsC key l xs).length cv := by
     obtain ⟨Av, cv, he, -⟩ := (SlR.of_owns o3).form
     rw [List.length_map] at he
     exact ⟨Av, cv, he⟩
    clear o3 b3 HF HS2 BW2 k0 k2
    generalize fitsC key l xs = ys at *
    go_wp2_with fail
    go_loopw [7, 34] (fun s i wr => ∃ k : Nat, k ≤ ys.length ∧ i = .int .i64 k ∧ s = .string (nmO (best (fun x : Ce => x.h.came) (ys.take k))) ∧ Below w3.heap.size w3 wr) (fun _ i _ => ys.length - (intOf i).toNat)
    case atStart => exact ⟨0, by omega, rfl, rfl, Below.refl _ _⟩
    case round =>
     obtain ⟨k, hk, rfl, rfl, hb⟩ := hrel
     by_cases hlt : k < ys.length
     ·have hlt' : k < (ys.map (·.n)).length := by rw [List.length_map]; exact hlt
      obtain ⟨bb, off, c3, he, hcc, hbb, hcell⟩ := HX.out.texts (by omega)
      injection he with g1 g2 g3
      subst g1 g3
      have c0 := (hb.cell (p := ⟨bb, off + k, none⟩) hbb).trans (hcell k hlt')
      rw [List.getElem_map] at c0
      have hxm := hys _ (List.getElem_mem hlt)
      have HTK : Hid (best (fun x : Ce => x.h.came) (ys.take (k + 1)) = bestS (fun x : Ce => x.h.came) (best (fun x : Ce => x.h.came) (ys.take k)) ys[k]) := by
       show _ = _
       rw [List.take_add_one, List.getElem?_eq_getElem hlt]
       exact best_snoc _ _ _
      have HM : Hid (∀ y, best (fun x : Ce => x.h.came) (ys.take k) = some y → y ∈ xs) := fun y hy => hys y (List.mem_of_mem_take (best_mem _ hy))
      have HT := Lib.hid (fun (w' : World) (h : Below wr.heap.size wr w') => HT3.out.below (hb.trans (h.mono hb.size)))
      have HBB := Lib.hid hb
      clear hcell g2 hcc hb
      generalize ys[k] = x at *
      generalize best (fun x : Ce => x.h.came) (ys.take k) = o at *
      cases o with
      | none =>
       have HT1 : Hid (best (fun x : Ce => x.h.came) (ys.take (k + 1)) = some x) := HTK.out
       unfold nmO
       dsimp only
       go_wp2_with fail
       refine wp_region_seq [(true, 0), (true, 1), (true, 2), (true, 3), (true, 4), (true, 5), (true, 6), (true, 7), (true, 8), (true, 9), (true, 10), (true, 11), (true, 12), (true, 13), (true, 14), (true, 15), (true, 16), (true, 17), (true, 18), (true, 19), (true, 20), (true, 21), (true, 22), (true, 23), (true, 24)] (fun w' => Below wr.heap.size wr w') (by kernel_rfl) (by kernel_rfl) (fun _ _ _ _ _ h => h) (by kernel_rfl) (by kernel_rfl) (by first | exact (Below.refl _ _).drew | exact Below.drew (by assumption)) ?_
       have bS : Below wr.heap.size wr _ := (by first | exact Below.drew (by assumption) | exact (Below.refl _ wr).drew)
       iterate 25 (first
        | (apply seqH_skip; (focus (simp only [List.getElem?_toArray, List.getElem?_cons_succ, List.getElem?_cons_zero]; rfl)); (focus rfl); simp only [Act.put, List.setIfInBounds_toArray, List.set_cons_zero, List.set_cons_succ])
        | (apply seqH_take; (focus (simp only [List.getElem?_toArray, List.getElem?_cons_succ, List.getElem?_cons_zero]; rfl)); (focus rfl); (focus (intro w' hS; skip; first | (go_simp; rfl) | (go_simp; done))); simp only [Act.put, List.setIfInBounds_toArray, List.set_cons_zero, List.set_cons_succ])
        | (apply seqH_pass; (focus (simp only [List.getElem?_toArray, List.getElem?_cons_succ, List.getElem?_cons_zero]; rfl)); (focus rfl); (focus assumption); simp only [Act.put, List.setIfInBounds_toArray, List.set_cons_zero, List.set_cons_succ])
        | (apply seqH_eff; (focus (simp only [List.getElem?_toArray, List.getElem?_cons_succ, List.getElem?_cons_zero]; rfl)); (focus rfl); intro K hK; go_simp; fail; rintro e wN ⟨rfl, bN⟩; refine hK _ _ (seq_next (by assumption) bN (fun bS' => ?_)); clear hK K))
       refine seqH_nil ?_
       go_wp2_with fail
       go_roundw
       case rel => exact ⟨k + 1, by omega, by go_num, by rw [HT1.out], HBB.out.trans (Below.mono (by assumption) HBB.out.size)⟩
       case measure => simp [intOf]; omega
      | some y =>
       have hym := HM.out y rfl
       have hq : (y.n.toList == []) = false := by
        obtain ⟨i, -, -, hi⟩ := HT3.out.nm y hym
        rw [hi, beq_eq_false_iff_ne]
        intro e
        exact nameE_ne i (sl_inj (by rw [← ba_toList, e]; rfl))
       unfold nmO
       dsimp only
       by_cases hc : y.h.came ≤ x.h.came
       ·have hcd : decide (y.h.came ≤ x.h.came) = true := decide_eq_true hc
        have HT1 : Hid (best (fun x : Ce => x.h.came) (ys.take (k + 1)) = some x) := by show _ = _; rw [HTK.out]; simp [bestS, hc]
        clear hc HTK
        go_wp2_with fail
        refine wp_region_seq [(true, 0), (true, 1), (true, 2), (true, 3), (true, 4), (true, 5), (true, 6), (true, 7), (true, 8), (true, 9), (true, 10), (true, 11), (true, 12), (true, 13), (true, 14), (true, 15), (true, 16), (true, 17), (true, 18), (true, 19), (true, 20), (true, 21), (true, 22), (true, 23), (true, 24)] (fun w' => Below wr.heap.size wr w') (by kernel_rfl) (by kernel_rfl) (fun _ _ _ _ _ h => h) (by kernel_rfl) (by kernel_rfl) (by first | exact (Below.refl _ _).drew | exact Below.drew (by assumption)) ?_
        have bS : Below wr.heap.size wr _ := (by first | exact Below.drew (by assumption) | exact (Below.refl _ wr).drew)
        iterate 25 (first
         | (apply seqH_skip; (focus (simp only [List.getElem?_toArray, List.getElem?_cons_succ, List.getElem?_cons_zero]; rfl)); (focus rfl); simp only [Act.put, List.setIfInBounds_toArray, List.set_cons_zero, List.set_cons_succ])
         | (apply seqH_take; (focus (simp only [List.getElem?_toArray, List.getElem?_cons_succ, List.getElem?_cons_zero]; rfl)); (focus rfl); (focus (intro w' hS; have hT := HT.out _ hS; have c3 := hT.blk.cell 3; have l1 := hT.look hm hxm; have l2 := hT.look hm hym; have x9 := (hT.ent x hxm).blk.cell 9; have y9 := (hT.ent y hym).blk.cell 9; first | (go_simp; rfl) | (go_simp; done))); simp only [Act.put, List.setIfInBounds_toArray, List.set_cons_zero, List.set_cons_succ])
         | (apply seqH_pass; (focus (simp only [List.getElem?_toArray, List.getElem?_cons_succ, List.getElem?_cons_zero]; rfl)); (focus rfl); (focus assumption); simp only [Act.put, List.setIfInBounds_toArray, List.set_cons_zero, List.set_cons_succ])
         | (apply seqH_eff; (focus (simp only [List.getElem?_toArray, List.getElem?_cons_succ, List.getElem?_cons_zero]; rfl)); (focus rfl); intro K hK; go_simp; fail; rintro e wN ⟨rfl, bN⟩; refine hK _ _ (seq_next (by assumption) bN (fun bS' => ?_)); clear hK K))
        refine seqH_nil ?_
        go_wp2_with fail
        go_roundw
        case rel => exact ⟨k + 1, by omega, by go_num, by rw [HT1.out], HBB.out.trans (Below.mono (by assumption) HBB.out.size)⟩
        case measure => simp [intOf]; omega
       ·have hcd : decide (y.h.came ≤ x.h.came) = false := decide_eq_false hc
        have HT1 : Hid (best (fun x : Ce => x.h.came) (ys.take (k + 1)) = some y) := by show _ = _; rw [HTK.out]; simp [bestS, hc]
        clear hc HTK
        go_wp2_with fail
        refine wp_region_seq [(true, 0), (true, 1), (true, 2), (true, 3), (true, 4), (true, 5), (true, 6), (true, 7), (true, 8), (true, 9), (true, 10), (true, 11), (true, 12), (true, 13), (true, 14), (true, 15), (true, 16), (true, 17), (true, 18), (true, 19), (true, 20), (true, 21), (true, 22), (true, 23), (true, 24)] (fun w' => Below wr.heap.size wr w') (by kernel_rfl) (by kernel_rfl) (fun _ _ _ _ _ h => h) (by kernel_rfl) (by kernel_rfl) (by first | exact (Below.refl _ _).drew | exact Below.drew (by assumption)) ?_
        have bS : Below wr.heap.size wr _ := (by first | exact Below.drew (by assumption) | exact (Below.refl _ wr).drew)
        iterate 25 (first
         | (apply seqH_skip; (focus (simp only [List.getElem?_toArray, List.getElem?_cons_succ, List.getElem?_cons_zero]; rfl)); (focus rfl); simp only [Act.put, List.setIfInBounds_toArray, List.set_cons_zero, List.set_cons_succ])
         | (apply seqH_take; (focus (simp only [List.getElem?_toArray, List.getElem?_cons_succ, List.getElem?_cons_zero]; rfl)); (focus rfl); (focus (intro w' hS; have hT := HT.out _ hS; have c3 := hT.blk.cell 3; have l1 := hT.look hm hxm; have l2 := hT.look hm hym; have x9 := (hT.ent x hxm).blk.cell 9; have y9 := (hT.ent y hym).blk.cell 9; first | (go_simp; rfl) | (go_simp; done))); simp only [Act.put, List.setIfInBounds_toArray, List.set_cons_zero, List.set_cons_succ])
         | (apply seqH_pass; (focus (simp only [List.getElem?_toArray, List.getElem?_cons_succ, List.getElem?_cons_zero]; rfl)); (focus rfl); (focus assumption); simp only [Act.put, List.setIfInBounds_toArray, List.set_cons_zero, List.set_cons_succ])
         | (apply seqH_eff; (focus (simp only [List.getElem?_toArray, List.getElem?_cons_succ, List.getElem?_cons_zero]; rfl)); (focus rfl); intro K hK; go_simp; fail; rintro e wN ⟨rfl, bN⟩; refine hK _ _ (seq_next (by assumption) bN (fun bS' => ?_)); clear hK K))
        refine seqH_nil ?_
        go_wp2_with fail
        go_roundw
        case rel => exact ⟨k + 1, by omega, by go_num, by rw [HT1.out], HBB.out.trans (Below.mono (by assumption) HBB.out.size)⟩
        case measure => simp [intOf]; omega
     ·obtain rfl : k = ys.length := by omega
      have HR2 : Hid (R = best (fun x : Ce => x.h.came) (ys.take ys.length)) := by show _ = _; rw [HR.out, List.take_of_length_le (Nat.le_refl _)]
      go_wp2_with fail
      go_ret
      exact ⟨by rw [HR2.out]; rfl, BW3.out.trans (hb.mono BW3.out.size)⟩
  ·have hne : (E != 0) = true := by rw [bne_iff_ne]; exact hE
   have HR : Hid (R = none) := by show _ = _; rw [HQ.out, if_pos (.inr hE)]
   clear HQ hin hE
   have hcase : (m.toList == [71, 69, 84]) = true ∨ ((m.toList == [71, 69, 84]) = false ∧ (m.toList == [72, 69, 65, 68]) = true) := by
    by_cases q : m = getB
    ·exact .inl (by rw [hg]; exact decide_eq_true q)
    ·refine .inr ⟨by rw [hg]; exact decide_eq_false q, ?_⟩
     rw [hh]
     by_cases q2 : m = headB
     ·exact decide_eq_true q2
     ·exact absurd ⟨q, q2⟩ hmm
   clear hg hh hmm
   rcases hcase with hg1 | ⟨hg1, hh1⟩
   all_goals
    go_wp2_with fail
    go_ret
    exact ⟨by rw [HR.out]; rfl, BW2.out⟩
end Ca
set_option maxRecDepth 20000
namespace Ca
open Bk
theorem eF_perm {xs ys : List Ce} (hp : ys.Perm xs) (hk : (xs.map (·.n)).Nodup) (k : ByteArray) : eF xs k = eF ys k := by
 have hk' : (ys.map (·.n)).Nodup := ((hp.map _).nodup_iff).2 hk
 by_cases h : ∃ x ∈ xs, x.n = k
 ·obtain ⟨x, hx, rfl⟩ := h
  rw [eF_some hk hx, eF_some hk' (hp.mem_iff.2 hx)]
 ·rw [eF_none (fun x hx e => h ⟨x, hx, e⟩), eF_none (fun x hx e => h ⟨x, hp.mem_iff.1 hx, e⟩)]
theorem CaT.perm {w : World} {n0 : Lim} {M made : Nat} {A : Ad} {room : Int} {xs ys : List Ce} (h : CaT w n0 A room M xs made) (hp : ys.Perm xs) : CaT w n0 A room M ys made := by
 obtain ⟨es, cs, hpv, hc⟩ := h.pile
 exact ⟨h.blk, ⟨es, cs, hpv, hc.trans ((hp.symm.flatMap_right _).append_right _)⟩, h.mp.congr (eF_perm hp h.kd) hp.length_eq.symm, fun x hx => h.ent x (hp.mem_iff.1 hx), ((hp.map _).nodup_iff).2 h.nd, ((hp.map _).nodup_iff).2 h.kd, fun x hx => h.nm x (hp.mem_iff.1 hx), ⟨h.b0.1, h.b0.2.1, fun x hx => h.b0.2.2 x (hp.mem_iff.1 hx)⟩, h.ne, by rw [hp.length_eq]; exact h.len, h.exl⟩
theorem touchR_kv (n0 : Lim) (p c mb : Nat) (room : Int) (ns : List Nd) (L R : List Kv) (k : ByteArray) (s : Int) (w : World) (h : RowS w n0 p room c mb ns) (hkv : kv ns = L ++ (k, s) :: R) :
  Calls Tryz.prog 40 #[ptr p, .string k] w fun e w' => e = .returned (.bool true) ∧ (∃ ns', RowS w' n0 p room c mb ns' ∧ kv ns' = L ++ R ++ [(k, s)]) ∧ RG RY mb n0 w w' := by
 unfold kv at hkv
 obtain ⟨l, r0, rfl, h1, h2⟩ := List.map_eq_append_iff.1 hkv
 obtain ⟨x, r, rfl, h3, h4⟩ := List.map_eq_cons_iff.1 h2
 obtain ⟨b, k', s'⟩ := x
 injection h3 with h3 h5
 subst h3 h5
 refine (touch_some n0 p c mb b room l r k' s' w h).mono ?_
 rintro e w' ⟨rfl, ⟨b', h6⟩, h7⟩
 exact ⟨rfl, ⟨_, h6, by unfold kv; rw [List.map_append, List.map_append, h1, h4]; rfl⟩, h7⟩
theorem touch_any (n0 : Lim) (M made : Nat) (A : Ad) (room : Int) (a b : List Ce) (x : Ce) (w : World) (h : CaS w n0 A room M (a ++ x :: b) made) :
  Calls Tryz.prog 40 #[ptr A.pr, .string x.n] w fun e w' => e = .returned (.bool true) ∧ CaS w' n0 A room M (a ++ b ++ [x]) made ∧ RM CT A.ms n0 w w' := by
 obtain ⟨ns, hrow, hkv⟩ := h.row
 refine (touchR_kv n0 A.pr A.cr A.mr room ns (a.map fun x => kvE x.pl) (b.map fun x => kvE x.pl) x.n (kvE x.pl).2 w hrow (by rw [hkv, List.map_append]; rfl)).mono ?_
 rintro e w' ⟨rfl, ⟨ns', h1, h2⟩, h3⟩
 refine ⟨rfl, ⟨(h.t.row h3).perm ?_, ns', h1, by rw [h2, List.map_append, List.map_append]; rfl⟩, RM.of_rg h3 ct_ry (by simp [Ad.ms])⟩
 rw [List.append_assoc]
 exact (List.perm_append_left_iff a).2 (List.perm_append_comm (l₁ := b) (l₂ := [x]))
def touchC (xs : List Ce) (o : Option Ce) : List Ce := match o with | none => xs | some x => (xs.filter fun y => !decide (y.n = x.n)) ++ [x]
theorem touchC_split {a b : List Ce} {x : Ce} (hk : ((a ++ x :: b).map (·.n)).Nodup) : touchC (a ++ x :: b) (some x) = a ++ b ++ [x] := by
 unfold touchC
 rw [List.map_append, List.map_cons, List.nodup_append] at hk
 obtain ⟨h1, h2, h3⟩ := hk
 have ha : a.filter (fun y => !decide (y.n = x.n)) = a := List.filter_eq_self.2 fun y hy => by
  have := h3 y.n (List.mem_map.2 ⟨y, hy, rfl⟩) x.n (by simp)
  simp [this]
 have hb : b.filter (fun y => !decide (y.n = x.n)) = b := List.filter_eq_self.2 fun y hy => by
  have : y.n ≠ x.n := fun q => (List.nodup_cons.1 h2).1 (List.mem_map.2 ⟨y, hy, q⟩)
  simp [this]
 dsimp only
 rw [List.filter_append, List.filter_cons_of_neg (by simp), ha, hb]
theorem touchC_pl (xs : List Ce) (m t : ByteArray) (l : List Fld) : (touchC xs (bestC xs m t l)).map Ce.pl = findX (xs.map Ce.pl) m t l := by
 unfold findX
 rw [← bestC_pl]
 cases bestC xs m t l with
 | none => rfl
 | some x =>
  unfold touchC touchE
  dsimp only [Option.map_some]
  rw [List.map_append, List.filter_map]
  rfl
theorem res_ctt {fn : Func} {p u v : Tmp} {ty : TypeId} (h : fn.results = #[.cell p ty, .tmp u, .tmp v]) (tmps : Array Value) (P : Program) (w : World) (g : Nat) (t : TypeId) (cs : Array Value) (fr : Nat × Nat) (fs : Array Field)
  (hp : tmps.getD p undef = .pointer (some ⟨g, 0, none⟩)) (hg : w.heap[g]? = some (.cells cs t fr))
  (hu : P.underlying ty = some (.struct fs)) (hi : (P.info? ty).map (·.size) = some cs.size) :
  (results fn tmps).run P w = .ok (.tuple #[.agg cs, tmps.getD u undef, tmps.getD v undef]) w := by
 have hp' : tmps[p]?.getD undef = .pointer (some ⟨g, 0, none⟩) := by simpa using hp
 simp [results, h, hp', asAddr, run_loadVar_row w g t ty cs fr (.struct fs) hg hu rfl hi]
theorem EntB.far {w w' : World} {n0 : Lim} {M g : Nat} {x : Ce} {t : TypeId} {cs : Array Value} (h : EntB w n0 M x) (hg : w.grownBy w' (some g)) (hb : Blk w g t cs) (h1 : 80 ≠ t) (h2 : 57 ≠ t) (h3 : 9 ≠ t) : EntB w' n0 M x :=
 ⟨Blk.keptR h.blk hg (fun e => by
  injection e with e
  have h1' := h.blk
  rw [e] at h1'
  unfold Blk at h1' hb
  rw [hb] at h1'
  injection h1' with h1'
  injection h1' with _ h1'
  exact h1 h1'.symm), h.rf.grownOther hg (ownNe h.rf hb h2), h.u.grownOther hg (ownNe h.u hb h2), h.pv.grownOther hg (ownNe h.pv hb h3), h.bd, h.wl, h.wk, h.ow⟩
theorem blk_ne {w : World} {g k : Nat} {t t' : TypeId} {cs cs' : Array Value} (h : Blk w k t' cs') (hb : Blk w g t cs) (hne : t' ≠ t) : some k ≠ some g := fun e => by
 injection e with e
 subst e
 unfold Blk at h hb
 rw [hb] at h
 injection h with h
 injection h with _ h
 exact hne h.symm
theorem CaS.far {w w' : World} {n0 : Lim} {M made : Nat} {A : Ad} {room : Int} {xs : List Ce} {g : Nat} {t : TypeId} {cs : Array Value} (h : CaS w n0 A room M xs made) (hg : w.grownBy w' (some g)) (hb : Blk w g t cs) (hne : (CT ++ [57, 9]).contains t = false) : CaS w' n0 A room M xs made := by
 simp only [List.contains_append, List.contains_cons, List.contains_nil, Bool.or_false, Bool.or_eq_false_iff, beq_eq_false_iff_ne] at hne
 obtain ⟨⟨t1, t2, t3, t4, t5, t6, t7⟩, t8, t9⟩ := hne
 obtain ⟨es, cs', hpv, hc⟩ := h.t.pile
 obtain ⟨ns, hr, hk⟩ := h.row
 have hmp : ∀ {m : Nat} {f c}, MapS Tryz.prog w 9 m f c → some m ≠ some g := fun hm e => by
  injection e with e
  exact hm.ne_blk hb e
 refine ⟨⟨Blk.keptR h.t.blk hg (blk_ne h.t.blk hb (Ne.symm t1)), ⟨es, cs', ⟨?_, hpv.rep⟩, hc⟩, h.t.mp.kept hg (hmp h.t.mp), fun x hx => (h.t.ent x hx).far hg hb (Ne.symm t2) (Ne.symm t8) (Ne.symm t9), h.t.nd, h.t.kd, h.t.nm, h.t.b0, h.t.ne, h.t.len, h.t.exl⟩, ns, ?_, hk⟩
 ·exact (hpv.st.toT.kept hg (blk_ne hpv.st.blk hb (Ne.symm t6)) (hmp hpv.st.mp) (fun z hz => blk_ne (hpv.st.node z hz) hb (Ne.symm t7))).toS hpv.st.rm hpv.st.sz hpv.st.us
 ·exact hr.keptT hg (fun k hk => by cases hk; exact ⟨_, _, _, hb, t3, t4, t5⟩)
def useC (D : ByteArray → Option Nat) (l : List Fld) (x : Hp) (now : Int) : Int := Fr.useF (Fr.dirsF l) (Fr.dirsF x.k) (Fr.lifeF D x.k x.code x.came) (Fr.ageF D x.k x.came x.asked now)
def FindA (D : ByteArray → Option Nat) (l : List Fld) (now : Int) (base : Nat) (o : Option Ce) (e : Ending) (w' : World) : Prop :=
 match o with
 | none => e = .returned (.tuple #[.agg hZ, .int .i64 0, .bool false])
 | some x => ∃ u v, e = .returned (.tuple #[.agg (hdC x u v), .int .i64 (useC D l x.pl.x now), .bool true]) ∧ HoOk w' base (x, u, v)
theorem findA_none (D : ByteArray → Option Nat) (l : List Fld) (now : Int) (base : Nat) (w' : World) : FindA D l now base none (.returned (.tuple #[.agg hZ, .int .i64 0, .bool false])) w' := rfl
theorem findA_some {D : ByteArray → Option Nat} {l : List Fld} {now : Int} {base : Nat} {w' : World} {x : Ce} {u v : Value} {q : Int} (hq : q = useC D l x.pl.x now) (hk : HoOk w' base (x, u, v)) : FindA D l now base (some x) (.returned (.tuple #[.agg (hdC x u v), .int .i64 q, .bool true])) w' := ⟨u, v, by rw [hq], hk⟩
set_option maxHeartbeats 4000000 in
theorem find_any (D : ByteArray → Option Nat) (hD : Fr.IsDate D) (n0 : Lim) (M made : Nat) (A : Ad) (room : Int) (xs : List Ce) (m t : ByteArray) (u : Value) (b : ByteArray) (l : List Fld) (now : Int) (w : World) (h : CaS w n0 A room M xs made) (hm : made ≤ 9223372036854775807) (hM : M ≤ 4398046511104) (hus : ∀ W, RM CT A.ms n0 w W → SlR W e_ss u l) (hwl : Vy.wt l ≤ 4398046511104) (ht : t.size ≤ 281474976710656) (he : EnvK n0 w) :
  Calls Tryz.prog 12 #[ptr A.c, rqV m t u b, .int .i64 now] w fun e w' => FindA D l now w.heap.size (bestC xs m t l) e w' ∧ CaS w' n0 A room M (touchC xs (bestC xs m t l)) made ∧ RM CT A.ms n0 w w' := by
 have hu := hus w (RM.refl _ _ _ _)
 obtain ⟨Au, cu, rfl, hcu⟩ := hu.form
 have HUS := Lib.hid hus
 clear hus
 have hb2 := ((Below.refl w.heap.size w).alloc (Nat.le_refl _) (.cells #[.string m, .string t, .slice Au l.length cu, .string b] 25)).alloc (by simp) (.cells hZ 29)
 have hB := (Blk.new w 25 #[.string m, .string t, .slice Au l.length cu, .string b]).alloc (.cells hZ 29)
 have hZB : Blk ((w.alloc (.cells #[.string m, .string t, .slice Au l.length cu, .string b] 25)).alloc (.cells hZ 29)) (w.heap.size + 1) 29 hZ := by
  have := Blk.new (w.alloc (.cells #[.string m, .string t, .slice Au l.length cu, .string b] 25)) 29 hZ
  rwa [World.size_alloc] at this
 have hS := h.below hb2
 have HBe := Lib.hid (best_any n0 M made A room xs m t (.slice Au l.length cu) b l _ hS hm hM (hu.below hb2) hwl ht (he.below hb2))
 have HU := Lib.hid (hu.below hb2)
 have HE := Lib.hid (he.below hb2)
 have HS := Lib.hid hS
 have HB2 := Lib.hid hb2
 have hmem := @bestC_mem xs m t l
 have hn0 := h.n0w
 have hkd := h.t.kd
 clear h hu he hS hb2
 generalize bestC xs m t l = o at *
 unfold rqV at HBe ⊢
 unfold hZ at *
 go_enter Tryz.func12, Tryz.ntmps12
 go_wp2_with (first
  | refine wpList_load_row rfl 25 (.tmp 4) rfl w.heap.size rfl 25 _ (0, 0) _ hB Tryz.underlying25 rfl (by kernel_rfl) ?_)
 generalize ((w.alloc _).alloc _) = w2 at *
 refine HBe.out.mono ?_
 rintro e w3 ⟨rfl, b3⟩
 have hZ3 := hZB.below b3 hZB.lt
 have hB3 := hB.below b3 hB.lt
 have HS3 := Lib.hid (HS.out.below b3)
 have BW3 := Lib.hid (HB2.out.trans (b3.mono HB2.out.size))
 cases o with
 | none =>
  clear hB hB3 hZB hmem
  rw [show nmO none = ⟨#[]⟩ from rfl]
  go_wp2_with (first
   | refine wpList_store_row rfl _ _ _ rfl (w.heap.size + 1) _ rfl rfl 29 _ hZ3 (by kernel_rfl) (by kernel_rfl) (by kernel_rfl) ?_)
  have g4 := gsetRow w3 (w.heap.size + 1) #[.string ⟨#[]⟩, .string ⟨#[]⟩, .slice none 0 0, .string ⟨#[]⟩, .int .i64 0, .string ⟨#[]⟩, .slice none 0 0, .string ⟨#[]⟩, .int .i64 0, .int .i64 0, .int .i64 0]
  have B4 := BW3.out.grown g4 BW3.out.size (fun k hk => by cases hk; exact Nat.le_succ _)
  have hw : w3.setRow (w.heap.size + 1) #[.string ⟨#[]⟩, .string ⟨#[]⟩, .slice none 0 0, .string ⟨#[]⟩, .int .i64 0, .string ⟨#[]⟩, .slice none 0 0, .string ⟨#[]⟩, .int .i64 0, .int .i64 0, .int .i64 0] = w3 := setRow_self w3 _ _ _ _ hZ3
  rw [hw]
  refine bodyPost_ret (res_ctt rfl _ _ _ (w.heap.size + 1) 29 _ (0, 0) _ rfl hZ3 Tryz.underlying29 (by kernel_rfl)) rfl ⟨findA_none .., HS3.out, RM.of_below BW3.out hn0⟩
 | some x =>
  have hx := hmem rfl
  obtain ⟨a, c, rfl⟩ := List.append_of_mem hx
  rw [show nmO (some x) = x.n from rfl]
  have HSP := Lib.hid (touchC_split hkd)
  have hq : (x.n.toList == []) = false := by
   obtain ⟨i, -, -, hi⟩ := HS3.out.t.nm x hx
   rw [hi, beq_eq_false_iff_ne]
   intro e
   exact nameE_ne i (sl_inj (by rw [← ba_toList, e]; rfl))
  have HT := Lib.hid (touch_any n0 M made A room a c x w3 HS3.out)
  have p1 := HS3.out.t.blk.cell 1
  clear hmem hkd
  go_wp2_with fail
  refine HT.out.mono ?_
  rintro e w4 ⟨rfl, hS4, hr4⟩
  have hx4 : x ∈ a ++ c ++ [x] := by simp
  have HS4 := Lib.hid hS4
  have HR4 := Lib.hid hr4
  have hZ4 := Blk.rm hZ3 hr4 (by decide)
  have hB4 := Blk.rm hB3 hr4 (by decide)
  have c3 := hS4.t.blk.cell 3
  have hlk := hS4.t.look hm hx4
  have HH := Lib.hid (held_any n0 M made A room _ x w4 hS4.t hx4 hM)
  clear hS4 hr4 hZ3 hB3 hZB hB p1 HT
  go_wp2_with fail
  refine HH.out.mono ?_
  rintro e w5 ⟨⟨u5, v5, rfl, ou, ov⟩, b5⟩
  have hok : HoOk w5 w4.heap.size (x, u5, v5) := ⟨ou, ov⟩
  have hone := e_ho_one hok
  obtain ⟨A1, c1, rfl, -⟩ := (SlR.of_owns ou).form
  obtain ⟨A2, c2, rfl, -⟩ := (SlR.of_owns ov).form
  have hZ5 := hZ4.below b5 hZ4.lt
  have hB5 := hB4.below b5 hB4.lt
  have HS5 := Lib.hid (HS4.out.below b5)
  have b6 := (Below.refl w5.heap.size w5).alloc (Nat.le_refl _) (.cells (hdC x (.slice A1 x.l.length c1) (.slice A2 x.k.length c2)) 29)
  have hx6 := Blk.new w5 29 (hdC x (.slice A1 x.l.length c1) (.slice A2 x.k.length c2))
  have hZ6 := hZ5.below b6 hZ5.lt
  have hB6 := hB5.below b6 hB5.lt
  have hok6 := hok.below b6
  have HS6 := Lib.hid (HS5.out.below b6)
  have hst : (storeCells ⟨w5.heap.size, 0, none⟩ (hdC x (.slice A1 x.l.length c1) (.slice A2 x.k.length c2)).toList).run Tryz.prog (w5.alloc (.cells hZ 29)) = .ok () (w5.alloc (.cells (hdC x (.slice A1 x.l.length c1) (.slice A2 x.k.length c2)) 29)) :=
   run_storeCells_new (P := Tryz.prog) w5 29 hZ _ (by kernel_rfl) (by simp [hZ, hdC]) (by simp [hdC, Value.oneCell'])
  clear ou ov hZ4 hB4 hZ5 hB5 hok HH hone
  unfold hZ at hst
  unfold hdC at hst hx6 hok6 ⊢
  have hsz6 : w5.heap.size < (w5.alloc (.cells #[.string x.h.rm, .string x.h.rt, .slice A1 x.l.length c1, .string x.h.rb, .int .i64 x.h.code, .string x.h.rs, .slice A2 x.k.length c2, .string x.h.bd, .int .i64 x.h.asked, .int .i64 x.h.came, .int .i64 x.h.mark] 29)).heap.size := by simp
  have hn3 : n0.lo ≤ w3.heap.size := Nat.le_trans hn0 BW3.out.size
  have hr36 := HR4.out.below (b5.trans (b6.mono b5.size)) hn3
  have hrw6 := (RM.of_below (ex := CT) (ms := A.ms) BW3.out hn0).trans hr36
  unfold hdC at hr36 hrw6 b6 HS6 hB6 hZ6
  have hz56 := b6.size
  go_wp2_with fail
  generalize w5.alloc (.cells #[.string x.h.rm, .string x.h.rt, .slice A1 x.l.length c1, .string x.h.rb, .int .i64 x.h.code, .string x.h.rs, .slice A2 x.k.length c2, .string x.h.bd, .int .i64 x.h.asked, .int .i64 x.h.came, .int .i64 x.h.mark] 29) = w6 at *
  have HENV := Lib.hid (HE.out.bel ((Bel.of b3 (HS.out.n0w)).trans hr36.bel))
  have HU6 := Lib.hid (HUS.out _ hrw6)
  refine wp_region_effs [(true, 0), (true, 1), (true, 2), (true, 3), (true, 4), (false, 5), (false, 6), (true, 7), (true, 8)] 6 (fun w' => Below w6.heap.size w6 w') (by kernel_rfl) (by kernel_rfl) (fun _ _ _ _ _ h => h) (by kernel_rfl) (by kernel_rfl) ?_ ?_
  ·exact (Below.refl _ _).drew
  iterate 5 (first | (apply seqN_skip; (focus (simp only [List.getElem?_toArray, List.getElem?_cons_succ, List.getElem?_cons_zero]; rfl)); (focus rfl); simp only [Act.put, List.setIfInBounds_toArray, List.set_cons_zero, List.set_cons_succ]) | (apply seqN_pure; (focus (simp only [List.getElem?_toArray, List.getElem?_cons_succ, List.getElem?_cons_zero]; rfl)); (focus rfl); (focus (intro w'; first | (go_simp; rfl) | (go_simp; done))); simp only [Act.put, List.setIfInBounds_toArray, List.set_cons_zero, List.set_cons_succ]) | (apply seqN_take; (focus (simp only [List.getElem?_toArray, List.getElem?_cons_succ, List.getElem?_cons_zero]; rfl)); (focus kernel_rfl); (focus rfl); (focus (intro w' hS; have hx := hx6.below hS hx6.lt; have hb := hB6.below hS hB6.lt; have k2 := hb.cell 2; have c0 := hx.cell 0; have c1 := hx.cell 1; have c2 := hx.cell 2; have c3 := hx.cell 3; have c4 := hx.cell 4; have c5 := hx.cell 5; have c6 := hx.cell 6; have c7 := hx.cell 7; have c8 := hx.cell 8; have c9 := hx.cell 9; have c10 := hx.cell 10; first | (go_simp; rfl) | (go_simp; done))); simp only [Act.put, List.setIfInBounds_toArray, List.set_cons_zero, List.set_cons_succ]))
  apply seqN_eff
  (focus (simp only [List.getElem?_toArray, List.getElem?_cons_succ, List.getElem?_cons_zero]; rfl))
  (focus rfl)
  intro K hK
  go_simp
  refine (Fr.use_any D hD _ l { x.h with rf := .slice A1 x.l.length c1 } (.slice A2 x.k.length c2) x.k now w6.drew ⟨HU6.out.below (Below.refl _ _).drew, hwl⟩ ⟨(SlR.of_owns hok6.2).below (Below.refl _ _).drew, Nat.le_trans (HS6.out.t.ent x hx4).wk hM⟩ (HENV.out.below (Below.refl _ _).drew).p10 (HENV.out.below (Below.refl _ _).drew).max).mono ?_
  rintro e w7 ⟨rfl, b7⟩
  have B7 : Below w6.heap.size w6 w7 := (Below.refl _ _).drew.trans b7
  refine hK _ _ ⟨fun _ => B7, ?_⟩
  clear hK K
  have hZ7 := hZ6.below B7 hZ6.lt
  have hok7 := hok6.below B7
  have HS7 := Lib.hid (HS6.out.below B7)
  have hrw7 := hrw6.below B7 hn0
  apply seqN_eff
  (focus (simp only [List.getElem?_toArray, List.getElem?_cons_succ, List.getElem?_cons_zero]; rfl))
  (focus rfl)
  intro K hK
  refine wp_store_row 29 (.tmp 6) (.tmp 31) rfl (w.heap.size + 1) #[.string x.h.rm, .string x.h.rt, .slice A1 x.l.length c1, .string x.h.rb, .int .i64 x.h.code, .string x.h.rs, .slice A2 x.k.length c2, .string x.h.bd, .int .i64 x.h.asked, .int .i64 x.h.came, .int .i64 x.h.mark] rfl rfl 29 _ hZ7 (by kernel_rfl) (by kernel_rfl) (by kernel_rfl) ?_
  refine hK _ _ ⟨fun h => absurd h (by decide), ?_⟩
  clear hK K
  iterate 2 (first | (apply seqN_skip; (focus (simp only [List.getElem?_toArray, List.getElem?_cons_succ, List.getElem?_cons_zero]; rfl)); (focus rfl); simp only [Act.put, List.setIfInBounds_toArray, List.set_cons_zero, List.set_cons_succ]) | (apply seqN_pure; (focus (simp only [List.getElem?_toArray, List.getElem?_cons_succ, List.getElem?_cons_zero]; rfl)); (focus rfl); (focus (intro w'; first | (go_simp; rfl) | (go_simp; done))); simp only [Act.put, List.setIfInBounds_toArray, List.set_cons_zero, List.set_cons_succ]) | (apply seqN_take; (focus (simp only [List.getElem?_toArray, List.getElem?_cons_succ, List.getElem?_cons_zero]; rfl)); (focus kernel_rfl); (focus rfl); (focus (intro w' hS; skip; first | (go_simp; rfl) | (go_simp; done))); simp only [Act.put, List.setIfInBounds_toArray, List.set_cons_zero, List.set_cons_succ]))
  refine seqN_nil ?_
  have g8 := gsetRow w7 (w.heap.size + 1) #[.string x.h.rm, .string x.h.rt, .slice A1 x.l.length c1, .string x.h.rb, .int .i64 x.h.code, .string x.h.rs, .slice A2 x.k.length c2, .string x.h.bd, .int .i64 x.h.asked, .int .i64 x.h.came, .int .i64 x.h.mark]
  have hZ8 := setRow_heap w7 (w.heap.size + 1) _ #[.string x.h.rm, .string x.h.rt, .slice A1 x.l.length c1, .string x.h.rb, .int .i64 x.h.code, .string x.h.rs, .slice A2 x.k.length c2, .string x.h.bd, .int .i64 x.h.asked, .int .i64 x.h.came, .int .i64 x.h.mark] _ _ hZ7
  have hok8 : HoOk (w7.setRow (w.heap.size + 1) #[.string x.h.rm, .string x.h.rt, .slice A1 x.l.length c1, .string x.h.rb, .int .i64 x.h.code, .string x.h.rs, .slice A2 x.k.length c2, .string x.h.bd, .int .i64 x.h.asked, .int .i64 x.h.came, .int .i64 x.h.mark]) w.heap.size (x, .slice A1 x.l.length c1, .slice A2 x.k.length c2) :=
   ⟨(hok7.1.grownOther g8 (ownNe hok7.1 hZ7 (by decide))).mono (Nat.le_trans BW3.out.size HR4.out.size), (hok7.2.grownOther g8 (ownNe hok7.2 hZ7 (by decide))).mono (Nat.le_trans BW3.out.size HR4.out.size)⟩
  have hS8 := HS7.out.far (g := w.heap.size + 1) g8 hZ7 (by decide)
  have hr8 := hrw7.bel.grown g8 (Nat.le_trans hn0 hrw7.size) (fun k hk => by cases hk; exact .inl (by omega))
  have hr9 : RM CT A.ms n0 w (w7.setRow (w.heap.size + 1) #[.string x.h.rm, .string x.h.rt, .slice A1 x.l.length c1, .string x.h.rb, .int .i64 x.h.code, .string x.h.rs, .slice A2 x.k.length c2, .string x.h.bd, .int .i64 x.h.asked, .int .i64 x.h.came, .int .i64 x.h.mark]) := ⟨hr8, fun k o hk ho => (g8.block k (Nat.lt_of_lt_of_le (heap_lt' hk) hrw7.size) (fun e => by injection e with e; have := heap_lt' hk; omega)).trans (hrw7.fr k o hk ho)⟩
  generalize w7.setRow _ _ = w8 at *
  go_wp2_with fail
  refine bodyPost_ret (res_ctt rfl _ _ _ (w.heap.size + 1) 29 _ (0, 0) _ rfl hZ8 Tryz.underlying29 (by kernel_rfl)) rfl ⟨findA_some rfl hok8, ?_, hr9⟩
  rw [HSP.out]
  exact hS8
end Ca
set_option maxRecDepth 20000
namespace Ca
open Bk
theorem CaS.upd {w w' : World} {n0 : Lim} {M M' made : Nat} {A : Ad} {room : Int} {a : List Ce} {x y : Ce} (h : CaS w n0 A room M (a ++ [x]) made) (hg : w.grownBy w' (some x.b)) (hb : y.b = x.b) (hn : y.n = x.n) (hd : y.h.bd = x.h.bd) (hy : EntB w' n0 M' y) (hM : M ≤ M') : CaS w' n0 A room M' (a ++ [y]) made := by
 have hx := h.t.ent x (by simp)
 obtain ⟨es, cs', hpv, hc⟩ := h.t.pile
 obtain ⟨ns, hr, hk⟩ := h.row
 have hmp : ∀ {m : Nat} {f c}, MapS Tryz.prog w 9 m f c → some m ≠ some x.b := fun hm e => by
  injection e with e
  exact hm.ne_blk hx.blk e
 have hnd := h.t.nd
 rw [List.map_append, List.nodup_append] at hnd
 have hne : ∀ z ∈ a, some z.b ≠ some x.b := fun z hz e => by
  injection e with e
  exact hnd.2.2 z.b (List.mem_map.2 ⟨z, hz, rfl⟩) x.b (by simp) e
 have hbm : (a ++ [y]).map (·.b) = (a ++ [x]).map (·.b) := by simp [hb]
 have hnm : (a ++ [y]).map (·.n) = (a ++ [x]).map (·.n) := by simp [hn]
 have hch : chunksC (a ++ [y]) = chunksC (a ++ [x]) := by rw [chunksC_app, chunksC_app]; simp [chunksC, hd]
 have hef : ∀ k, eF (a ++ [x]) k = eF (a ++ [y]) k := by
  intro k
  unfold eF
  rw [List.find?_append, List.find?_append]
  cases a.find? (fun x => decide (x.n = k)) with
  | some z => rfl
  | none => by_cases q : x.n = k <;> simp [hn, hb, q]
 have hor : ∀ (P : Ce → Prop), (∀ z ∈ a, P z) → P y → ∀ z ∈ a ++ [y], P z := fun P h1 h2 z hz => by
  rcases List.mem_append.1 hz with hz | hz
  ·exact h1 z hz
  ·rw [List.mem_singleton.1 hz]; exact h2
 refine ⟨⟨Blk.keptR h.t.blk hg (blk_ne h.t.blk hx.blk (by decide)), ⟨es, cs', ⟨?_, hpv.rep⟩, hc.trans (by rw [hch])⟩, (h.t.mp.kept hg (hmp h.t.mp)).congr hef (by simp), hor _ (fun z hz => ?_) hy, by rw [hbm]; exact h.t.nd, by rw [hnm]; exact h.t.kd, hor _ (fun z hz => h.t.nm z (List.mem_append_left _ hz)) (by rw [hn]; exact h.t.nm x (by simp)), ⟨h.t.b0.1, h.t.b0.2.1, hor _ (fun z hz => h.t.b0.2.2 z (List.mem_append_left _ hz)) (by rw [hb]; exact h.t.b0.2.2 x (by simp))⟩, h.t.ne, by have := h.t.len; simpa using this, h.t.exl⟩, ns, ?_, ?_⟩
 ·exact (hpv.st.toT.kept hg (blk_ne hpv.st.blk hx.blk (by decide)) (hmp hpv.st.mp) (fun z hz => blk_ne (hpv.st.node z hz) hx.blk (by decide))).toS hpv.st.rm hpv.st.sz hpv.st.us
 ·have hz' := h.t.ent z (List.mem_append_left _ hz)
  exact ⟨Blk.keptR hz'.blk hg (hne z hz), hz'.rf.grownOther hg (ownNe hz'.rf hx.blk (by decide)), hz'.u.grownOther hg (ownNe hz'.u hx.blk (by decide)), hz'.pv.grownOther hg (ownNe hz'.pv hx.blk (by decide)), hz'.bd, Nat.le_trans hz'.wl hM, Nat.le_trans hz'.wk hM, hz'.ow⟩
 ·exact hr.keptT hg (fun k hk => by cases hk; exact ⟨_, _, _, hx.blk, by decide, by decide, by decide⟩)
 ·rw [hk]
  simp [Ce.pl, kvE, sizeE, plH, hn, hd]
theorem freshF_wt (k f : List Fld) : Fr.wt (Pol.freshF k f) ≤ Fr.wt k + Fr.wt f := by
 have hk : ∀ ns (l : List Fld), Fr.wt (Pol.keepW ns l) ≤ Fr.wt l := fun ns l => Pol.wt_filter _ l
 have h2 := hk (Pol.namesF f) k
 have h3 := hk Pol.below4 (Pol.stripF f)
 have h4 : Fr.wt (Pol.stripF f) ≤ Fr.wt f := hk _ _
 unfold Pol.freshF
 have e : ∀ l m : List Fld, Fr.wt (l ++ m) = Fr.wt l + Fr.wt m := fun l m => Pol.wt_append l m
 rw [e]
 omega
theorem touchE_pl (xs : List Ce) (x : Ce) : touchE (xs.map Ce.pl) x.pl = (touchC xs (some x)).map Ce.pl := by
 unfold touchC touchE
 dsimp only
 rw [List.map_append, List.filter_map]
 rfl
set_option maxHeartbeats 4000000 in
theorem renew_any (n0 : Lim) (M made : Nat) (A : Ad) (room : Int) (xs : List Ce) (m t : ByteArray) (u : Value) (b : ByteArray) (l : List Fld) (fv : Value) (f : List Fld) (asked came : Int) (w : World) (h : CaS w n0 A room M xs made) (hm : made ≤ 9223372036854775807) (hM : M ≤ 1099511627776) (hus : ∀ W, RM CT A.ms n0 w W → SlR W e_ss u l) (hwl : Vy.wt l ≤ 4398046511104) (ht : t.size ≤ 281474976710656) (hfs : ∀ W, RM CT A.ms n0 w W → SlR W e_ss fv f) (hwf : Fr.wt f ≤ 1099511627776) (he : EnvK n0 w) :
  Calls Tryz.prog 18 #[ptr A.c, rqV m t u b, fv, .int .i64 asked, .int .i64 came] w fun e w' => e = .returned (.bool (bestC xs m t l).isSome) ∧ (∃ ys, ys.map Ce.pl = renewX (xs.map Ce.pl) m t l f asked came ∧ CaS w' n0 A room (M + Fr.wt f) ys made) ∧ RM CT A.ms n0 w w' := by
 have hu := hus w (RM.refl _ _ _ _)
 obtain ⟨Au, cu, rfl, hcu⟩ := hu.form
 obtain ⟨Af, cf, rfl, -⟩ := (hfs w (RM.refl _ _ _ _)).form
 have HFS := Lib.hid hfs
 clear hus hfs
 have hb2 := (Below.refl w.heap.size w).alloc (Nat.le_refl _) (.cells #[.string m, .string t, .slice Au l.length cu, .string b] 25)
 have hB := Blk.new w 25 #[.string m, .string t, .slice Au l.length cu, .string b]
 have hS := h.below hb2
 have HBe := Lib.hid (best_any n0 M made A room xs m t (.slice Au l.length cu) b l _ hS hm (by omega) (hu.below hb2) hwl ht (he.below hb2))
 have HS := Lib.hid hS
 have HB2 := Lib.hid hb2
 have HPL := Lib.hid (bestC_pl xs m t l)
 have hmem := @bestC_mem xs m t l
 have hn0 := h.n0w
 have hkd := h.t.kd
 have HRX : Hid (renewX (xs.map Ce.pl) m t l f asked came = match bestE (xs.map Ce.pl) m t l with | none => xs.map Ce.pl | some e => touchE (xs.map Ce.pl) { e with x := renewH e.x f asked came }) := rfl
 clear h hu he hS hb2
 generalize bestC xs m t l = o at *
 unfold rqV at HBe ⊢
 go_enter Tryz.func18, Tryz.ntmps18
 go_wp2_with (first
  | refine wpList_load_row rfl 25 (.tmp 6) rfl w.heap.size rfl 25 _ (0, 0) _ hB Tryz.underlying25 rfl (by kernel_rfl) ?_)
 generalize (w.alloc _) = w2 at *
 refine HBe.out.mono ?_
 rintro e w3 ⟨rfl, b3⟩
 have HS3 := Lib.hid (HS.out.below b3)
 have BW3 := Lib.hid (HB2.out.trans (b3.mono HB2.out.size))
 cases o with
 | none =>
  have HR : Hid (renewX (xs.map Ce.pl) m t l f asked came = xs.map Ce.pl) := by show _ = _; rw [HRX.out, ← HPL.out]; rfl
  clear hB hmem
  rw [show nmO none = ⟨#[]⟩ from rfl]
  go_wp2_with fail
  go_ret
  exact ⟨rfl, ⟨xs, HR.out.symm, HS3.out.mono (Nat.le_add_right _ _)⟩, RM.of_below BW3.out hn0⟩
 | some x =>
  have hx := hmem rfl
  obtain ⟨a, c, rfl⟩ := List.append_of_mem hx
  have HR : Hid (renewX ((a ++ x :: c).map Ce.pl) m t l f asked came = (a ++ c).map Ce.pl ++ [{ x.pl with x := renewH x.pl.x f asked came }]) := by
   show _ = _
   rw [HRX.out, ← HPL.out]
   have hsp := touchC_split hkd
   have := touchE_pl (a ++ x :: c) x
   rw [hsp] at this
   unfold touchE at this ⊢
   dsimp only [Option.map_some]
   rw [List.map_append (l₁ := a ++ c)] at this
   have h2 := (List.append_inj' this rfl).1
   rw [show ({ x.pl with x := renewH x.pl.x f asked came } : En).n = x.pl.n from rfl, h2]
  rw [show nmO (some x) = x.n from rfl]
  have hq : (x.n.toList == []) = false := by
   obtain ⟨i, -, -, hi⟩ := HS3.out.t.nm x hx
   rw [hi, beq_eq_false_iff_ne]
   intro e
   exact nameE_ne i (sl_inj (by rw [← ba_toList, e]; rfl))
  have HT := Lib.hid (touch_any n0 M made A room a c x w3 HS3.out)
  have p1 := HS3.out.t.blk.cell 1
  clear hmem hkd
  go_wp2_with fail
  refine HT.out.mono ?_
  rintro e w4 ⟨rfl, hS4, hr4⟩
  have hx4 : x ∈ a ++ c ++ [x] := by simp
  have HS4 := Lib.hid hS4
  have hr4w := (RM.of_below (ex := CT) (ms := A.ms) BW3.out hn0).trans hr4
  have HR4 := Lib.hid hr4w
  have c3 := hS4.t.blk.cell 3
  have hlk := hS4.t.look hm hx4
  have hE := hS4.t.ent x hx4
  obtain ⟨Av, cv, hv, -⟩ := (SlR.of_owns hE.u).form
  have x6 : w4.cell? ⟨x.b, 6, none⟩ = some (.slice Av x.k.length cv) := by rw [hE.blk.cell 6, ← hv]; rfl
  have HP := Lib.hid (Pol.freshen_any x.u (.slice Af f.length cf) x.k f w4 ⟨SlR.of_owns hE.u, Nat.le_trans hE.wk (by omega)⟩ ⟨HFS.out _ hr4w, Nat.le_trans hwf (by decide)⟩ (by have h1 := hE.wk; have h2 := hwf; unfold Fr.wt at h1 h2; unfold Pol.wt; omega))
  rw [hv] at HP
  have hwk := hE.wk
  clear hS4 hr4 hr4w hB p1 HT
  go_wp2_with fail
  refine HP.out.mono ?_
  rintro e w5 ⟨⟨v5, rfl, o5⟩, b5⟩
  have hE5 := hE.blk.below b5 hE.blk.lt
  have HS5 := Lib.hid (HS4.out.below b5)
  have HR5 := Lib.hid (HR4.out.below b5 hn0)
  obtain ⟨A5, c5, rfl, -⟩ := (SlR.of_owns o5).form
  have HO5 : Hid (Owns w5 n0.lo 57 2 e_ss (.slice A5 (Pol.freshF x.k f).length c5) (Pol.freshF x.k f)) := o5.mono (Nat.le_trans hn0 HR4.out.size)
  have y6 : w5.cell? ⟨x.b, 6, none⟩ = some (.slice Av x.k.length cv) := by rw [hE5.cell 6, ← hv]; rfl
  have f6 := hE5.frozen 6
  have f8 := hE5.frozen 8
  have f9 := hE5.frozen 9
  have y8 := hE5.cell 8
  have y9 := hE5.cell 9
  clear o5 hE x6 hlk c3 HP hv
  have hw : ∀ z, z = (((w5.setCell ⟨x.b, 6, none⟩ (.slice A5 (Pol.freshF x.k f).length c5)).setCell ⟨x.b, 8, none⟩ (.int .i64 asked)).setCell ⟨x.b, 9, none⟩ (.int .i64 came)) → w5.grownBy z (some x.b) ∧ EntB z n0 (M + Fr.wt f) { x with u := .slice A5 (Pol.freshF x.k f).length c5, k := Pol.freshF x.k f, h := { x.h with asked := asked, came := came } } := by
   rintro z rfl
   have g := gr_trans (gr_trans (gcell w5 ⟨x.b, 6, none⟩ (.slice A5 (Pol.freshF x.k f).length c5)) (gcell _ ⟨x.b, 8, none⟩ (.int .i64 asked))) (gcell _ ⟨x.b, 9, none⟩ (.int .i64 came))
   have hEE := HS5.out.t.ent x hx4
   have hb := ((hEE.blk.set_ 6 (.slice A5 (Pol.freshF x.k f).length c5)).set_ 8 (.int .i64 asked)).set_ 9 (.int .i64 came)
   refine ⟨g, hb, hEE.rf.grownOther g (ownNe hEE.rf hEE.blk (by decide)), (HO5.out.grownOther g (ownNe HO5.out hEE.blk (by decide))).mono (Nat.zero_le _), hEE.pv.grownOther g (ownNe hEE.pv hEE.blk (by decide)), hEE.bd, Nat.le_trans hEE.wl (Nat.le_add_right _ _), ?_, fun b e => e.elim (fun e => hEE.ow b (.inl e)) (fun e => e.elim (fun e => .inl (HO5.out.lt b e).1) (fun e => hEE.ow b (.inr (.inr e))))⟩
   have := freshF_wt x.k f
   have := hEE.wk
   show Fr.wt (Pol.freshF x.k f) ≤ _
   omega
  have HZ := Lib.hid hw
  clear hw
  go_wp2_with fail
  go_ret
  obtain ⟨g, hE9⟩ := HZ.out _ rfl
  have hxb := HS5.out.t.b0.2.2 x hx4
  refine ⟨rfl, ⟨a ++ c ++ [{ x with u := .slice A5 (Pol.freshF x.k f).length c5, k := Pol.freshF x.k f, h := { x.h with asked := asked, came := came } }], ?_, HS5.out.upd g rfl rfl rfl hE9 (Nat.le_add_right _ _)⟩, HR5.out.grown g (Nat.le_trans hn0 HR5.out.size) (fun k hk => ?_)⟩
  ·rw [HR.out, List.map_append]
   rfl
  ·cases hk
   exact ⟨hxb, _, hE5, rfl⟩
end Ca
set_option maxRecDepth 20000
namespace Ca
open Bk
theorem PileS.low {w : World} {n0 n1 : Lim} {p mb : Nat} {room : Int} {es : List Pe} (h : PileS w n1 p room mb es) (hn : ∀ k, n1.ok k → n0.ok k) (hz : n0.lo ≤ w.heap.size) : PileS w n0 p room mb es :=
 ⟨h.blk, h.node, h.mp, h.nd, h.kd, ⟨hn _ h.b0.1, hn _ h.b0.2.1, fun x hx => hn _ (h.b0.2.2 x hx)⟩, hz, h.rm, h.sz, h.us⟩
set_option maxHeartbeats 2000000 in
theorem newC_any (room : Int) (w : World) (h1 : 1 ≤ room) (h2 : room ≤ 1000000) :
  Calls Tryz.prog 29 #[.int .i64 room] w fun e w' => (∃ A, e = .returned (.tuple #[ptr A.c, .int .i64 0]) ∧ A.ex = [] ∧ CaS w' w.heap.size A room 0 [] 0) ∧ Below w.heap.size w w' := by
 have hmm := @run_makeMap Tryz.prog
 go_enter Tryz.func29, Tryz.ntmps29
 go_wp2_with fail
 refine (newRow_any room w h1 h2).mono ?_
 rintro e w1 ⟨pr, cr, mr, rfl, hR, b1⟩
 go_wp2_with fail
 refine (newP_any 1000000 w1 (by decide) (by decide)).mono ?_
 rintro e w2 ⟨pp, mp, rfl, hP, b2⟩
 have hmr := hR.ch.mp.lt
 have hmp := hP.mp.lt
 have hmp1 := lim_ok.1 hP.b0.2.1
 have hR2 := hR.below b2
 have HP := Lib.hid (PileS.low (n0 := lim w.heap.size) hP (lim_sub b1.size) (Nat.le_trans b1.size b2.size))
 have HR := Lib.hid hR2
 have B2 := b1.trans (b2.mono b1.size)
 have hz2 := b2.size
 have hz1 := B2.size
 clear hR hP hR2
 go_wp2_with fail
 go_ret2
 have hA : Below w2.heap.size w2 ((w2.alloc (.map #[] 0)).alloc (.cells #[.int .i64 room, ptr pr, ptr pp, .map (some w2.heap.size), .int .i64 0] 76)) := ((Below.refl _ w2).alloc (Nat.le_refl _) _).alloc (by simp) _
 have hm0 := (MapS.made w2 Tryz.prog 9).alloc (.cells #[.int .i64 room, ptr pr, ptr pp, .map (some w2.heap.size), .int .i64 0] 76)
 have hN : Blk ((w2.alloc (.map #[] 0)).alloc (.cells #[.int .i64 room, ptr pr, ptr pp, .map (some w2.heap.size), .int .i64 0] 76)) (w2.heap.size + 1) 76 #[.int .i64 room, ptr pr, ptr pp, .map (some w2.heap.size), .int .i64 0] := by
  have := Blk.new (w2.alloc (.map #[] 0)) 76 #[.int .i64 room, ptr pr, ptr pp, .map (some w2.heap.size), .int .i64 0]
  rwa [World.size_alloc] at this
 refine ⟨⟨⟨w2.heap.size + 1, pr, cr, mr, pp, mp, w2.heap.size, []⟩, by simp, rfl, ⟨⟨hN, ⟨[], [], ⟨HP.out.below hA, RepS.nil⟩, by simp [chunksC]⟩, hm0, by simp, by simp, by simp, by simp, ⟨lim_ok.2 (by show w.heap.size ≤ w2.heap.size + 1; omega), lim_ok.2 (by show w.heap.size ≤ w2.heap.size; omega), by simp⟩, ⟨by show mr ≠ mp; omega, by show mr ≠ w2.heap.size; omega, by show mp ≠ w2.heap.size; omega⟩, by simp, by simp⟩, [], HR.out.below hA, rfl⟩⟩, B2.trans (hA.mono hz1)⟩
end Ca
end Go.Proofs.YtgnblkmpoigejaaGreatDoor
