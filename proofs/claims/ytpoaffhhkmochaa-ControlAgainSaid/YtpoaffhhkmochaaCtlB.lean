/- control's text of a directive. -/
import Derived.Test.YtpoaffhhkmochaaPiece
import Derived.Test.YtpoaffhhkmochaaRegion
namespace Go.Proofs.Ytpoaffhhkmochaa
set_option maxRecDepth 20000
open Go.RowKit
abbrev Dr := ByteArray × Bool × ByteArray
def vDr (d : Dr) : Value := .agg #[.string d.1, .bool d.2.1, .string d.2.2]
theorem isToken_bel (s : ByteArray) (w : World) (hs : s.size ≤ 9223372036854775807) :
    Calls Try.prog 55 #[.string s] w fun e w' => e = .returned (.bool (Tok.isTok s)) ∧ Below w.heap.size w w' :=
  (isToken_any s w hs).mono fun e w' ⟨he, hw⟩ => ⟨he, hw ▸ Below.refl _ _⟩
/-- The name is in order, and there is an argument only where it says so. -/
def okD (d : Dr) : Bool := Tok.isTok d.1 && (d.1.toList == (lowT d.1).toList) && (d.2.1 || d.2.2.toList.isEmpty)
/-- The text of a directive, where it has one. -/
def textD (d : Dr) : Option ByteArray :=
  if okD d then (if d.2.1 then (if Tok.isTok d.2.2 then some (d.1 ++ ⟨#[61]⟩ ++ d.2.2) else if (sl d.2.2).length ≤ 1000 ∧ (sl d.2.2).all Tok.plainB = true then some (d.1 ++ ⟨#[61]⟩ ++ mkS (Tok.quoteL (sl d.2.2))) else none) else some d.1) else none
def TextAns (d : Dr) (e : Ending) : Prop :=
  (∃ s, textD d = some s ∧ e = .returned (.tuple #[.string s, .int .i64 0])) ∨ (textD d = none ∧ ∃ c : Int, 1 ≤ c ∧ c ≤ 3 ∧ e = .returned (.tuple #[.string ByteArray.empty, .int .i64 c]))
theorem okD_of {n a : ByteArray} {h : Bool} {b1 b2 b3 : Bool} (h1 : Tok.isTok n = b1) (h2 : (n.toList == (lowT n).toList) = b2) (h3 : (h || a.toList.isEmpty) = b3) : okD (n, h, a) = (b1 && b2 && b3) := by
  unfold okD; rw [h1, h2, h3]
theorem escs_len2 : ∀ l : List UInt8, (Tok.escs l).length ≤ 2 * l.length
  | [] => by simp [Tok.escs]
  | c :: l => by
    have ih := escs_len2 l
    have : (Tok.esc c).length ≤ 2 := by unfold Tok.esc; split <;> simp
    simp only [Tok.escs, List.flatMap_cons, List.length_append, List.length_cons] at ih ⊢; omega
set_option maxHeartbeats 3200000 in
theorem text_any (d : Dr) (w : World) (hn : d.1.size ≤ 140737488351232) (hz : d.2.2.size ≤ 140737488351232) :
    Calls Try.prog 36 #[vDr d] w fun e w' => TextAns d e ∧ Below w.heap.size w w' := by
  obtain ⟨n, h, a⟩ := d
  have hn' : n.size ≤ 140737488351232 := hn
  have hz' : a.size ≤ 140737488351232 := hz
  clear hn hz
  have HI := Lib.hid (fun w => isToken_bel n w (by omega))
  have HLo := Lib.hid (fun w => lower_any n w (by omega))
  rw [show mkS (Tok.low (sl n)) = lowT n from rfl] at HLo
  unfold TextAns
  have hT : Hid (textD (n, h, a) = if okD (n, h, a) then (if h then (if Tok.isTok a then some (n ++ ⟨#[61]⟩ ++ a) else if (sl a).length ≤ 1000 ∧ (sl a).all Tok.plainB = true then some (n ++ ⟨#[61]⟩ ++ mkS (Tok.quoteL (sl a))) else none) else some n) else none) := rfl
  have hO : Hid (∀ {b1 b2 b3 : Bool}, Tok.isTok n = b1 → (n.toList == (lowT n).toList) = b2 → (h || a.toList.isEmpty) = b3 → okD (n, h, a) = (b1 && b2 && b3)) := fun h1 h2 h3 => okD_of h1 h2 h3
  generalize textD (n, h, a) = td at *
  generalize okD (n, h, a) = ok at *
  show Calls _ _ #[.agg #[.string n, .bool h, .string a]] _ _
  go_enter Try.func36, Try.ntmps36
  go_wp2_with fail
  have b0 : Below w.heap.size w (w.alloc (.cells #[.string n, .bool h, .string a] 37)) := (Below.refl _ _).alloc (Nat.le_refl _) _
  have c0 : (w.alloc (.cells #[.string n, .bool h, .string a] 37)).cell? ⟨w.heap.size, 0, none⟩ = some (.string n) := by go_simp
  have c1 : (w.alloc (.cells #[.string n, .bool h, .string a] 37)).cell? ⟨w.heap.size, 1, none⟩ = some (.bool h) := by go_simp
  have c2 : (w.alloc (.cells #[.string n, .bool h, .string a] 37)).cell? ⟨w.heap.size, 2, none⟩ = some (.string a) := by go_simp
  have hw0 : w.heap.size < (w.alloc (.cells #[.string n, .bool h, .string a] 37)).heap.size := by simp
  generalize w.alloc (.cells #[.string n, .bool h, .string a] 37) = w0 at *
  have HC := Lib.hid (fun w' (hb : Below w0.heap.size w0 w') => show w'.cell? ⟨w.heap.size, 0, none⟩ = some (.string n) ∧ w'.cell? ⟨w.heap.size, 1, none⟩ = some (.bool h) ∧ w'.cell? ⟨w.heap.size, 2, none⟩ = some (.string a) from ⟨(hb.cell hw0).trans c0, (hb.cell hw0).trans c1, (hb.cell hw0).trans c2⟩)
  clear c0 c1 c2
  cases hI : Tok.isTok n
  · rw [hI] at HI
    have HK : Hid (td = none) := by show _ = _; rw [hT.out, hO.out hI rfl rfl]; rfl
    clear hI
    refine wp_region_seq [(true, 0), (true, 1), (false, 2), (true, 3), (true, 4), (true, 5), (true, 6), (true, 7), (true, 8), (false, 9), (true, 10), (true, 11), (true, 12), (true, 13), (true, 14), (true, 15), (true, 16), (true, 17), (true, 18), (true, 19), (true, 20), (true, 21)] (fun w' => Below w0.heap.size w0 w') (by kernel_rfl) (by kernel_rfl) (fun _ _ _ _ _ h => h) (by kernel_rfl) (by kernel_rfl) (by first | exact (Below.refl _ _).drew | exact Below.drew (by assumption)) ?_
    have bS : Below w0.heap.size w0 _ := (by first | exact (Below.refl _ w0).drew | exact Below.drew (by assumption))
    iterate 22 (first
      | (apply seqH_skip; (focus (simp only [List.getElem?_toArray, List.getElem?_cons_succ, List.getElem?_cons_zero]; rfl)); (focus rfl); simp only [Act.put, List.setIfInBounds_toArray, List.set_cons_zero, List.set_cons_succ])
      | (apply seqH_take; (focus (simp only [List.getElem?_toArray, List.getElem?_cons_succ, List.getElem?_cons_zero]; rfl)); (focus rfl); (focus (intro w' hS; obtain ⟨c0, c1, c2⟩ := HC.out _ hS; first | (go_simp; rfl) | (go_simp; done))); simp only [Act.put, List.setIfInBounds_toArray, List.set_cons_zero, List.set_cons_succ])
      | (apply seqH_pass; (focus (simp only [List.getElem?_toArray, List.getElem?_cons_succ, List.getElem?_cons_zero]; rfl)); (focus rfl); (focus assumption); simp only [Act.put, List.setIfInBounds_toArray, List.set_cons_zero, List.set_cons_succ])
      | (apply seqH_eff; (focus (simp only [List.getElem?_toArray, List.getElem?_cons_succ, List.getElem?_cons_zero]; rfl)); (focus rfl); intro K hK; go_simp; (first | (go_at_call 55; (with_reducible refine (HI.out _).mono ?_)) | (go_at_call 56; (with_reducible refine (HLo.out _).mono ?_))); rintro e wN ⟨rfl, bN⟩; refine hK _ _ (seq_next (by assumption) bN (fun bS' => ?_)); clear hK K))
    refine seqH_nil ?_
    go_wp2_with fail
    go_ret2
    exact ⟨.inr ⟨HK.out, 3, by omega, by omega, rfl⟩, b0.trans (Below.mono (by assumption) (by omega))⟩
  · rw [hI] at HI
    have HI1 := Lib.hid hI
    clear hI
    obtain ⟨ln, hln⟩ : ∃ ln, lowT n = ln := ⟨_, rfl⟩
    rw [hln] at HLo hO
    clear hln
    cases hb : (n.toList == ln.toList)
    · have HK : Hid (td = none) := by show _ = _; rw [hT.out, hO.out HI1.out hb rfl]; rfl
      refine wp_region_seq [(true, 0), (true, 1), (false, 2), (true, 3), (true, 4), (true, 5), (true, 6), (true, 7), (true, 8), (false, 9), (true, 10), (true, 11), (true, 12), (true, 13), (true, 14), (true, 15), (true, 16), (true, 17), (true, 18), (true, 19), (true, 20), (true, 21)] (fun w' => Below w0.heap.size w0 w') (by kernel_rfl) (by kernel_rfl) (fun _ _ _ _ _ h => h) (by kernel_rfl) (by kernel_rfl) (by first | exact (Below.refl _ _).drew | exact Below.drew (by assumption)) ?_
      have bS : Below w0.heap.size w0 _ := (by first | exact (Below.refl _ w0).drew | exact Below.drew (by assumption))
      iterate 22 (first
        | (apply seqH_skip; (focus (simp only [List.getElem?_toArray, List.getElem?_cons_succ, List.getElem?_cons_zero]; rfl)); (focus rfl); simp only [Act.put, List.setIfInBounds_toArray, List.set_cons_zero, List.set_cons_succ])
        | (apply seqH_take; (focus (simp only [List.getElem?_toArray, List.getElem?_cons_succ, List.getElem?_cons_zero]; rfl)); (focus rfl); (focus (intro w' hS; obtain ⟨c0, c1, c2⟩ := HC.out _ hS; first | (go_simp; rfl) | (go_simp; done))); simp only [Act.put, List.setIfInBounds_toArray, List.set_cons_zero, List.set_cons_succ])
        | (apply seqH_pass; (focus (simp only [List.getElem?_toArray, List.getElem?_cons_succ, List.getElem?_cons_zero]; rfl)); (focus rfl); (focus assumption); simp only [Act.put, List.setIfInBounds_toArray, List.set_cons_zero, List.set_cons_succ])
        | (apply seqH_eff; (focus (simp only [List.getElem?_toArray, List.getElem?_cons_succ, List.getElem?_cons_zero]; rfl)); (focus rfl); intro K hK; go_simp; (first | (go_at_call 55; (with_reducible refine (HI.out _).mono ?_)) | (go_at_call 56; (with_reducible refine (HLo.out _).mono ?_))); rintro e wN ⟨rfl, bN⟩; refine hK _ _ (seq_next (by assumption) bN (fun bS' => ?_)); clear hK K))
      refine seqH_nil ?_
      go_wp2_with fail
      go_ret2
      exact ⟨.inr ⟨HK.out, 3, by omega, by omega, rfl⟩, b0.trans (Below.mono (by assumption) (by omega))⟩
    · cases h
      · cases ha : a.toList.isEmpty
        · have HK : Hid (td = none) := by show _ = _; rw [hT.out, hO.out HI1.out hb (b3 := false) (by rw [ha]; rfl)]; rfl
          refine wp_region_seq [(true, 0), (true, 1), (false, 2), (true, 3), (true, 4), (true, 5), (true, 6), (true, 7), (true, 8), (false, 9), (true, 10), (true, 11), (true, 12), (true, 13), (true, 14), (true, 15), (true, 16), (true, 17), (true, 18), (true, 19), (true, 20), (true, 21)] (fun w' => Below w0.heap.size w0 w') (by kernel_rfl) (by kernel_rfl) (fun _ _ _ _ _ h => h) (by kernel_rfl) (by kernel_rfl) (by first | exact (Below.refl _ _).drew | exact Below.drew (by assumption)) ?_
          have bS : Below w0.heap.size w0 _ := (by first | exact (Below.refl _ w0).drew | exact Below.drew (by assumption))
          iterate 22 (first
            | (apply seqH_skip; (focus (simp only [List.getElem?_toArray, List.getElem?_cons_succ, List.getElem?_cons_zero]; rfl)); (focus rfl); simp only [Act.put, List.setIfInBounds_toArray, List.set_cons_zero, List.set_cons_succ])
            | (apply seqH_take; (focus (simp only [List.getElem?_toArray, List.getElem?_cons_succ, List.getElem?_cons_zero]; rfl)); (focus rfl); (focus (intro w' hS; obtain ⟨c0, c1, c2⟩ := HC.out _ hS; first | (go_simp; rfl) | (go_simp; done))); simp only [Act.put, List.setIfInBounds_toArray, List.set_cons_zero, List.set_cons_succ])
            | (apply seqH_pass; (focus (simp only [List.getElem?_toArray, List.getElem?_cons_succ, List.getElem?_cons_zero]; rfl)); (focus rfl); (focus assumption); simp only [Act.put, List.setIfInBounds_toArray, List.set_cons_zero, List.set_cons_succ])
            | (apply seqH_eff; (focus (simp only [List.getElem?_toArray, List.getElem?_cons_succ, List.getElem?_cons_zero]; rfl)); (focus rfl); intro K hK; go_simp; (first | (go_at_call 55; (with_reducible refine (HI.out _).mono ?_)) | (go_at_call 56; (with_reducible refine (HLo.out _).mono ?_))); rintro e wN ⟨rfl, bN⟩; refine hK _ _ (seq_next (by assumption) bN (fun bS' => ?_)); clear hK K))
          refine seqH_nil ?_
          go_wp2_with fail
          go_ret2
          exact ⟨.inr ⟨HK.out, 3, by omega, by omega, rfl⟩, b0.trans (Below.mono (by assumption) (by omega))⟩
        · have HK : Hid (td = some n) := by show _ = _; rw [hT.out, hO.out HI1.out hb (b3 := true) (by rw [ha]; rfl)]; rfl
          refine wp_region_seq [(true, 0), (true, 1), (false, 2), (true, 3), (true, 4), (true, 5), (true, 6), (true, 7), (true, 8), (false, 9), (true, 10), (true, 11), (true, 12), (true, 13), (true, 14), (true, 15), (true, 16), (true, 17), (true, 18), (true, 19), (true, 20), (true, 21)] (fun w' => Below w0.heap.size w0 w') (by kernel_rfl) (by kernel_rfl) (fun _ _ _ _ _ h => h) (by kernel_rfl) (by kernel_rfl) (by first | exact (Below.refl _ _).drew | exact Below.drew (by assumption)) ?_
          have bS : Below w0.heap.size w0 _ := (by first | exact (Below.refl _ w0).drew | exact Below.drew (by assumption))
          iterate 22 (first
            | (apply seqH_skip; (focus (simp only [List.getElem?_toArray, List.getElem?_cons_succ, List.getElem?_cons_zero]; rfl)); (focus rfl); simp only [Act.put, List.setIfInBounds_toArray, List.set_cons_zero, List.set_cons_succ])
            | (apply seqH_take; (focus (simp only [List.getElem?_toArray, List.getElem?_cons_succ, List.getElem?_cons_zero]; rfl)); (focus rfl); (focus (intro w' hS; obtain ⟨c0, c1, c2⟩ := HC.out _ hS; first | (go_simp; rfl) | (go_simp; done))); simp only [Act.put, List.setIfInBounds_toArray, List.set_cons_zero, List.set_cons_succ])
            | (apply seqH_pass; (focus (simp only [List.getElem?_toArray, List.getElem?_cons_succ, List.getElem?_cons_zero]; rfl)); (focus rfl); (focus assumption); simp only [Act.put, List.setIfInBounds_toArray, List.set_cons_zero, List.set_cons_succ])
            | (apply seqH_eff; (focus (simp only [List.getElem?_toArray, List.getElem?_cons_succ, List.getElem?_cons_zero]; rfl)); (focus rfl); intro K hK; go_simp; (first | (go_at_call 55; (with_reducible refine (HI.out _).mono ?_)) | (go_at_call 56; (with_reducible refine (HLo.out _).mono ?_))); rintro e wN ⟨rfl, bN⟩; refine hK _ _ (seq_next (by assumption) bN (fun bS' => ?_)); clear hK K))
          refine seqH_nil ?_
          obtain ⟨c0, c1, c2⟩ := HC.out _ (by assumption)
          go_wp2_with fail
          go_ret2
          exact ⟨.inl ⟨_, HK.out, rfl⟩, b0.trans (Below.mono (by assumption) (by omega))⟩
      · have hK := hT.out
        rw [hO.out HI1.out hb (b3 := true) rfl] at hK
        simp only [Bool.and_true, if_true] at hK
        have HJ := Lib.hid (fun w => isToken_bel a w (by omega))
        have HQ := Lib.hid (fun w => quote_any a w hz')
        cases hJ : Tok.isTok a
        · rw [hJ] at HJ hK
          simp only [Bool.false_eq_true, if_false] at hK
          have HK := Lib.hid hK
          clear hJ hK
          refine wp_region_seq [(true, 0), (true, 1), (false, 2), (true, 3), (true, 4), (true, 5), (true, 6), (true, 7), (true, 8), (false, 9), (true, 10), (true, 11), (true, 12), (true, 13), (true, 14), (true, 15), (true, 16), (true, 17), (true, 18), (true, 19), (true, 20), (true, 21)] (fun w' => Below w0.heap.size w0 w') (by kernel_rfl) (by kernel_rfl) (fun _ _ _ _ _ h => h) (by kernel_rfl) (by kernel_rfl) (by first | exact (Below.refl _ _).drew | exact Below.drew (by assumption)) ?_
          have bS : Below w0.heap.size w0 _ := (by first | exact (Below.refl _ w0).drew | exact Below.drew (by assumption))
          iterate 22 (first
            | (apply seqH_skip; (focus (simp only [List.getElem?_toArray, List.getElem?_cons_succ, List.getElem?_cons_zero]; rfl)); (focus rfl); simp only [Act.put, List.setIfInBounds_toArray, List.set_cons_zero, List.set_cons_succ])
            | (apply seqH_take; (focus (simp only [List.getElem?_toArray, List.getElem?_cons_succ, List.getElem?_cons_zero]; rfl)); (focus rfl); (focus (intro w' hS; obtain ⟨c0, c1, c2⟩ := HC.out _ hS; first | (go_simp; rfl) | (go_simp; done))); simp only [Act.put, List.setIfInBounds_toArray, List.set_cons_zero, List.set_cons_succ])
            | (apply seqH_pass; (focus (simp only [List.getElem?_toArray, List.getElem?_cons_succ, List.getElem?_cons_zero]; rfl)); (focus rfl); (focus assumption); simp only [Act.put, List.setIfInBounds_toArray, List.set_cons_zero, List.set_cons_succ])
            | (apply seqH_eff; (focus (simp only [List.getElem?_toArray, List.getElem?_cons_succ, List.getElem?_cons_zero]; rfl)); (focus rfl); intro K hK; go_simp; (first | (go_at_call 55; (with_reducible refine (HI.out _).mono ?_)) | (go_at_call 56; (with_reducible refine (HLo.out _).mono ?_))); rintro e wN ⟨rfl, bN⟩; refine hK _ _ (seq_next (by assumption) bN (fun bS' => ?_)); clear hK K))
          refine seqH_nil ?_
          obtain ⟨c0, c1, c2⟩ := HC.out _ (by assumption)
          go_wp2_with fail
          refine (HJ.out _).mono ?_
          rintro e w1 ⟨rfl, b1⟩
          go_wp2_with fail
          refine (HQ.out _).mono ?_
          rintro e w2 ⟨hq, b2⟩
          have bz : Below w0.heap.size w0 w1 := Below.trans (by assumption) (b1.mono (Below.size (by assumption)))
          have bz2 : Below w0.heap.size w0 w2 := bz.trans (b2.mono bz.size)
          rcases hq with ⟨q1, q2, rfl⟩ | ⟨q1, cc, hc1, hc2, rfl⟩
          · have HQS := Lib.hid (⟨q1, q2⟩ : (sl a).length ≤ 1000 ∧ (sl a).all Tok.plainB = true)
            have hqz : (mkS (Tok.quoteL (sl a))).size ≤ 2002 := by rw [mkS_size]; have := escs_len2 (sl a); simp [Tok.quoteL]; omega
            have hk2 := HK.out
            rw [if_pos HQS.out] at hk2
            have HK2 := Lib.hid hk2
            generalize mkS (Tok.quoteL (sl a)) = q at *
            clear q1 q2 hk2 c0 c1 c2
            obtain ⟨c0, c1, c2⟩ := HC.out _ bz2
            go_wp2_with fail
            go_ret2
            exact ⟨.inl ⟨_, HK2.out, rfl⟩, b0.trans (bz2.mono (by omega))⟩
          · have hk2 := HK.out
            rw [if_neg q1] at hk2
            have HK2 := Lib.hid hk2
            clear q1 hk2 c0 c1 c2
            go_wp2_with fail
            go_ret2
            exact ⟨.inr ⟨HK2.out, cc, hc1, hc2, rfl⟩, b0.trans (bz2.mono (by omega))⟩
        · rw [hJ] at HJ hK
          simp only [if_true] at hK
          have HK := Lib.hid hK
          clear hJ hK
          refine wp_region_seq [(true, 0), (true, 1), (false, 2), (true, 3), (true, 4), (true, 5), (true, 6), (true, 7), (true, 8), (false, 9), (true, 10), (true, 11), (true, 12), (true, 13), (true, 14), (true, 15), (true, 16), (true, 17), (true, 18), (true, 19), (true, 20), (true, 21)] (fun w' => Below w0.heap.size w0 w') (by kernel_rfl) (by kernel_rfl) (fun _ _ _ _ _ h => h) (by kernel_rfl) (by kernel_rfl) (by first | exact (Below.refl _ _).drew | exact Below.drew (by assumption)) ?_
          have bS : Below w0.heap.size w0 _ := (by first | exact (Below.refl _ w0).drew | exact Below.drew (by assumption))
          iterate 22 (first
            | (apply seqH_skip; (focus (simp only [List.getElem?_toArray, List.getElem?_cons_succ, List.getElem?_cons_zero]; rfl)); (focus rfl); simp only [Act.put, List.setIfInBounds_toArray, List.set_cons_zero, List.set_cons_succ])
            | (apply seqH_take; (focus (simp only [List.getElem?_toArray, List.getElem?_cons_succ, List.getElem?_cons_zero]; rfl)); (focus rfl); (focus (intro w' hS; obtain ⟨c0, c1, c2⟩ := HC.out _ hS; first | (go_simp; rfl) | (go_simp; done))); simp only [Act.put, List.setIfInBounds_toArray, List.set_cons_zero, List.set_cons_succ])
            | (apply seqH_pass; (focus (simp only [List.getElem?_toArray, List.getElem?_cons_succ, List.getElem?_cons_zero]; rfl)); (focus rfl); (focus assumption); simp only [Act.put, List.setIfInBounds_toArray, List.set_cons_zero, List.set_cons_succ])
            | (apply seqH_eff; (focus (simp only [List.getElem?_toArray, List.getElem?_cons_succ, List.getElem?_cons_zero]; rfl)); (focus rfl); intro K hK; go_simp; (first | (go_at_call 55; (with_reducible refine (HI.out _).mono ?_)) | (go_at_call 56; (with_reducible refine (HLo.out _).mono ?_))); rintro e wN ⟨rfl, bN⟩; refine hK _ _ (seq_next (by assumption) bN (fun bS' => ?_)); clear hK K))
          refine seqH_nil ?_
          obtain ⟨c0, c1, c2⟩ := HC.out _ (by assumption)
          go_wp2_with fail
          refine (HJ.out _).mono ?_
          rintro e w1 ⟨rfl, b1⟩
          have bz : Below w0.heap.size w0 w1 := Below.trans (by assumption) (b1.mono (Below.size (by assumption)))
          clear c0 c1 c2
          obtain ⟨c0, c1, c2⟩ := HC.out _ bz
          go_wp2_with fail
          go_ret2
          exact ⟨.inl ⟨_, HK.out, rfl⟩, b0.trans (bz.mono (by omega))⟩
end Go.Proofs.Ytpoaffhhkmochaa
