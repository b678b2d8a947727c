import Derived.Test.YtgjfhgcjiglfkaaGreatDoorD2
import Derived.Test.YtgjfhgcjiglfkaaGreatDoorD1
import Derived.Test.YtgjfhgcjiglfkaaGreatDoorChecked
import Derived.Test.YtgjfhgcjiglfkaaGreatDoorD0
import Derived.Lib.AtoiErrMem
import Derived.Lib.AtoiTie
import Derived.Lib.ItoaNum
import Derived.Deep.QuietTactic
import Derived.BigQuiet
import Derived.IntWalk
set_option linter.unusedVariables false
set_option linter.unusedSimpArgs false
namespace Go.Proofs.YtgjfhgcjiglfkaaGreatDoor
set_option maxRecDepth 20000
open Go.RowKit
abbrev Dr := ByteArray × Bool × ByteArray
def vDr (d : Dr) : Value := .agg #[.string d.1, .bool d.2.1, .string d.2.2]
theorem isToken_bel (s : ByteArray) (w : World) (hs : s.size ≤ 9223372036854775807) :
    Calls Tryz.prog 60 #[.string s] w fun e w' => e = .returned (.bool (Tok.isTok s)) ∧ Below w.heap.size w w' :=
  (isToken_any s w hs).mono fun e w' ⟨he, hw⟩ => ⟨he, hw ▸ Below.refl _ _⟩
def okD (d : Dr) : Bool := Tok.isTok d.1 && (d.1.toList == (lowT d.1).toList) && (d.2.1 || d.2.2.toList.isEmpty)
def textD (d : Dr) : Option ByteArray :=
  if okD d then (if d.2.1 then (if Tok.isTok d.2.2 then some (d.1 ++ ⟨#[61]⟩ ++ d.2.2) else if (sl d.2.2).length ≤ 1000 ∧ (sl d.2.2).all Tok.plainB = true then some (d.1 ++ ⟨#[61]⟩ ++ mkS (Tok.quoteL (sl d.2.2))) else none) else some d.1) else none
def TextAns (d : Dr) (e : Ending) : Prop :=
  (∃ s, textD d = some s ∧ e = .returned (.tuple #[.string s, .int .i64 0])) ∨ (textD d = none ∧ ∃ c : Int, 1 ≤ c ∧ c ≤ 3 ∧ e = .returned (.tuple #[.string ByteArray.empty, .int .i64 c]))
theorem okD_of {n a : ByteArray} {h : Bool} {b1 b2 b3 : Bool} (h1 : Tok.isTok n = b1) (h2 : (n.toList == (lowT n).toList) = b2) (h3 : (h || a.toList.isEmpty) = b3) : okD (n, h, a) = (b1 && b2 && b3) := by
  unfold okD; rw [h1, h2, h3]
theorem escs_len2 : ∀ l : List UInt8, (Tok.escs l).length ≤ 2 * l.length
  | [] => by simp [Tok.escs]
  | c :: l => by
    have ih := escs_len2 l
    have : (Tok.esc c).length ≤ 2 := by unfold Tok.esc; split <;> simp
    simp only [Tok.escs, List.flatMap_cons, List.length_append, List.length_cons] at ih ⊢; omega
set_option maxHeartbeats 3200000 in
theorem text_any (d : Dr) (w : World) (hn : d.1.size ≤ 140737488351232) (hz : d.2.2.size ≤ 140737488351232) :
    Calls Tryz.prog 197 #[vDr d] w fun e w' => TextAns d e ∧ Below w.heap.size w w' := by
  obtain ⟨n, h, a⟩ := d
  have hn' : n.size ≤ 140737488351232 := hn
  have hz' : a.size ≤ 140737488351232 := hz
  clear hn hz
  have HI := Lib.hid (fun w => isToken_bel n w (by omega))
  have HLo := Lib.hid (fun w => lower_any n w (by omega))
  rw [show mkS (Tok.low (sl n)) = lowT n from rfl] at HLo
  unfold TextAns
  have hT : Hid (textD (n, h, a) = if okD (n, h, a) then (if h then (if Tok.isTok a then some (n ++ ⟨#[61]⟩ ++ a) else if (sl a).length ≤ 1000 ∧ (sl a).all Tok.plainB = true then some (n ++ ⟨#[61]⟩ ++ mkS (Tok.quoteL (sl a))) else none) else some n) else none) := rfl
  have hO : Hid (∀ {b1 b2 b3 : Bool}, Tok.isTok n = b1 → (n.toList == (lowT n).toList) = b2 → (h || a.toList.isEmpty) = b3 → okD (n, h, a) = (b1 && b2 && b3)) := fun h1 h2 h3 => okD_of h1 h2 h3
  generalize textD (n, h, a) = td at *
  generalize okD (n, h, a) = ok at *
  show Calls _ _ #[.agg #[.string n, .bool h, .string a]] _ _
  go_enter Tryz.func197, Tryz.ntmps197
  go_wp2_with fail
  have b0 : Below w.heap.size w (w.alloc (.cells #[.string n, .bool h, .string a] 86)) := (Below.refl _ _).alloc (Nat.le_refl _) _
  have c0 : (w.alloc (.cells #[.string n, .bool h, .string a] 86)).cell? ⟨w.heap.size, 0, none⟩ = some (.string n) := by go_simp
  have c1 : (w.alloc (.cells #[.string n, .bool h, .string a] 86)).cell? ⟨w.heap.size, 1, none⟩ = some (.bool h) := by go_simp
  have c2 : (w.alloc (.cells #[.string n, .bool h, .string a] 86)).cell? ⟨w.heap.size, 2, none⟩ = some (.string a) := by go_simp
  have hw0 : w.heap.size < (w.alloc (.cells #[.string n, .bool h, .string a] 86)).heap.size := by simp
  generalize w.alloc (.cells #[.string n, .bool h, .string a] 86) = w0 at *
  have HC := Lib.hid (fun w' (hb : Below w0.heap.size w0 w') => show w'.cell? ⟨w.heap.size, 0, none⟩ = some (.string n) ∧ w'.cell? ⟨w.heap.size, 1, none⟩ = some (.bool h) ∧ w'.cell? ⟨w.heap.size, 2, none⟩ = some (.string a) from ⟨(hb.cell hw0).trans c0, (hb.cell hw0).trans c1, (hb.cell hw0).trans c2⟩)
  clear c0 c1 c2
  cases hI : Tok.isTok n
  · rw [hI] at HI
    have HK : Hid (td = none) := by show _ = _; rw [hT.out, hO.out hI rfl rfl]; rfl
    clear hI
    refine wp_region_seq [(true, 0), (true, 1), (false, 2), (true, 3), (true, 4), (true, 5), (true, 6), (true, 7), (true, 8), (false, 9), (true, 10), (true, 11), (true, 12), (true, 13), (true, 14), (true, 15), (true, 16), (true, 17), (true, 18), (true, 19), (true, 20), (true, 21)] (fun w' => Below w0.heap.size w0 w') (by kernel_rfl) (by kernel_rfl) (fun _ _ _ _ _ h => h) (by kernel_rfl) (by kernel_rfl) (by first | exact (Below.refl _ _).drew | exact Below.drew (by assumption)) ?_
    have bS : Below w0.heap.size w0 _ := (by first | exact Below.drew (by assumption) | exact (Below.refl _ w0).drew)
    iterate 22 (first
      | (apply seqH_skip; (focus (simp only [List.getElem?_toArray, List.getElem?_cons_succ, List.getElem?_cons_zero]; rfl)); (focus rfl); simp only [Act.put, List.setIfInBounds_toArray, List.set_cons_zero, List.set_cons_succ])
      | (apply seqH_take; (focus (simp only [List.getElem?_toArray, List.getElem?_cons_succ, List.getElem?_cons_zero]; rfl)); (focus rfl); (focus (intro w' hS; obtain ⟨c0, c1, c2⟩ := HC.out _ hS; first | (go_simp; rfl) | (go_simp; done))); simp only [Act.put, List.setIfInBounds_toArray, List.set_cons_zero, List.set_cons_succ])
      | (apply seqH_pass; (focus (simp only [List.getElem?_toArray, List.getElem?_cons_succ, List.getElem?_cons_zero]; rfl)); (focus rfl); (focus assumption); simp only [Act.put, List.setIfInBounds_toArray, List.set_cons_zero, List.set_cons_succ])
      | (apply seqH_eff; (focus (simp only [List.getElem?_toArray, List.getElem?_cons_succ, List.getElem?_cons_zero]; rfl)); (focus rfl); intro K hK; go_simp; (first | (go_at_call 60; (with_reducible refine (HI.out _).mono ?_)) | (go_at_call 61; (with_reducible refine (HLo.out _).mono ?_))); rintro e wN ⟨rfl, bN⟩; refine hK _ _ (seq_next (by assumption) bN (fun bS' => ?_)); clear hK K))
    refine seqH_nil ?_
    go_wp2_with fail
    go_ret2
    exact ⟨.inr ⟨HK.out, 3, by omega, by omega, rfl⟩, b0.trans (Below.mono (by assumption) (by omega))⟩
  · rw [hI] at HI
    have HI1 := Lib.hid hI
    clear hI
    obtain ⟨ln, hln⟩ : ∃ ln, lowT n = ln := ⟨_, rfl⟩
    rw [hln] at HLo hO
    clear hln
    cases hb : (n.toList == ln.toList)
    · have HK : Hid (td = none) := by show _ = _; rw [hT.out, hO.out HI1.out hb rfl]; rfl
      refine wp_region_seq [(true, 0), (true, 1), (false, 2), (true, 3), (true, 4), (true, 5), (true, 6), (true, 7), (true, 8), (false, 9), (true, 10), (true, 11), (true, 12), (true, 13), (true, 14), (true, 15), (true, 16), (true, 17), (true, 18), (true, 19), (true, 20), (true, 21)] (fun w' => Below w0.heap.size w0 w') (by kernel_rfl) (by kernel_rfl) (fun _ _ _ _ _ h => h) (by kernel_rfl) (by kernel_rfl) (by first | exact (Below.refl _ _).drew | exact Below.drew (by assumption)) ?_
      have bS : Below w0.heap.size w0 _ := (by first | exact Below.drew (by assumption) | exact (Below.refl _ w0).drew)
      iterate 22 (first
        | (apply seqH_skip; (focus (simp only [List.getElem?_toArray, List.getElem?_cons_succ, List.getElem?_cons_zero]; rfl)); (focus rfl); simp only [Act.put, List.setIfInBounds_toArray, List.set_cons_zero, List.set_cons_succ])
        | (apply seqH_take; (focus (simp only [List.getElem?_toArray, List.getElem?_cons_succ, List.getElem?_cons_zero]; rfl)); (focus rfl); (focus (intro w' hS; obtain ⟨c0, c1, c2⟩ := HC.out _ hS; first | (go_simp; rfl) | (go_simp; done))); simp only [Act.put, List.setIfInBounds_toArray, List.set_cons_zero, List.set_cons_succ])
        | (apply seqH_pass; (focus (simp only [List.getElem?_toArray, List.getElem?_cons_succ, List.getElem?_cons_zero]; rfl)); (focus rfl); (focus assumption); simp only [Act.put, List.setIfInBounds_toArray, List.set_cons_zero, List.set_cons_succ])
        | (apply seqH_eff; (focus (simp only [List.getElem?_toArray, List.getElem?_cons_succ, List.getElem?_cons_zero]; rfl)); (focus rfl); intro K hK; go_simp; (first | (go_at_call 60; (with_reducible refine (HI.out _).mono ?_)) | (go_at_call 61; (with_reducible refine (HLo.out _).mono ?_))); rintro e wN ⟨rfl, bN⟩; refine hK _ _ (seq_next (by assumption) bN (fun bS' => ?_)); clear hK K))
      refine seqH_nil ?_
      go_wp2_with fail
      go_ret2
      exact ⟨.inr ⟨HK.out, 3, by omega, by omega, rfl⟩, b0.trans (Below.mono (by assumption) (by omega))⟩
    · cases h
      · cases ha : a.toList.isEmpty
        · have HK : Hid (td = none) := by show _ = _; rw [hT.out, hO.out HI1.out hb (b3 := false) (by rw [ha]; rfl)]; rfl
          refine wp_region_seq [(true, 0), (true, 1), (false, 2), (true, 3), (true, 4), (true, 5), (true, 6), (true, 7), (true, 8), (false, 9), (true, 10), (true, 11), (true, 12), (true, 13), (true, 14), (true, 15), (true, 16), (true, 17), (true, 18), (true, 19), (true, 20), (true, 21)] (fun w' => Below w0.heap.size w0 w') (by kernel_rfl) (by kernel_rfl) (fun _ _ _ _ _ h => h) (by kernel_rfl) (by kernel_rfl) (by first | exact (Below.refl _ _).drew | exact Below.drew (by assumption)) ?_
          have bS : Below w0.heap.size w0 _ := (by first | exact Below.drew (by assumption) | exact (Below.refl _ w0).drew)
          iterate 22 (first
            | (apply seqH_skip; (focus (simp only [List.getElem?_toArray, List.getElem?_cons_succ, List.getElem?_cons_zero]; rfl)); (focus rfl); simp only [Act.put, List.setIfInBounds_toArray, List.set_cons_zero, List.set_cons_succ])
            | (apply seqH_take; (focus (simp only [List.getElem?_toArray, List.getElem?_cons_succ, List.getElem?_cons_zero]; rfl)); (focus rfl); (focus (intro w' hS; obtain ⟨c0, c1, c2⟩ := HC.out _ hS; first | (go_simp; rfl) | (go_simp; done))); simp only [Act.put, List.setIfInBounds_toArray, List.set_cons_zero, List.set_cons_succ])
            | (apply seqH_pass; (focus (simp only [List.getElem?_toArray, List.getElem?_cons_succ, List.getElem?_cons_zero]; rfl)); (focus rfl); (focus assumption); simp only [Act.put, List.setIfInBounds_toArray, List.set_cons_zero, List.set_cons_succ])
            | (apply seqH_eff; (focus (simp only [List.getElem?_toArray, List.getElem?_cons_succ, List.getElem?_cons_zero]; rfl)); (focus rfl); intro K hK; go_simp; (first | (go_at_call 60; (with_reducible refine (HI.out _).mono ?_)) | (go_at_call 61; (with_reducible refine (HLo.out _).mono ?_))); rintro e wN ⟨rfl, bN⟩; refine hK _ _ (seq_next (by assumption) bN (fun bS' => ?_)); clear hK K))
          refine seqH_nil ?_
          go_wp2_with fail
          go_ret2
          exact ⟨.inr ⟨HK.out, 3, by omega, by omega, rfl⟩, b0.trans (Below.mono (by assumption) (by omega))⟩
        · have HK : Hid (td = some n) := by show _ = _; rw [hT.out, hO.out HI1.out hb (b3 := true) (by rw [ha]; rfl)]; rfl
          refine wp_region_seq [(true, 0), (true, 1), (false, 2), (true, 3), (true, 4), (true, 5), (true, 6), (true, 7), (true, 8), (false, 9), (true, 10), (true, 11), (true, 12), (true, 13), (true, 14), (true, 15), (true, 16), (true, 17), (true, 18), (true, 19), (true, 20), (true, 21)] (fun w' => Below w0.heap.size w0 w') (by kernel_rfl) (by kernel_rfl) (fun _ _ _ _ _ h => h) (by kernel_rfl) (by kernel_rfl) (by first | exact (Below.refl _ _).drew | exact Below.drew (by assumption)) ?_
          have bS : Below w0.heap.size w0 _ := (by first | exact Below.drew (by assumption) | exact (Below.refl _ w0).drew)
          iterate 22 (first
            | (apply seqH_skip; (focus (simp only [List.getElem?_toArray, List.getElem?_cons_succ, List.getElem?_cons_zero]; rfl)); (focus rfl); simp only [Act.put, List.setIfInBounds_toArray, List.set_cons_zero, List.set_cons_succ])
            | (apply seqH_take; (focus (simp only [List.getElem?_toArray, List.getElem?_cons_succ, List.getElem?_cons_zero]; rfl)); (focus rfl); (focus (intro w' hS; obtain ⟨c0, c1, c2⟩ := HC.out _ hS; first | (go_simp; rfl) | (go_simp; done))); simp only [Act.put, List.setIfInBounds_toArray, List.set_cons_zero, List.set_cons_succ])
            | (apply seqH_pass; (focus (simp only [List.getElem?_toArray, List.getElem?_cons_succ, List.getElem?_cons_zero]; rfl)); (focus rfl); (focus assumption); simp only [Act.put, List.setIfInBounds_toArray, List.set_cons_zero, List.set_cons_succ])
            | (apply seqH_eff; (focus (simp only [List.getElem?_toArray, List.getElem?_cons_succ, List.getElem?_cons_zero]; rfl)); (focus rfl); intro K hK; go_simp; (first | (go_at_call 60; (with_reducible refine (HI.out _).mono ?_)) | (go_at_call 61; (with_reducible refine (HLo.out _).mono ?_))); rintro e wN ⟨rfl, bN⟩; refine hK _ _ (seq_next (by assumption) bN (fun bS' => ?_)); clear hK K))
          refine seqH_nil ?_
          obtain ⟨c0, c1, c2⟩ := HC.out _ (by assumption)
          go_wp2_with fail
          go_ret2
          exact ⟨.inl ⟨_, HK.out, rfl⟩, b0.trans (Below.mono (by assumption) (by omega))⟩
      · have hK := hT.out
        rw [hO.out HI1.out hb (b3 := true) rfl] at hK
        simp only [Bool.and_true, if_true] at hK
        have HJ := Lib.hid (fun w => isToken_bel a w (by omega))
        have HQ := Lib.hid (fun w => quote_any a w hz')
        cases hJ : Tok.isTok a
        · rw [hJ] at HJ hK
          simp only [Bool.false_eq_true, if_false] at hK
          have HK := Lib.hid hK
          clear hJ hK
          refine wp_region_seq [(true, 0), (true, 1), (false, 2), (true, 3), (true, 4), (true, 5), (true, 6), (true, 7), (true, 8), (false, 9), (true, 10), (true, 11), (true, 12), (true, 13), (true, 14), (true, 15), (true, 16), (true, 17), (true, 18), (true, 19), (true, 20), (true, 21)] (fun w' => Below w0.heap.size w0 w') (by kernel_rfl) (by kernel_rfl) (fun _ _ _ _ _ h => h) (by kernel_rfl) (by kernel_rfl) (by first | exact (Below.refl _ _).drew | exact Below.drew (by assumption)) ?_
          have bS : Below w0.heap.size w0 _ := (by first | exact Below.drew (by assumption) | exact (Below.refl _ w0).drew)
          iterate 22 (first
            | (apply seqH_skip; (focus (simp only [List.getElem?_toArray, List.getElem?_cons_succ, List.getElem?_cons_zero]; rfl)); (focus rfl); simp only [Act.put, List.setIfInBounds_toArray, List.set_cons_zero, List.set_cons_succ])
            | (apply seqH_take; (focus (simp only [List.getElem?_toArray, List.getElem?_cons_succ, List.getElem?_cons_zero]; rfl)); (focus rfl); (focus (intro w' hS; obtain ⟨c0, c1, c2⟩ := HC.out _ hS; first | (go_simp; rfl) | (go_simp; done))); simp only [Act.put, List.setIfInBounds_toArray, List.set_cons_zero, List.set_cons_succ])
            | (apply seqH_pass; (focus (simp only [List.getElem?_toArray, List.getElem?_cons_succ, List.getElem?_cons_zero]; rfl)); (focus rfl); (focus assumption); simp only [Act.put, List.setIfInBounds_toArray, List.set_cons_zero, List.set_cons_succ])
            | (apply seqH_eff; (focus (simp only [List.getElem?_toArray, List.getElem?_cons_succ, List.getElem?_cons_zero]; rfl)); (focus rfl); intro K hK; go_simp; (first | (go_at_call 60; (with_reducible refine (HI.out _).mono ?_)) | (go_at_call 61; (with_reducible refine (HLo.out _).mono ?_))); rintro e wN ⟨rfl, bN⟩; refine hK _ _ (seq_next (by assumption) bN (fun bS' => ?_)); clear hK K))
          refine seqH_nil ?_
          obtain ⟨c0, c1, c2⟩ := HC.out _ (by assumption)
          go_wp2_with fail
          refine (HJ.out _).mono ?_
          rintro e w1 ⟨rfl, b1⟩
          go_wp2_with fail
          refine (HQ.out _).mono ?_
          rintro e w2 ⟨hq, b2⟩
          have bz : Below w0.heap.size w0 w1 := Below.trans (by assumption) (b1.mono (Below.size (by assumption)))
          have bz2 : Below w0.heap.size w0 w2 := bz.trans (b2.mono bz.size)
          rcases hq with ⟨q1, q2, rfl⟩ | ⟨q1, cc, hc1, hc2, rfl⟩
          · have HQS := Lib.hid (⟨q1, q2⟩ : (sl a).length ≤ 1000 ∧ (sl a).all Tok.plainB = true)
            have hqz : (mkS (Tok.quoteL (sl a))).size ≤ 2002 := by rw [mkS_size]; have := escs_len2 (sl a); simp [Tok.quoteL]; omega
            have hk2 := HK.out
            rw [if_pos HQS.out] at hk2
            have HK2 := Lib.hid hk2
            generalize mkS (Tok.quoteL (sl a)) = q at *
            clear q1 q2 hk2 c0 c1 c2
            obtain ⟨c0, c1, c2⟩ := HC.out _ bz2
            go_wp2_with fail
            go_ret2
            exact ⟨.inl ⟨_, HK2.out, rfl⟩, b0.trans (bz2.mono (by omega))⟩
          · have hk2 := HK.out
            rw [if_neg q1] at hk2
            have HK2 := Lib.hid hk2
            clear q1 hk2 c0 c1 c2
            go_wp2_with fail
            go_ret2
            exact ⟨.inr ⟨HK2.out, cc, hc1, hc2, rfl⟩, b0.trans (bz2.mono (by omega))⟩
        · rw [hJ] at HJ hK
          simp only [if_true] at hK
          have HK := Lib.hid hK
          clear hJ hK
          refine wp_region_seq [(true, 0), (true, 1), (false, 2), (true, 3), (true, 4), (true, 5), (true, 6), (true, 7), (true, 8), (false, 9), (true, 10), (true, 11), (true, 12), (true, 13), (true, 14), (true, 15), (true, 16), (true, 17), (true, 18), (true, 19), (true, 20), (true, 21)] (fun w' => Below w0.heap.size w0 w') (by kernel_rfl) (by kernel_rfl) (fun _ _ _ _ _ h => h) (by kernel_rfl) (by kernel_rfl) (by first | exact (Below.refl _ _).drew | exact Below.drew (by assumption)) ?_
          have bS : Below w0.heap.size w0 _ := (by first | exact Below.drew (by assumption) | exact (Below.refl _ w0).drew)
          iterate 22 (first
            | (apply seqH_skip; (focus (simp only [List.getElem?_toArray, List.getElem?_cons_succ, List.getElem?_cons_zero]; rfl)); (focus rfl); simp only [Act.put, List.setIfInBounds_toArray, List.set_cons_zero, List.set_cons_succ])
            | (apply seqH_take; (focus (simp only [List.getElem?_toArray, List.getElem?_cons_succ, List.getElem?_cons_zero]; rfl)); (focus rfl); (focus (intro w' hS; obtain ⟨c0, c1, c2⟩ := HC.out _ hS; first | (go_simp; rfl) | (go_simp; done))); simp only [Act.put, List.setIfInBounds_toArray, List.set_cons_zero, List.set_cons_succ])
            | (apply seqH_pass; (focus (simp only [List.getElem?_toArray, List.getElem?_cons_succ, List.getElem?_cons_zero]; rfl)); (focus rfl); (focus assumption); simp only [Act.put, List.setIfInBounds_toArray, List.set_cons_zero, List.set_cons_succ])
            | (apply seqH_eff; (focus (simp only [List.getElem?_toArray, List.getElem?_cons_succ, List.getElem?_cons_zero]; rfl)); (focus rfl); intro K hK; go_simp; (first | (go_at_call 60; (with_reducible refine (HI.out _).mono ?_)) | (go_at_call 61; (with_reducible refine (HLo.out _).mono ?_))); rintro e wN ⟨rfl, bN⟩; refine hK _ _ (seq_next (by assumption) bN (fun bS' => ?_)); clear hK K))
          refine seqH_nil ?_
          obtain ⟨c0, c1, c2⟩ := HC.out _ (by assumption)
          go_wp2_with fail
          refine (HJ.out _).mono ?_
          rintro e w1 ⟨rfl, b1⟩
          have bz : Below w0.heap.size w0 w1 := Below.trans (by assumption) (b1.mono (Below.size (by assumption)))
          clear c0 c1 c2
          obtain ⟨c0, c1, c2⟩ := HC.out _ bz
          go_wp2_with fail
          go_ret2
          exact ⟨.inl ⟨_, HK.out, rfl⟩, b0.trans (bz.mono (by omega))⟩
set_option maxRecDepth 20000
def cutAt (c : UInt8) : List UInt8 → Option (List UInt8 × List UInt8)
  | [] => none
  | x :: l => if x = c then some ([], l) else (cutAt c l).map (fun p => (x :: p.1, p.2))
theorem cutAt_some {c : UInt8} : ∀ {l a b : List UInt8}, l = a ++ c :: b → c ∉ a → cutAt c l = some (a, b)
  | _, [], b, rfl, _ => by simp [cutAt]
  | _, x :: a, b, rfl, h => by
    have hx : x ≠ c := fun e => h (by simp [e])
    simp only [List.cons_append, cutAt, if_neg hx, cutAt_some (l := a ++ c :: b) rfl (fun e => h (by simp [e])), Option.map_some]
theorem cutAt_none {c : UInt8} : ∀ {l : List UInt8}, c ∉ l → cutAt c l = none
  | [], _ => rfl
  | x :: l, h => by
    have hx : x ≠ c := fun e => h (by simp [e])
    have hl : c ∉ l := fun e => h (List.mem_cons_of_mem _ e)
    simp only [cutAt, if_neg hx, cutAt_none hl, Option.map_none]
def dirD (p : ByteArray) : Option Dr :=
  match cutAt 61 (sl p) with
  | some (a, b) => if Tok.isTok (mkS a) = true then (if Tok.isTok (mkS b) = true then some (lowT (mkS a), true, mkS b) else (Tok.unquoteL b).map (fun u => (lowT (mkS a), true, mkS u))) else none
  | none => if Tok.isTok p = true then some (lowT p, false, ByteArray.empty) else none
def DirAns (p : ByteArray) (e : Ending) : Prop :=
  (∃ d, dirD p = some d ∧ e = .returned (.tuple #[vDr d, .bool true])) ∨ (dirD p = none ∧ ∃ d : Dr, e = .returned (.tuple #[vDr d, .bool false]))
theorem escs_ge : ∀ l : List UInt8, l.length ≤ (Tok.escs l).length
  | [] => by simp [Tok.escs]
  | c :: l => by
    have ih := escs_ge l
    have : 1 ≤ (Tok.esc c).length := by unfold Tok.esc; split <;> simp
    simp only [Tok.escs, List.flatMap_cons, List.length_append, List.length_cons] at ih ⊢; omega
theorem three_set (w2 : World) (g : Nat) (h : g < w2.heap.size) {x0 x1 x2 : Value} (u0 u1 u2 : Value) (d0 : w2.cell? ⟨g, 0, none⟩ = some x0) (d1 : w2.cell? ⟨g, 1, none⟩ = some x1) (d2 : w2.cell? ⟨g, 2, none⟩ = some x2) (w3 : World)
    (hb : Below w2.heap.size (((w2.setCell ⟨g, 0, none⟩ u0).setCell ⟨g, 1, none⟩ u1).setCell ⟨g, 2, none⟩ u2) w3) :
    w3.cell? ⟨g, 0, none⟩ = some u0 ∧ w3.cell? ⟨g, 1, none⟩ = some u1 ∧ w3.cell? ⟨g, 2, none⟩ = some u2 := by
  refine ⟨(hb.cell h).trans ?_, (hb.cell h).trans ?_, (hb.cell h).trans ?_⟩ <;> simp [go_sem, d0, d1, d2]
set_option maxHeartbeats 3200000 in
theorem directive_any (p : ByteArray) (w : World) (hp : p.size ≤ 1000) :
    Calls Tryz.prog 115 #[.string p] w fun e w' => DirAns p e ∧ Below w.heap.size w w' := by
  have hC := Lib.hid (fun w => cut_one p 61 w (by omega))
  have hD : Hid (dirD p = match cutAt 61 (sl p) with
    | some (a, b) => if Tok.isTok (mkS a) = true then (if Tok.isTok (mkS b) = true then some (lowT (mkS a), true, mkS b) else (Tok.unquoteL b).map (fun u => (lowT (mkS a), true, mkS u))) else none
    | none => if Tok.isTok p = true then some (lowT p, false, ByteArray.empty) else none) := rfl
  unfold DirAns
  generalize dirD p = dd at *
  go_enter Tryz.func115, Tryz.ntmps115
  go_wp2_with fail
  refine (hC.out _).mono ?_
  rintro e w1 ⟨hans, b1⟩
  rcases hans with ⟨a, b, h1, h2, rfl⟩ | ⟨h1, rfl⟩
  · have hd := hD.out
    rw [cutAt_some h1 h2] at hd
    dsimp only at hd
    have hab : (mkS a).size ≤ 1000 ∧ (mkS b).size ≤ 1000 ∧ b.length ≤ 1000 := by
      have := congrArg List.length h1
      rw [sl_len, List.length_append, List.length_cons] at this
      rw [mkS_size, mkS_size]; omega
    obtain ⟨ha, hb, hbl⟩ := hab
    have HI := Lib.hid (fun w => isToken_any (mkS a) w (by omega))
    have HJ := Lib.hid (fun w => isToken_any (mkS b) w (by omega))
    have HU := Lib.hid (fun w => unquote_walk (mkS b) w (by omega))
    have HLo := Lib.hid (fun w => lower_any (mkS a) w (by omega))
    rw [show mkS (Tok.low (sl (mkS a))) = lowT (mkS a) from rfl] at HLo
    have HD := Lib.hid hd
    have HB : Hid (sl (mkS b) = b) := sl_mkS b
    clear hd h1 h2
    obtain ⟨A, hA⟩ : ∃ A, mkS a = A := ⟨_, rfl⟩
    obtain ⟨B, hB⟩ : ∃ B, mkS b = B := ⟨_, rfl⟩
    obtain ⟨n, hn⟩ : ∃ n, lowT A = n := ⟨_, rfl⟩
    rw [hA] at HI HLo HD ha ⊢
    rw [hB] at HJ HU HD HB hb ⊢
    rw [hn] at HLo HD
    clear hA hB hn
    have b01 : Below w.heap.size w w1 := ((Below.refl _ _).alloc (Nat.le_refl _) _).trans (b1.mono (by simp))
    have hz : w.heap.size < w1.heap.size := by have := b1.size; simp at this; omega
    have c0 : w1.cell? ⟨w.heap.size, 0, none⟩ = some (.string ByteArray.empty) := (b1.cell (by simp)).trans (by go_simp; rfl)
    have c1 : w1.cell? ⟨w.heap.size, 1, none⟩ = some (.bool false) := (b1.cell (by simp)).trans (by go_simp)
    have c2 : w1.cell? ⟨w.heap.size, 2, none⟩ = some (.string ByteArray.empty) := (b1.cell (by simp)).trans (by go_simp; rfl)
    have f0 : w1.frozen? ⟨w.heap.size, 0, none⟩ = false := (b1.frozen (by simp)).trans (by go_simp)
    have f1 : w1.frozen? ⟨w.heap.size, 1, none⟩ = false := (b1.frozen (by simp)).trans (by go_simp)
    have f2 : w1.frozen? ⟨w.heap.size, 2, none⟩ = false := (b1.frozen (by simp)).trans (by go_simp)
    clear b1
    go_wp2_with fail
    refine (HLo.out _).mono ?_
    rintro e w2 ⟨rfl, b2⟩
    have b02 := b01.trans (b2.mono b01.size)
    have hz2 := Nat.lt_of_lt_of_le hz b2.size
    have d0 := (b2.cell hz).trans c0
    have d1 := (b2.cell hz).trans c1
    have d2 := (b2.cell hz).trans c2
    have g0 := (b2.frozen hz).trans f0
    have g1 := (b2.frozen hz).trans f1
    have g2 := (b2.frozen hz).trans f2
    clear c0 c1 c2 f0 f1 f2 b2
    have HE : Hid (∀ (J : Bool) (o : Option Dr), dd = (if J = true then o else none) → ∀ d : Dr, (J = true → o = some d) → ((∃ d', dd = some d' ∧ Ending.returned (.tuple #[vDr d, .bool J]) = .returned (.tuple #[vDr d', .bool true])) ∨ (dd = none ∧ ∃ d' : Dr, Ending.returned (.tuple #[vDr d, .bool J]) = .returned (.tuple #[vDr d', .bool false])))) := by
      intro J o h d ho
      cases J
      · exact .inr ⟨h, d, rfl⟩
      · exact .inl ⟨d, by rw [h, ← ho rfl]; rfl, rfl⟩
    obtain ⟨J, hJA⟩ : ∃ J, Tok.isTok A = J := ⟨_, rfl⟩
    rw [hJA] at HI HD
    cases hJ : Tok.isTok B
    · rw [hJ] at HJ HD
      clear hJ
      go_wp2_with fail
      refine (HJ.out _).mono ?_
      rintro e w' ⟨rfl, rfl⟩
      go_wp2_with fail
      refine (HU.out _).mono ?_
      rintro e w3 ⟨hU, b3⟩
      have hz3 : w2.heap.size < w3.heap.size := by have := b3.size; simp at this; omega
      have e0 : w3.cell? ⟨w2.heap.size, 0, none⟩ = some (.string n) := (b3.cell (by simp)).trans (by go_simp)
      have e1 : w3.cell? ⟨w2.heap.size, 1, none⟩ = some (.bool true) := (b3.cell (by simp)).trans (by go_simp)
      have e2 : w3.cell? ⟨w2.heap.size, 2, none⟩ = some (.string B) := (b3.cell (by simp)).trans (by go_simp)
      have b23 : Below w2.heap.size w2 w3 := ((Below.refl _ _).alloc (Nat.le_refl _) _).trans (b3.mono (by simp))
      have b03 := b02.trans (b23.mono b02.size)
      have l0 := (b23.cell hz2).trans d0
      have l1 := (b23.cell hz2).trans d1
      have l2 := (b23.cell hz2).trans d2
      have m0 := (b23.frozen hz2).trans g0
      have m1 := (b23.frozen hz2).trans g1
      have m2 := (b23.frozen hz2).trans g2
      have q2 : w3.frozen? ⟨w2.heap.size, 2, none⟩ = false := (b3.frozen (by simp)).trans (by go_simp)
      have hz03 := Nat.lt_trans hz2 hz3
      clear d0 d1 d2 g0 g1 g2 b3
      unfold UnqEnd at hU
      rw [HB.out] at hU
      rcases hU with ⟨h1, rfl⟩ | ⟨u, h1, h2⟩
      · have HN : Hid (dd = none) := by
          have := HD.out
          rw [h1] at this
          show dd = none
          rw [this]; cases J <;> rfl
        clear h1
        go_wp2_with fail
        obtain ⟨k0, k1, k2⟩ := three_set w3 w.heap.size hz03 (.string n) (.bool true) (.string B) l0 l1 l2 _ (Below.refl _ _)
        refine bodyPost_ret (v := .tuple #[vDr (n, true, B), .bool false]) (by simp [results, Tryz.results115, go_sem, vDr, k0, k1, k2]) rfl ⟨.inr ⟨HN.out, _, rfl⟩, ?_⟩
        exact ((b03.setCell (p := ⟨w.heap.size, 0, none⟩) (Nat.le_refl _) _).setCell (p := ⟨w.heap.size, 1, none⟩) (Nat.le_refl _) _).setCell (p := ⟨w.heap.size, 2, none⟩) (Nat.le_refl _) _
      · have HN : Hid (dd = if J = true then some (n, true, mkS u) else none) := by
          have := HD.out
          rw [h1] at this
          exact this
        have hu : u.length ≤ 1000 := by have h4 := (Tok.unquote_some h1).1; have h5 := escs_ge u; simp [Tok.quoteL] at h4; omega
        clear h1
        rcases h2 with ⟨h3, _⟩ | ⟨_, rfl⟩
        · omega
        · obtain ⟨U, hU⟩ : ∃ U, mkS u = U := ⟨_, rfl⟩
          rw [hU] at HN ⊢
          clear hU
          go_wp2_with (go_region_with (go_at_call 60; refine (HI.out _).mono ?_; rintro e w' ⟨rfl, rfl⟩))
          all_goals
            have bb : Below w2.heap.size w3 (w3.setCell ⟨w2.heap.size, 2, none⟩ (.string U)) := (Below.refl _ _).setCell (p := ⟨w2.heap.size, 2, none⟩) (Nat.le_refl _) _
            obtain ⟨k0, k1, k2⟩ := three_set (w3.setCell ⟨w2.heap.size, 2, none⟩ (.string U)) w.heap.size (Nat.lt_of_lt_of_le hz03 bb.size) (.string n) (.bool true) (.string U) ((bb.cell hz2).trans l0) ((bb.cell hz2).trans l1) ((bb.cell hz2).trans l2) _ (Below.refl _ _).drew
            refine bodyPost_ret (v := .tuple #[vDr (n, true, U), .bool J]) (by simp [results, Tryz.results115, go_sem, vDr, k0, k1, k2]) rfl ⟨HE.out _ _ HN.out _ (fun _ => rfl), ?_⟩
            exact ((((b03.setCell (p := ⟨w2.heap.size, 2, none⟩) b02.size _).setCell (p := ⟨w.heap.size, 0, none⟩) (Nat.le_refl _) _).setCell (p := ⟨w.heap.size, 1, none⟩) (Nat.le_refl _) _).setCell (p := ⟨w.heap.size, 2, none⟩) (Nat.le_refl _) _).drew
    · rw [hJ] at HJ HD
      clear hJ
      go_wp2_with fail
      refine (HJ.out _).mono ?_
      rintro e w' ⟨rfl, rfl⟩
      go_wp2_with (go_region_with (go_at_call 60; refine (HI.out _).mono ?_; rintro e w' ⟨rfl, rfl⟩))
      all_goals
        obtain ⟨k0, k1, k2⟩ := three_set w2 w.heap.size hz2 (.string n) (.bool true) (.string B) d0 d1 d2 _ (((Below.refl _ _).alloc (by simp) (.cells #[.string n, .bool true, .string B] 86)).drew)
        refine bodyPost_ret (v := .tuple #[vDr (n, true, B), .bool J]) (by simp [results, Tryz.results115, go_sem, vDr, k0, k1, k2]) rfl ⟨HE.out _ _ HD.out _ (fun _ => rfl), ?_⟩
        exact ((((b02.setCell (p := ⟨w.heap.size, 0, none⟩) (Nat.le_refl _) _).setCell (p := ⟨w.heap.size, 1, none⟩) (Nat.le_refl _) _).setCell (p := ⟨w.heap.size, 2, none⟩) (Nat.le_refl _) _).alloc (by simp; omega) _).drew
  · have hd := hD.out
    rw [cutAt_none h1] at hd
    dsimp only at hd
    have HI := Lib.hid (fun w => isToken_any p w (by omega))
    have HLo := Lib.hid (fun w => lower_any p w (by omega))
    rw [show mkS (Tok.low (sl p)) = lowT p from rfl] at HLo
    have HD := Lib.hid hd
    clear hd h1
    obtain ⟨n, hn⟩ : ∃ n, lowT p = n := ⟨_, rfl⟩
    rw [hn] at HLo HD
    clear hn
    have b01 : Below w.heap.size w w1 := ((Below.refl _ _).alloc (Nat.le_refl _) _).trans (b1.mono (by simp))
    have hz : w.heap.size < w1.heap.size := by have := b1.size; simp at this; omega
    have c0 : w1.cell? ⟨w.heap.size, 0, none⟩ = some (.string ByteArray.empty) := (b1.cell (by simp)).trans (by go_simp; rfl)
    have c1 : w1.cell? ⟨w.heap.size, 1, none⟩ = some (.bool false) := (b1.cell (by simp)).trans (by go_simp)
    have c2 : w1.cell? ⟨w.heap.size, 2, none⟩ = some (.string ByteArray.empty) := (b1.cell (by simp)).trans (by go_simp; rfl)
    have f0 : w1.frozen? ⟨w.heap.size, 0, none⟩ = false := (b1.frozen (by simp)).trans (by go_simp)
    have f1 : w1.frozen? ⟨w.heap.size, 1, none⟩ = false := (b1.frozen (by simp)).trans (by go_simp)
    have f2 : w1.frozen? ⟨w.heap.size, 2, none⟩ = false := (b1.frozen (by simp)).trans (by go_simp)
    clear b1
    go_wp2_with fail
    refine (HLo.out _).mono ?_
    rintro e w2 ⟨rfl, b2⟩
    have b02 := b01.trans (b2.mono b01.size)
    have hz2 := Nat.lt_of_lt_of_le hz b2.size
    have d0 := (b2.cell hz).trans c0
    have d1 := (b2.cell hz).trans c1
    have d2 := (b2.cell hz).trans c2
    have g0 := (b2.frozen hz).trans f0
    have g1 := (b2.frozen hz).trans f1
    have g2 := (b2.frozen hz).trans f2
    clear c0 c1 c2 f0 f1 f2 b2
    have HE : Hid (∀ (J : Bool) (o : Option Dr), dd = (if J = true then o else none) → ∀ d : Dr, (J = true → o = some d) → ((∃ d', dd = some d' ∧ Ending.returned (.tuple #[vDr d, .bool J]) = .returned (.tuple #[vDr d', .bool true])) ∨ (dd = none ∧ ∃ d' : Dr, Ending.returned (.tuple #[vDr d, .bool J]) = .returned (.tuple #[vDr d', .bool false])))) := by
      intro J o h d ho
      cases J
      · exact .inr ⟨h, d, rfl⟩
      · exact .inl ⟨d, by rw [h, ← ho rfl]; rfl, rfl⟩
    obtain ⟨J, hJA⟩ : ∃ J, Tok.isTok p = J := ⟨_, rfl⟩
    rw [hJA] at HI HD
    go_wp2_with (go_region_with (go_at_call 60; refine (HI.out _).mono ?_; rintro e w' ⟨rfl, rfl⟩))
    all_goals
      obtain ⟨k0, k1, k2⟩ := three_set w2 w.heap.size hz2 (.string n) (.bool false) (.string ByteArray.empty) d0 d1 d2 _ (((Below.refl _ _).alloc (by simp) (.cells #[.string n, .bool false, .string ByteArray.empty] 86)).drew)
      refine bodyPost_ret (v := .tuple #[vDr (n, false, ByteArray.empty), .bool J]) (by simp [results, Tryz.results115, go_sem, vDr, k0, k1, k2]) rfl ⟨HE.out _ _ HD.out _ (fun _ => rfl), ?_⟩
      exact ((((b02.setCell (p := ⟨w.heap.size, 0, none⟩) (Nat.le_refl _) _).setCell (p := ⟨w.heap.size, 1, none⟩) (Nat.le_refl _) _).setCell (p := ⟨w.heap.size, 2, none⟩) (Nat.le_refl _) _).alloc (by simp; omega) _).drew
theorem flat3r {α : Type} {en : α → List Value} (hen : ∀ x, (en x).length = 3) : ∀ (xs : List α) (k i : Nat) (x : α) (u : Value), xs[k]? = some x → i < 3 → (en x)[i]? = some u → (xs.flatMap en)[k * 3 + i]? = some u
  | [], k, i, x, u, h, _, _ => by simp at h
  | y :: ys, 0, i, x, u, h, hi, hu => by
    simp at h; subst h
    rw [List.flatMap_cons, Nat.zero_mul, Nat.zero_add, List.getElem?_append_left (by rw [hen]; exact hi)]; exact hu
  | y :: ys, k + 1, i, x, u, h, hi, hu => by
    rw [List.flatMap_cons, List.getElem?_append_right (by rw [hen]; omega), hen, show (k + 1) * 3 + i - 3 = k * 3 + i from by omega]
    exact flat3r hen ys k i x u (by simpa using h) hi hu
theorem SlR.three {α : Type} {en : α → List Value} {w : World} {v : Value} {xs : List α} (hen : ∀ x, (en x).length = 3) (h : SlR w en v xs) (hn : 0 < xs.length) :
    ∃ b off c, v = .slice (some ⟨b, off, none⟩) xs.length c ∧ b < w.heap.size ∧ ∀ k (hk : k < xs.length) (u0 u1 u2 : Value), (en xs[k])[0]? = some u0 → (en xs[k])[1]? = some u1 → (en xs[k])[2]? = some u2 → w.cell? ⟨b, off + k * 3, none⟩ = some u0 ∧ w.cell? ⟨b, off + k * 3 + 1, none⟩ = some u1 ∧ w.cell? ⟨b, off + k * 3 + 2, none⟩ = some u2 := by
  obtain ⟨A, c, hv, hc, hx⟩ := h
  obtain ⟨b, off, rfl, hb, hcell⟩ := hx hn
  exact ⟨b, off, c, hv, hb, fun k hk u0 u1 u2 h0 h1 h2 => ⟨hcell (k * 3 + 0) u0 (flat3r hen xs k 0 _ u0 (List.getElem?_eq_getElem hk) (by omega) h0), hcell (k * 3 + 1) u1 (flat3r hen xs k 1 _ u1 (List.getElem?_eq_getElem hk) (by omega) h1), hcell (k * 3 + 2) u2 (flat3r hen xs k 2 _ u2 (List.getElem?_eq_getElem hk) (by omega) h2)⟩⟩
set_option maxRecDepth 20000
def commaS : ByteArray := ⟨#[44, 32]⟩
set_option maxRecDepth 20000
namespace Tok
theorem cutL_short (sign : UInt8) : ∀ (n : Nat) (l : List UInt8) (q : Bool) (cur : List UInt8) (ps : List (List UInt8)), l.length ≤ n → cutL sign q cur l = some ps → ∀ p ∈ ps, p.length ≤ cur.length + l.length
  | _, [], q, cur, ps, _, h, p, hp => by
    unfold cutL at h
    cases q
    · simp only [Bool.false_eq_true, if_false, Option.some.injEq] at h; subst h; rw [List.mem_singleton] at hp; subst hp; omega
    · simp at h
  | 0, c :: l, _, _, _, hn, _, _, _ => by simp at hn
  | n + 1, c :: l, q, cur, ps, hn, h, p, hp => by
    simp only [List.length_cons] at hn
    unfold cutL at h
    split at h
    · have := cutL_short sign n l _ _ ps (by omega) h p hp
      simp only [List.length_append, List.length_cons, List.length_nil] at this ⊢; omega
    · split at h
      · cases l with
        | nil => simp at h
        | cons d l =>
          simp only [List.length_cons] at hn
          have := cutL_short sign n l _ _ ps (by omega) h p hp
          simp only [List.length_append, List.length_cons, List.length_nil] at this ⊢; omega
      · split at h
        · obtain ⟨qs, hq, rfl⟩ := Option.map_eq_some_iff.1 h
          rcases List.mem_cons.1 hp with rfl | hp
          · omega
          · have := cutL_short sign n l _ _ qs (by omega) hq p hp
            simp only [List.length_cons, List.length_nil] at this ⊢; omega
        · have := cutL_short sign n l _ _ ps (by omega) h p hp
          simp only [List.length_append, List.length_cons, List.length_nil] at this ⊢; omega
theorem trimL_le (l : List UInt8) : (trimL l).length ≤ l.length := by
  unfold trimL
  rw [List.length_reverse]
  refine Nat.le_trans (List.dropWhile_sublist _).length_le ?_
  rw [List.length_reverse]
  exact (List.dropWhile_sublist _).length_le
theorem split_short {l : List UInt8} {ps : List (List UInt8)} (h : splitL l = .ok ps) : (∀ p ∈ ps, p.length ≤ 1000) ∧ ps.length ≤ 20 ∧ l.length ≤ 1000 := by
  unfold splitL at h
  split at h
  · cases h
  · rename_i hl
    cases hc : cutL 44 false [] l with
    | none => rw [hc] at h; cases h
    | some qs =>
      rw [hc] at h
      dsimp only at h
      split at h
      · cases h
      · rename_i h20
        injection h with h
        subst h
        refine ⟨fun p hp => ?_, by omega, by omega⟩
        obtain ⟨q, hq, rfl⟩ := List.mem_map.1 (List.mem_filter.1 hp).1
        have h1 := trimL_le q
        have h2 := cutL_short 44 _ l _ _ qs (Nat.le_refl _) hc q hq
        simp only [List.length_nil] at h2; omega
end Tok
structure Dir (p : ByteArray) (d : Dr) : Prop where
  name : Tok.isTok d.1 = true
  low : lowT d.1 = d.1
  text : (d.2.1 = false ∧ d.2.2 = ByteArray.empty ∧ sl p = sl d.1) ∨ (d.2.1 = true ∧ sl p = sl d.1 ++ 61 :: sl d.2.2 ∧ Tok.isTok d.2.2 = true) ∨
    (d.2.1 = true ∧ Tok.isTok d.2.2 = false ∧ sl p = sl d.1 ++ 61 :: Tok.quoteL (sl d.2.2) ∧ (sl d.2.2).all Tok.plainB = true)
theorem dir_of {p : ByteArray} {d : Dr} (h : textD d = some p) : Dir p d := by
  obtain ⟨n, hh, a⟩ := d
  unfold textD at h
  split at h
  · rename_i ho
    unfold okD at ho
    simp only [Bool.and_eq_true, beq_iff_eq, ba_toList] at ho
    obtain ⟨⟨h1, h2⟩, h3⟩ := ho
    have h2' : lowT n = n := sl_inj h2.symm
    cases hh
    · simp only [Bool.false_eq_true, if_false, Option.some.injEq] at h
      subst h
      refine ⟨h1, h2', .inl ⟨rfl, ?_, rfl⟩⟩
      simp only [Bool.false_or, List.isEmpty_iff] at h3
      exact sl_inj h3
    · simp only [if_true] at h
      have e : ∀ z : ByteArray, sl (n ++ ⟨#[61]⟩ ++ z) = sl n ++ 61 :: sl z := fun z => by rw [sl_append, sl_append]; show sl n ++ [61] ++ _ = _; simp
      split at h
      · rename_i ht
        injection h with h; subst h
        exact ⟨h1, h2', .inr (.inl ⟨rfl, e _, ht⟩)⟩
      · rename_i ht
        split at h
        · rename_i hq
          injection h with h; subst h
          exact ⟨h1, h2', .inr (.inr ⟨rfl, by simpa using ht, by rw [e, sl_mkS], hq.2⟩)⟩
        · cases h
  · cases h
theorem low_tok (n : ByteArray) : Tok.isTok (lowT n) = Tok.isTok n := by
  have hb0 : ∀ n : Fin 256, Tok.tokB (Tok.lowB (UInt8.ofNat n.val)) = Tok.tokB (UInt8.ofNat n.val) := by decide +kernel
  have hb : ∀ c, Tok.tokB (Tok.lowB c) = Tok.tokB c := fun c => by
    have := hb0 ⟨c.toNat, c.toNat_lt⟩
    simpa using this
  unfold Tok.isTok lowT
  rw [sl_mkS, mkS_size, Tok.low_len, sl_len]
  congr 1
  unfold Tok.low
  rw [List.all_map]
  congr 1
  funext c
  exact hb c
theorem low_twice (n : ByteArray) : lowT (lowT n) = lowT n := by unfold lowT; rw [sl_mkS, Tok.low_low]
theorem okD_low (n : ByteArray) (h : Bool) (a : ByteArray) (ht : Tok.isTok n = true) (ha : h = true ∨ a = ByteArray.empty) : okD (lowT n, h, a) = true := by
  unfold okD
  rw [low_tok, ht, low_twice]
  simp only [beq_self_eq_true, Bool.true_and, Bool.or_eq_true]
  rcases ha with rfl | rfl
  · exact .inl rfl
  · exact .inr (by rw [ba_toList]; rfl)
theorem dir_prints {p : ByteArray} {d : Dr} (h : dirD p = Option.some d) (hp : p.size ≤ 1000) : ∃ t, textD d = Option.some t := by
  have hb : ∀ a b, cutAt 61 (sl p) = Option.some (a, b) → b.length ≤ 1000 := by
    have : ∀ (l a b : List UInt8), cutAt 61 l = Option.some (a, b) → b.length ≤ l.length := by
      intro l
      induction l with
      | nil => intro a b h; cases h
      | cons c l ih =>
        intro a b h
        unfold cutAt at h
        split at h
        · injection h with h; injection h with _ h; subst h; simp
        · obtain ⟨⟨x, y⟩, hx, he⟩ := Option.map_eq_some_iff.1 h
          injection he with _ he; subst he
          have := ih _ _ hx
          simp only [List.length_cons]; omega
    intro a b h
    have := this _ _ _ h
    rw [sl_len] at this; omega
  unfold dirD at h
  cases hc : cutAt 61 (sl p) with
  | none =>
    rw [hc] at h
    dsimp only at h
    split at h
    · rename_i ht
      injection h with h; subst h
      refine ⟨lowT p, ?_⟩
      · unfold textD; rw [if_pos (okD_low _ _ _ ht (.inr rfl))]; rfl
    · cases h
  | some ab =>
    obtain ⟨a, b⟩ := ab
    rw [hc] at h
    dsimp only at h
    split at h
    · rename_i ht
      split at h
      · rename_i hv
        injection h with h; subst h
        refine ⟨lowT (mkS a) ++ ⟨#[61]⟩ ++ mkS b, ?_⟩
        · unfold textD; rw [if_pos (okD_low _ _ _ ht (.inl rfl))]; simp only [if_true, hv]
      · obtain ⟨u, hu, rfl⟩ := Option.map_eq_some_iff.1 h
        have h1 := Tok.unquote_some hu
        have h2 := escs_ge u
        have h3 := hb a b hc
        have h4 : u.length ≤ 1000 := by have := h1.1; simp [Tok.quoteL] at this; omega
        unfold textD
        rw [if_pos (okD_low _ _ _ ht (.inl rfl))]
        simp only [if_true, sl_mkS]
        split
        · exact ⟨_, rfl⟩
        · rw [if_pos ⟨h4, h1.2⟩]; exact ⟨_, rfl⟩
    · cases h
theorem dirs_print {ps : List ByteArray} {l : List Dr} (h : ps.map dirD = l.map Option.some) (hp : ∀ p ∈ ps, p.size ≤ 1000) : ∃ ts : List ByteArray, l.map textD = ts.map Option.some := by
  induction ps generalizing l with
  | nil => cases l with
    | nil => exact ⟨[], rfl⟩
    | cons d l => simp at h
  | cons p ps ih =>
    cases l with
    | nil => simp at h
    | cons d l =>
      simp only [List.map_cons, List.cons.injEq] at h
      obtain ⟨t, ht⟩ := dir_prints h.1 (hp p (by simp))
      obtain ⟨ts, hts⟩ := ih h.2 (fun x hx => hp x (by simp [hx]))
      exact ⟨t :: ts, by simp [ht, hts]⟩
set_option maxRecDepth 20000
namespace Bd
structure HasErr (w : World) : Prop where
  p10 : HasP10 w
  syn : ∃ t p, w.cell? ⟨4, 0, none⟩ = some (.iface t p)
  ran : ∃ t p, w.cell? ⟨5, 0, none⟩ = some (.iface t p)
  lts : 4 < w.heap.size
  ltr : 5 < w.heap.size
theorem HasErr.below {w w' : World} (h : HasErr w) (hb : Below w.heap.size w w') : HasErr w' where
  p10 := h.p10.below rfl hb
  syn := h.syn.elim fun t x => x.elim fun p hp => ⟨t, p, (hb.cell h.lts).trans hp⟩
  ran := h.ran.elim fun t x => x.elim fun p hp => ⟨t, p, (hb.cell h.ltr).trans hp⟩
  lts := Nat.lt_of_lt_of_le h.lts hb.size
  ltr := Nat.lt_of_lt_of_le h.ltr hb.size
theorem atoi_in {l : List UInt8} {v : Int} (h : Lib.atoiAll l = .ok v) : -9223372036854775808 ≤ v ∧ v ≤ 9223372036854775807 := by
  unfold Lib.atoiAll at h
  split at h
  · cases h
  · dsimp only at h
    split at h
    · cases h
    · cases h
    · split at h
      · cases h
      · rename_i h1
        split at h
        · cases h
        · rename_i h2
          injection h with h
          subst h
          split <;> omega
theorem itoa_any (n : Int) (w : World) (h0 : -9223372036854775808 ≤ n) (h1 : n ≤ 9223372036854775807) (hp : HasP10 w) :
    Calls Tryz.prog 75 #[.int .i64 n] w fun e w' => e = .returned (.string (mkS (Lib.itoa n))) ∧ Below w.heap.size w w' := by
  refine (Tryz.strconv_Itoa n h0 h1 w hp.1).mono fun e w' ⟨he, k, os, hw⟩ => ⟨he, ?_⟩
  rw [hw]; exact below_grow_ _ w (Nat.le_refl _) k os
def AtoiR (p : List UInt8) (v : Int) (ev : Value) : Prop := (Lib.atoiAll p = .ok v ∧ ev = .nilIface) ∨ ((∀ u, Lib.atoiAll p ≠ .ok u) ∧ ∃ t q, ev = .iface t q)
end Bd
end Go.Proofs.YtgjfhgcjiglfkaaGreatDoor
namespace Go.Proofs.YtgjfhgcjiglfkaaGreatDoor
def cutC (c : UInt8) : List UInt8 → Option (List UInt8 × List UInt8)
  | [] => none
  | x :: l => if x = c then some ([], l) else (cutC c l).map (fun p => (x :: p.1, p.2))
theorem cutC_some {c : UInt8} : ∀ {l a b : List UInt8}, l = a ++ c :: b → c ∉ a → cutC c l = some (a, b)
  | _, [], b, rfl, _ => by simp [cutC]
  | _, x :: a, b, rfl, h => by
    have hx : x ≠ c := fun e => h (by simp [e])
    simp only [List.cons_append, cutC, if_neg hx, cutC_some (l := a ++ c :: b) rfl (fun e => h (by simp [e])), Option.map_some]
theorem cutC_none {c : UInt8} : ∀ {l : List UInt8}, c ∉ l → cutC c l = none
  | [], _ => rfl
  | x :: l, h => by
    have hx : x ≠ c := fun e => h (by simp [e])
    have hl : c ∉ l := fun e => h (List.mem_cons_of_mem _ e)
    simp only [cutC, if_neg hx, cutC_none hl, Option.map_none]
open Go.RowKit
namespace Spc
def nB (n : Int) : Bool := decide (0 ≤ n) && decide (n ≤ 99999)
theorem nB_bounds {n : Int} (h : nB n = true) : 0 ≤ n ∧ n ≤ 99999 := by simpa [nB] using h
theorem from_app (l m : List UInt8) : ∀ acc : Nat, Lib.decFrom acc (l ++ m) = (Lib.decFrom acc l).bind (fun a => Lib.decFrom a m) := by
  induction l with
  | nil => intro acc; rfl
  | cons c l ih =>
    intro acc
    simp only [List.cons_append, Lib.decFrom]
    cases Lib.digitVal c with
    | none => rfl
    | some d => exact ih _
theorem digit_val (d : Nat) (h : d < 10) : Lib.digitVal (UInt8.ofNat (48 + d)) = some d := by
  have : ∀ d, d < 10 → Lib.digitVal (UInt8.ofNat (48 + d)) = some d := by decide +kernel
  exact this d h
theorem from_dec : ∀ (n u : Nat), u ≤ n → Lib.decFrom 0 (Lib.decDigits u) = some u
  | n, u, hn => by
    rw [Lib.decDigits]
    split
    · rename_i h; simp only [Lib.decFrom, digit_val u h]; simp
    · rename_i h
      match n with
      | 0 => omega
      | n + 1 =>
        rw [from_app, from_dec n (u / 10) (by omega)]
        simp only [Option.bind_some, Lib.decFrom, digit_val (u % 10) (by omega)]
        congr 1; omega
theorem dec_ne (u : Nat) : Lib.decDigits u ≠ [] := by
  rw [Lib.decDigits]; split <;> simp
theorem dec_digits : ∀ (n u : Nat), u ≤ n → ∀ c ∈ Lib.decDigits u, 48 ≤ c.toNat ∧ c.toNat ≤ 57
  | n, u, hn => by
    have hd : ∀ d, d < 10 → 48 ≤ (UInt8.ofNat (48 + d)).toNat ∧ (UInt8.ofNat (48 + d)).toNat ≤ 57 := by decide +kernel
    rw [Lib.decDigits]
    split
    · rename_i h; intro c hc; rw [List.mem_singleton] at hc; subst hc; exact hd u h
    · rename_i h
      match n with
      | 0 => omega
      | n + 1 =>
        intro c hc
        rw [List.mem_append, List.mem_singleton] at hc
        rcases hc with hc | rfl
        · exact dec_digits n (u / 10) (by omega) c hc
        · exact hd _ (by omega)
theorem dec_len : ∀ (k u : Nat), u < 10 ^ (k + 1) → (Lib.decDigits u).length ≤ k + 1
  | k, u, h => by
    rw [Lib.decDigits]
    split
    · simp
    · rename_i h1
      match k with
      | 0 => omega
      | k + 1 =>
        rw [List.length_append, List.length_singleton]
        have := dec_len k (u / 10) (by rw [Nat.pow_succ] at h; omega)
        omega
theorem itoa_len {v : Int} (h : nB v = true) : (Lib.itoa v).length ≤ 5 := by
  obtain ⟨h0, h1⟩ := nB_bounds h
  unfold Lib.itoa
  rw [if_neg (by omega)]
  exact dec_len 4 _ (by omega)
theorem itoa_digits {v : Int} (h : nB v = true) : ∀ c ∈ Lib.itoa v, 48 ≤ c.toNat ∧ c.toNat ≤ 57 := by
  obtain ⟨h0, h1⟩ := nB_bounds h
  unfold Lib.itoa
  rw [if_neg (by omega)]
  exact dec_digits _ _ (Nat.le_refl _)
theorem atoi_itoa {v : Int} (h : nB v = true) : Lib.atoiAll (Lib.itoa v) = .ok v := by
  obtain ⟨h0, h1⟩ := nB_bounds h
  have hl := itoa_len h
  have hdg := itoa_digits h
  rw [Lib.atoiAll_short _ (by omega)]
  unfold Lib.itoa at hdg ⊢
  rw [if_neg (by omega)] at hdg ⊢
  have hf := from_dec v.toNat v.toNat (Nat.le_refl _)
  have hne := dec_ne v.toNat
  cases hd : Lib.decDigits v.toNat with
  | nil => exact absurd hd hne
  | cons c r =>
    rw [hd] at hf hdg
    have hc := hdg c (by simp)
    have e1 : (c == 45) = false := by rw [beq_eq_false_iff_ne]; rintro rfl; revert hc; decide
    have e2 : (c == 43) = false := by rw [beq_eq_false_iff_ne]; rintro rfl; revert hc; decide
    have hat : Lib.atoi (c :: r) = some (v.toNat : Int) := by
      unfold Lib.atoi Lib.decNat
      dsimp only
      rw [e1, e2, hf]
      rfl
    rw [hat]
    show Lib.NumEnd.ok (v.toNat : Int) = _
    rw [Int.toNat_of_nonneg h0]
theorem itoa_inj {v u : Int} (hv : nB v = true) (hu : nB u = true) (h : Lib.itoa v = Lib.itoa u) : v = u := by
  have h1 := atoi_itoa hv
  rw [h, atoi_itoa hu] at h1
  injection h1 with h2
  exact h2.symm
def NumR (p : List UInt8) (v : Int) (b : Bool) : Prop := (b = true ∧ nB v = true ∧ Lib.itoa v = p) ∨ (b = false ∧ ∀ u, nB u = true → Lib.itoa u ≠ p)
theorem not_in {v : Int} {c : UInt8} (h : nB v = true) (hc : ¬ (48 ≤ c.toNat ∧ c.toNat ≤ 57)) : c ∉ Lib.itoa v := fun hm => hc (itoa_digits h c hm)
end Spc
namespace Spc
theorem atoi_wide (p : ByteArray) (w : World) (hs : p.size ≤ 281474976710656) (h : Bd.HasErr w) :
    Calls Tryz.prog 196 #[.string p] w fun e w' => (∃ v ev, e = .returned (.tuple #[.int .i64 v, ev]) ∧ Bd.AtoiR (sl p) v ev) ∧ Below w.heap.size w w' := by
  obtain ⟨t1, p1, hsy⟩ := h.syn
  obtain ⟨t2, p2, hra⟩ := h.ran
  cases ha : Lib.atoiAll (sl p) with
  | ok v =>
    refine (Tryz.strconv_Atoi_ok p (by omega) v ha w).mono fun e w' ⟨he, hw⟩ => ⟨⟨v, _, he, .inl ⟨ha, rfl⟩⟩, ?_⟩
    rcases hw with rfl | ⟨t, rfl⟩
    · exact Below.refl _ _
    · exact Lib.bytesWorld_below _ _ _
  | «syntax» =>
    refine (Tryz.strconv_Atoi_syntax p (by omega) ha _ w hsy (.inr ⟨_, _, rfl⟩)).mono fun e w' ⟨N, he, _, _, hb⟩ => ⟨⟨_, _, he, .inr ⟨fun u hu => (by rw [ha] at hu; cases hu), _, _, rfl⟩⟩, hb⟩
  | range =>
    refine (Tryz.strconv_Atoi_range p (by omega) ha _ w hra (.inr ⟨_, _, rfl⟩)).mono fun e w' ⟨N, he, _, _, hb⟩ => ⟨⟨_, _, he, .inr ⟨fun u hu => (by rw [ha] at hu; cases hu), _, _, rfl⟩⟩, hb⟩
theorem NumR.not {p : List UInt8} {v x : Int} (h : Lib.atoiAll p = .ok v) (hn : nB v = false ∨ Lib.itoa v ≠ p) : NumR p x false := by
  refine .inr ⟨rfl, fun u hu he => ?_⟩
  have h1 := atoi_itoa hu
  rw [he, h] at h1
  injection h1 with h1
  subst h1
  rcases hn with hn | hn
  · rw [hu] at hn; cases hn
  · exact hn he
theorem isNumberC_any (n : Int) (w : World) :
    Calls Tryz.prog 317 #[.int .i64 n] w fun e w' => e = .returned (.bool (nB n)) ∧ w = w' := by
  go_enter Tryz.func317, Tryz.ntmps317
  go_wp2
  all_goals
    go_ret
    exact ⟨ret_bool (by unfold nB; simp; try omega), rfl⟩
set_option maxHeartbeats 1000000 in
theorem numberC_any (s : ByteArray) (w : World) (hs : s.size ≤ 140737488355328) (he : Bd.HasErr w) :
    Calls Tryz.prog 291 #[.string s] w fun e w' => (∃ v b, e = .returned (.tuple #[.int .i64 v, .bool b]) ∧ NumR (sl s) v b) ∧ Below w.heap.size w w' := by
  have HE := Lib.hid (fun w' (hb : Below w.heap.size w w') => he.below hb)
  have HA := Lib.hid (atoi_wide s w (by omega) he)
  clear he
  go_enter Tryz.func291, Tryz.ntmps291
  go_wp2_with fail
  refine HA.out.mono ?_
  rintro e w1 ⟨⟨v, ev, rfl, hat⟩, b1⟩
  clear HA
  have HP := Lib.hid (HE.out _ b1).p10
  rcases hat with ⟨hok, rfl⟩ | ⟨hno, t, q, rfl⟩
  · have hvr := Bd.atoi_in hok
    have HOk := Lib.hid hok
    have HNb := Lib.hid (isNumberC_any v w1)
    clear hok
    cases hn : nB v
    · rw [hn] at HNb
      have HR : Hid (NumR (sl s) v false) := NumR.not HOk.out (.inl hn)
      clear HOk hn
      go_wp2_with fail
      refine HNb.out.mono ?_
      rintro e w2 ⟨rfl, rfl⟩
      go_wp2_with fail
      go_ret2
      exact ⟨⟨v, false, rfl, HR.out⟩, b1⟩
    · rw [hn] at HNb
      have HIt := Lib.hid (Bd.itoa_any v w1 hvr.1 hvr.2 HP.out)
      have hHR : NumR (sl s) v (decide (Lib.itoa v = sl s)) := by
        by_cases h : Lib.itoa v = sl s
        · rw [decide_eq_true h]; exact .inl ⟨rfl, hn, h⟩
        · rw [decide_eq_false h]; exact NumR.not HOk.out (.inr h)
      have hq : ((mkS (Lib.itoa v)).toList == s.toList) = decide (Lib.itoa v = sl s) := by rw [ba_toList, ba_toList, sl_mkS]; by_cases h : Lib.itoa v = sl s <;> simp [h]
      have HR := Lib.hid hHR
      clear HOk hn hHR
      generalize decide (Lib.itoa v = sl s) = B at *
      generalize mkS (Lib.itoa v) = I at *
      have HQ := Lib.hid hq
      clear hq
      go_wp2_with fail
      refine HNb.out.mono ?_
      rintro e w2 ⟨rfl, rfl⟩
      go_wp2_with fail
      refine HIt.out.mono ?_
      rintro e w3 ⟨rfl, b3⟩
      have hq := HQ.out
      cases B
      · go_wp2_with fail
        go_ret2
        exact ⟨⟨v, false, rfl, HR.out⟩, belT b1 b3⟩
      · go_wp2_with fail
        go_ret2
        exact ⟨⟨v, true, rfl, HR.out⟩, belT b1 b3⟩
  · have HR : Hid (NumR (sl s) v false) := .inr ⟨rfl, fun u hu h => hno u (by rw [← h]; exact atoi_itoa hu)⟩
    clear hno
    go_wp2_with fail
    go_ret2
    exact ⟨⟨v, false, rfl, HR.out⟩, b1⟩
end Spc
end Go.Proofs.YtgjfhgcjiglfkaaGreatDoor
