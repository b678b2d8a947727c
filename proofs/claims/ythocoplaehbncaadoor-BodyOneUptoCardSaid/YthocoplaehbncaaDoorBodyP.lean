/- body: the plain law of BodyOne. -/
import Derived.Test.YthocoplaehbncaaDoorBodyB
import Derived.Test.YthocoplaehbncaaDoorDig
import Derived.Test.YthocoplaehbncaaDoorTokJ
namespace Go.Proofs.YthocoplaehbncaaDoor
set_option maxRecDepth 20000
open Go.RowKit
namespace Bd
theorem kind_nil : kindF false ⟨#[71, 69, 84]⟩ 200 [] = (4, 0, 0) := by kernel_rfl
def ncl : ByteArray := ⟨#[99, 111, 110, 116, 101, 110, 116, 45, 108, 101, 110, 103, 116, 104]⟩
def bothL : List Fld := [(nTE, ⟨#[99, 104, 117, 110, 107, 101, 100]⟩), (ncl, ⟨#[53]⟩)]
theorem kind_post : kindF true ⟨#[80, 79, 83, 84]⟩ 0 bothL = (0, 0, 10) := by kernel_rfl
theorem isR_both (l : List Fld) : isR (l ++ bothL) nTE = true ∧ isR (l ++ bothL) nCL = true := by
  unfold isR
  rw [selF_append, selF_append, List.length_append, List.length_append]
  have h1 : (selF bothL nTE).length = 1 := by kernel_rfl
  have h2 : (selF bothL nCL).length = 1 := by kernel_rfl
  rw [h1, h2]
  exact ⟨by simp, by simp⟩
theorem kind_both (req : Bool) (m : ByteArray) (code : Int) (l : List Fld) : kindF req m code (l ++ bothL) = if noB req m code = true then (1, 0, 0) else (0, 0, 10) := by
  unfold kindF
  rw [(isR_both l).1, (isR_both l).2]
  rfl
def twoL (d : ByteArray) : List Fld := [(nCL, ⟨#[55]⟩), (nCL, d)]
theorem isR_two (d : ByteArray) : isR (twoL d) nTE = false ∧ isR (twoL d) nCL = true := by
  have e1 : selF (twoL d) nTE = [] := by
    have h : isN (lowS nTE) (nCL, (⟨#[55]⟩ : ByteArray)) = false ∧ ∀ d, isN (lowS nTE) (nCL, d) = isN (lowS nTE) (nCL, (⟨#[55]⟩ : ByteArray)) := ⟨by kernel_rfl, fun _ => rfl⟩
    unfold selF twoL
    rw [List.filter_cons, h.1, if_neg (by simp), List.filter_cons, h.2 d, h.1, if_neg (by simp)]; rfl
  have e2 : selF (twoL d) nCL = [⟨#[55]⟩, d] := by
    have h : isN (lowS nCL) (nCL, (⟨#[55]⟩ : ByteArray)) = true ∧ ∀ d, isN (lowS nCL) (nCL, d) = isN (lowS nCL) (nCL, (⟨#[55]⟩ : ByteArray)) := ⟨by kernel_rfl, fun _ => rfl⟩
    unfold selF twoL
    rw [List.filter_cons, h.1, if_pos rfl, List.filter_cons, h.2 d, h.1, if_pos rfl]; rfl
  unfold isR
  rw [e1, e2]
  exact ⟨rfl, rfl⟩
theorem txt_two (d : ByteArray) : txt (twoL d) nCL = mkS ([55] ++ ([44, 32] ++ sl d)) := by
  have e2 : selF (twoL d) nCL = [⟨#[55]⟩, d] := by
    have h : isN (lowS nCL) (nCL, (⟨#[55]⟩ : ByteArray)) = true ∧ ∀ d, isN (lowS nCL) (nCL, d) = isN (lowS nCL) (nCL, (⟨#[55]⟩ : ByteArray)) := ⟨by kernel_rfl, fun _ => rfl⟩
    unfold selF twoL
    rw [List.filter_cons, h.1, if_pos rfl, List.filter_cons, h.2 d, h.1, if_pos rfl]; rfl
  unfold Bd.txt
  rw [e2]
  unfold joinS joinL
  congr 1
  show Lib.join [[55], sl d] [44, 32] = _
  rw [Lib.join_cons]
  simp [Lib.joinTail]
theorem num_seven : numF [55] = (7, 0) := by
  have h1 : Lib.atoiAll [55] = .ok 7 := by rfl
  have h2 : Lib.itoa 7 = [55] := by first | rfl | kernel_rfl | decide +kernel
  unfold numF
  rw [h1]
  dsimp only
  rw [h2, if_neg (show ¬ ((7 : Int) < 0 ∨ 4 < ([55] : List UInt8).length ∨ ([55] : List UInt8) ≠ [55]) by simp), if_neg (by omega)]
theorem size_two (n : Nat) (hn : n < 5000) : sizeF (mkS ([55] ++ ([44, 32] ++ sl (Fr.digS n)))) = if n = 7 then (7, 0) else (0, 10) := by
  have hd : sl (Fr.digS n) = Fr.digL n := by unfold Fr.digS; rw [sl_mkS]
  have hlen := Fr.digL_5 (show n < 100000 by omega)
  have htok : Tok.tokOk (Fr.digL n) := ⟨Fr.digL_tok n, fun e => by have := Fr.digL_pos n; rw [e] at this; exact absurd this (by simp)⟩
  have h34 : (34 : UInt8) ∉ [55] ++ ([44, 32] ++ Fr.digL n) := by
    simp only [List.mem_append, List.mem_cons, List.not_mem_nil, or_false]
    rintro (h | h | h)
    · exact absurd h (by decide)
    · rcases h with h | h <;> exact absurd h (by decide)
    · exact (Tok.tok_blank (List.all_eq_true.1 (Fr.digL_tok n) 34 h)).2.2 rfl
  have h44 : (44 : UInt8) ∉ Fr.digL n := fun h => (Tok.tok_blank (List.all_eq_true.1 (Fr.digL_tok n) 44 h)).2.1 rfl
  have hp2 : Tok.parts [] (Fr.digL n) = [Fr.digL n] := by
    unfold Tok.parts
    have := Tok.seg_plain (Fr.digL n) [] [] h44
    rw [List.append_nil, List.nil_append] at this
    rw [this]
    have ht := Tok.trimL_tok (b := []) htok rfl
    rw [List.append_nil] at ht
    show ([Tok.trimL (Fr.digL n)]).filter (fun p => !p.isEmpty) = _
    rw [ht, List.filter_cons]
    have : (!(Fr.digL n).isEmpty) = true := by
      cases hx : Fr.digL n with
      | nil => exact absurd hx htok.2
      | cons a b => rfl
    rw [this]; rfl
  have hparts : Tok.parts [] ([55] ++ ([44, 32] ++ Fr.digL n)) = [[55], Fr.digL n] := by
    rw [Tok.parts_tok (t := [55]) (g := [44, 32]) ⟨by decide, by simp⟩ ⟨by decide, [], [32], rfl, rfl⟩, hp2]
  have hsp : Tok.splitL ([55] ++ ([44, 32] ++ Fr.digL n)) = .ok [[55], Fr.digL n] := by
    unfold Tok.splitL
    rw [if_neg (by simp only [List.length_append, List.length_cons, List.length_nil]; omega), Tok.cutL_seg _ _ h34]
    dsimp only
    have e : ((Tok.seg [] ([55] ++ ([44, 32] ++ Fr.digL n))).map Tok.trimL).filter (fun p => !p.isEmpty) = [[55], Fr.digL n] := hparts
    rw [e, if_neg (by simp)]
  unfold sizeF
  rw [sl_mkS, hd, hsp]
  dsimp only
  by_cases h7 : n = 7
  · subst h7
    have : Fr.digL 7 = [55] := by rw [Fr.digL_lt (by omega)]; rfl
    rw [this, if_pos (by decide), num_seven, if_pos rfl]
  · have hne : Fr.digL n ≠ [55] := by
      intro e
      by_cases h10 : n < 10
      · rw [Fr.digL_lt h10] at e
        injection e with e _
        have := congrArg UInt8.toNat e
        rw [UInt8.toNat_ofNat'] at this
        have h55 : (55 : UInt8).toNat = 55 := rfl
        omega
      · rw [Fr.digL_ge h10] at e
        have := congrArg List.length e
        have hp := Fr.digL_pos (n / 10)
        simp only [List.length_append, List.length_cons, List.length_nil] at this; omega
    rw [if_neg (by simp [hne]), if_neg h7]
theorem kind_two (m : ByteArray) (code : Int) (n : Nat) (hn : n < 5000) : kindF true m code (twoL (Fr.digS n)) = if n = 7 then (2, 7, 0) else (0, 0, 10) := by
  unfold kindF noB
  rw [(isR_two _).1, (isR_two _).2, txt_two, size_two n hn]
  by_cases h7 : n = 7
  · rw [if_pos h7, if_pos h7]; rfl
  · rw [if_neg h7, if_neg h7]; rfl
theorem wt_two (d : ByteArray) (h : d.size ≤ 5) : wt (twoL d) ≤ 4398046511104 := by
  unfold wt twoL
  have e : nCL.size = 14 := rfl
  have e2 : (⟨#[55]⟩ : ByteArray).size = 1 := rfl
  simp only [List.map_cons, List.map_nil, List.sum_cons, List.sum_nil, e, e2]
  omega
theorem wt_both (l : List Fld) (h : wt l ≤ 1048576) : wt (l ++ bothL) ≤ 4398046511104 := by
  have e : wt bothL = 43 := by rfl
  have : wt (l ++ bothL) = wt l + wt bothL := by unfold wt; rw [List.map_append, List.sum_append]
  omega
end Bd
end Go.Proofs.YthocoplaehbncaaDoor
