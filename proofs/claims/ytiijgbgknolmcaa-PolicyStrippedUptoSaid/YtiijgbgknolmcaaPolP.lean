/- policy's laws: the plain law. -/
import Derived.Test.YtiijgbgknolmcaaPolD
import Derived.Test.YtiijgbgknolmcaaIsTok
import Derived.Test.YtiijgbgknolmcaaFieldLaws
namespace Go.Proofs.Ytiijgbgknolmcaa
set_option maxRecDepth 20000
open Go.RowKit
namespace Pol
theorem isN_iff {n : ByteArray} {f : Fld} : isN n f = true ↔ lowS f.1 = n := by unfold isN; rw [toList_inj, decide_eq_true_iff]
theorem selF_keep_in {ns : List ByteArray} {n : ByteArray} (l : List Fld) (h : hasB ns (lowS n) = true) : selF (keepW ns l) n = [] := by
  unfold selF keepW
  rw [List.filter_filter]
  have : (l.filter fun a => isN (lowS n) a && !isW ns a) = [] := by
    rw [List.filter_eq_nil_iff]
    intro f _ hf
    rw [Bool.and_eq_true] at hf
    have h1 := isN_iff.1 hf.1
    have h2 := hf.2
    unfold isW at h2
    rw [h1, h] at h2
    cases h2
  rw [this]; rfl
theorem selF_keep_out {ns : List ByteArray} {n : ByteArray} (l : List Fld) (h : hasB ns (lowS n) = false) : selF (keepW ns l) n = selF l n := by
  unfold selF keepW
  rw [List.filter_filter]
  congr 1
  apply List.filter_congr
  intro f _
  cases hq : isN (lowS n) f
  · rfl
  · have h1 := isN_iff.1 hq
    unfold isW
    rw [h1, h]; rfl
theorem selF_keep_nil {l : List Fld} {n : ByteArray} (ns : List ByteArray) (h : selF l n = []) : selF (keepW ns l) n = [] := by
  cases hq : hasB ns (lowS n)
  · rw [selF_keep_out l hq, h]
  · exact selF_keep_in l hq
/-! ### Freshen. -/
theorem selF_mem {l : List Fld} {n : ByteArray} : selF l n ≠ [] ↔ ∃ f ∈ l, lowS f.1 = lowS n := by
  unfold selF
  rw [ne_eq, List.map_eq_nil_iff, List.filter_eq_nil_iff]
  constructor
  · intro h
    apply Classical.byContradiction
    intro hn
    exact h fun f hf hi => hn ⟨f, hf, isN_iff.1 hi⟩
  · rintro ⟨f, hf, he⟩ h
    exact h f hf (isN_iff.2 he)
theorem names_has {now : List Fld} {x : ByteArray} : hasB (namesF now) x = true ↔ (∃ f ∈ now, lowS f.1 = x) ∧ hasB below4 x = false := by
  rw [hasB_iff]
  unfold namesF
  rw [List.mem_filter, List.mem_map]
  simp
theorem fresh_below {old now : List Fld} {n : ByteArray} (h : hasB below4 (lowS n) = true) : selF (freshF old now) n = selF old n := by
  unfold freshF
  rw [selF_append, selF_keep_in _ h, List.append_nil]
  apply selF_keep_out
  cases hq : hasB (namesF now) (lowS n)
  · rfl
  · have := (names_has.1 hq).2
    rw [h] at this; cases this
theorem fresh_told {old now : List Fld} {n : ByteArray} (h : hasB below4 (lowS n) = false) (ht : selF now n ≠ []) : selF (freshF old now) n = selF (stripF now) n := by
  unfold freshF
  rw [selF_append, selF_keep_in (ns := namesF now) _ (names_has.2 ⟨selF_mem.1 ht, h⟩), List.nil_append, selF_keep_out _ h]
theorem fresh_untold {old now : List Fld} {n : ByteArray} (ht : selF now n = []) : selF (freshF old now) n = selF old n ∧ selF (stripF now) n = [] := by
  have hs : selF (stripF now) n = [] := selF_keep_nil _ ht
  refine ⟨?_, hs⟩
  unfold freshF
  rw [selF_append, selF_keep_nil _ hs, List.append_nil]
  apply selF_keep_out
  cases hq : hasB (namesF now) (lowS n)
  · rfl
  · exact absurd ht (selF_mem.2 (names_has.1 hq).1)
theorem keepW_idem (ns : List ByteArray) (l : List Fld) : keepW ns (keepW ns l) = keepW ns l := by
  unfold keepW; rw [List.filter_filter]; congr 1; funext f; cases isW ns f <;> rfl
theorem fresh_again (old now : List Fld) : freshF (freshF old now) now = freshF old now := by
  have h1 : keepW (namesF now) (keepW below4 (stripF now)) = [] := by
    unfold keepW
    rw [List.filter_eq_nil_iff]
    intro f hf hn
    obtain ⟨h1, h2⟩ := List.mem_filter.1 hf
    have h3 := (List.mem_filter.1 h1).1
    have : isW (namesF now) f = true := names_has.2 ⟨⟨f, h3, rfl⟩, by unfold isW at h2; simpa using h2⟩
    rw [this] at hn; cases hn
  have h2 : ∀ ns (l m : List Fld), keepW ns (l ++ m) = keepW ns l ++ keepW ns m := fun ns l m => List.filter_append ..
  unfold freshF
  rw [h2, keepW_idem, h1, List.append_nil]
theorem lit_fresh : freshF [(⟨#[97]⟩, ⟨#[49]⟩), (⟨#[98]⟩, ⟨#[50]⟩)] [(⟨#[65]⟩, ⟨#[51]⟩)] = [(⟨#[98]⟩, ⟨#[50]⟩), (⟨#[65]⟩, ⟨#[51]⟩)] := by kernel_rfl
/-! ### Strip. -/
def five : List ByteArray := [⟨#[67, 111, 110, 110, 101, 99, 116, 105, 111, 110]⟩, ⟨#[84, 69]⟩, ⟨#[84, 114, 97, 110, 115, 102, 101, 114, 45, 69, 110, 99, 111, 100, 105, 110, 103]⟩, ⟨#[85, 112, 103, 114, 97, 100, 101]⟩, ⟨#[75, 101, 101, 112, 45, 65, 108, 105, 118, 101]⟩]
theorem five_in (l : List Fld) : ∀ n ∈ five, selF (stripF l) n = [] := by
  intro n hn
  apply selF_keep_in
  unfold hopsF hasB
  rw [List.any_append]
  have : ∀ n ∈ five, hop7.any (fun x => decide (x = lowS n)) = true := by decide +kernel
  rw [this n hn]; rfl
theorem split_nil : Tok.splitL [] = .ok [] := by kernel_rfl
theorem hops_strip (l : List Fld) : hopsF (stripF l) = hop7 := by
  have h : selF (stripF l) nConn = [] := five_in l nConn (by simp [five, nConn])
  unfold hopsF partsF txt
  rw [h]
  have : sl (joinS [] sep2) = [] := rfl
  rw [this, split_nil]; rfl
theorem strip_again (l : List Fld) : stripF (stripF l) = stripF l := by
  have e : stripF (stripF l) = keepW hop7 (stripF l) := by
    show keepW (hopsF (stripF l)) (stripF l) = _
    rw [hops_strip]
  rw [e]
  unfold stripF keepW
  rw [List.filter_filter]
  congr 1
  funext f
  cases hq : isW (hopsF l) f
  · have : isW hop7 f = false := by
      unfold isW hopsF hasB at hq
      rw [List.any_append, Bool.or_eq_false_iff] at hq
      exact hq.1
    rw [this]; rfl
  · simp
theorem lit_strip : stripF [(⟨#[99, 111, 110, 110, 101, 99, 116, 105, 111, 110]⟩, ⟨#[88]⟩), (⟨#[120]⟩, ⟨#[49]⟩), (⟨#[121]⟩, ⟨#[50]⟩)] = [(⟨#[121]⟩, ⟨#[50]⟩)] := by kernel_rfl
theorem tokOk_of {n : ByteArray} (h : Tok.isTok n = true) : Tok.tokOk (sl n) := by
  unfold Tok.isTok at h
  rw [Bool.and_eq_true, decide_eq_true_eq] at h
  refine ⟨h.1, fun e => ?_⟩
  have h2 := sl_len n
  rw [e] at h2
  have h3 : ([] : List UInt8).length = 0 := rfl
  omega
theorem split_tok {t : List UInt8} (h : Tok.tokOk t) (hl : t.length ≤ 30) : Tok.splitL t = .ok [t] := by
  have h44 : (44 : UInt8) ∉ t := fun hm => (Tok.tok_blank (List.all_eq_true.1 h.1 44 hm)).2.1 rfl
  have h34 : (34 : UInt8) ∉ t := fun hm => (Tok.tok_blank (List.all_eq_true.1 h.1 34 hm)).2.2 rfl
  have hs : Tok.seg [] t = [t] := by
    have := Tok.seg_plain t [] [] h44
    rw [List.append_nil, List.nil_append] at this
    rw [this]; rfl
  have ht : Tok.trimL t = t := by have := Tok.trimL_tok h (b := []) rfl; rwa [List.append_nil] at this
  unfold Tok.splitL
  rw [if_neg (by omega), Tok.cutL_seg _ [] h34]
  simp only
  rw [hs]
  simp only [List.map_cons, List.map_nil, ht, List.filter_cons, List.filter_nil]
  have : t.isEmpty = false := by
    cases t with
    | nil => exact absurd rfl h.2
    | cons x t => rfl
  rw [this]
  rfl
theorem strip_set (l : List Fld) {n : ByteArray} (h : Tok.isTok n = true) (hl : n.size ≤ 30) : selF (stripF (setF l nConn n)) n = [] := by
  apply selF_keep_in
  have hp : partsF (setF l nConn n) = [n] := by
    unfold partsF txt
    rw [selF_set_self, joinS_one, split_tok (tokOk_of h) (by rw [sl_len]; exact hl)]
    simp [mkS_sl]
  unfold hopsF
  rw [hp, hasB_iff]
  simp
theorem wt_set (l : List Fld) (n a : ByteArray) : wt (setF l n a) ≤ wt l + n.size + a.size + 2 := by
  have h1 : wt [(n, a)] = n.size + a.size + 2 := by simp [wt]
  rcases setF_shape l n with ⟨_, hs⟩ | ⟨k, hk, _, _, hs⟩
  · rw [hs, wt_append, h1]; omega
  · rw [hs, wt_append, wt_append, h1]
    have h2 : wt (dropF (l.drop (k + 1)) n) ≤ wt (l.drop (k + 1)) := wt_filter _ _
    have h3 : wt l = wt (l.take k) + (wt [l[k]] + wt (l.drop (k + 1))) := by
      conv => lhs; rw [← List.take_append_drop k l, wt_append, List.drop_eq_getElem_cons hk, show l[k] :: l.drop (k + 1) = [l[k]] ++ l.drop (k + 1) from rfl, wt_append]
    omega
/-- How many of the fields that are kept have gone by. -/
theorem strip_count {l : List Fld} {k : Nat} (h : k < l.length) (ns : List ByteArray) : (keepW ns (l.take (k + 1))).length = (keepW ns (l.take k)).length + (if isW ns l[k] = true then 0 else 1) := by
  rw [keepW_snoc h, List.length_append]
  cases isW ns l[k] <;> simp
theorem strip_at {l : List Fld} {k : Nat} (h : k < l.length) (ns : List ByteArray) (hq : isW ns l[k] = false) : (keepW ns l)[(keepW ns (l.take k)).length]? = some l[k] := by
  have e : keepW ns l = keepW ns (l.take k) ++ (l[k] :: keepW ns (l.drop (k + 1))) := by
    conv => lhs; rw [← List.take_append_drop k l]
    unfold keepW
    rw [List.filter_append, List.drop_eq_getElem_cons h, List.filter_cons, if_pos (by rw [hq]; rfl)]
  rw [e, List.getElem?_append_right (Nat.le_refl _), Nat.sub_self]; rfl
theorem strip_kept {l : List Fld} (ns : List ByteArray) {j : Nat} {f : Fld} (h : (keepW ns l)[j]? = some f) : isW ns f = false := by
  have := List.mem_of_getElem? h
  have := (List.mem_filter.1 this).2
  simpa using this
end Pol
end Go.Proofs.Ytiijgbgknolmcaa
