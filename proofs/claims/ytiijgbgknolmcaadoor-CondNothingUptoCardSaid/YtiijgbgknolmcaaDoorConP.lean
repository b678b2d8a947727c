/- cond's Eval: the plain law. -/
import Derived.Test.YtiijgbgknolmcaaDoorFieldG
import Derived.Test.YtiijgbgknolmcaaDoorTagX
import Derived.Test.YtiijgbgknolmcaaDoorTagM
import Derived.Test.YtiijgbgknolmcaaDoorDatS
namespace Go.Proofs.YtiijgbgknolmcaaDoor
set_option maxRecDepth 20000
open Go.RowKit
namespace Cn
/-- The text that Get answers, and whether there is one. -/
def txt (l : List Fld) (n : ByteArray) : ByteArray := joinS (selF l n) sep2
def isR (l : List Fld) (n : ByteArray) : Bool := decide (0 < (selF l n).length)
def weakF (a b : Tg.Tag) : Bool := a.2.toList == b.2.toList
def strongF (a b : Tg.Tag) : Bool := !a.1 && !b.1 && a.2.toList == b.2.toList
/-- tags: are there some, and does the thing have one of them. -/
def tagsF (there tagged : Bool) (tag : Tg.Tag) (l : List Fld) (name : ByteArray) (same : Tg.Tag → Tg.Tag → Bool) : Bool × Bool :=
  if isR l name = false then (false, false) else
  match Tg.listF (sl (txt l name)) with
  | .error _ => (false, false)
  | .ok (star, ts) => if (star || !there) = true then (true, there) else (true, tagged && ts.any (fun x => same x tag))
/-- since: a field's date, if it counts. -/
def Since (there : Bool) (modified : Int) (l : List Fld) (name : ByteArray) (r : Option Nat) : Prop :=
  (∃ n, n ≤ 253402300799 ∧ r = some n ∧ isR l name = true ∧ there = true ∧ 0 ≤ modified ∧ txt l name = mkS (Dt.printD n)) ∨
  (r = none ∧ ∀ n, n ≤ 253402300799 → ¬ (isR l name = true ∧ there = true ∧ 0 ≤ modified ∧ txt l name = mkS (Dt.printD n)))
theorem since_ex (there : Bool) (modified : Int) (l : List Fld) (name : ByteArray) : ∃ r, Since there modified l name r := by
  by_cases h : ∃ n, n ≤ 253402300799 ∧ (isR l name = true ∧ there = true ∧ 0 ≤ modified ∧ txt l name = mkS (Dt.printD n))
  · obtain ⟨n, hn, h⟩ := h
    exact ⟨some n, .inl ⟨n, hn, rfl, h⟩⟩
  · exact ⟨none, .inr ⟨rfl, fun n hn h' => h ⟨n, hn, h'⟩⟩⟩
theorem since_one {there : Bool} {modified : Int} {l : List Fld} {name : ByteArray} {r s : Option Nat} (h : Since there modified l name r) (k : Since there modified l name s) : r = s := by
  rcases h with ⟨n, hn, rfl, h⟩ | ⟨rfl, h⟩
  · rcases k with ⟨m, hm, rfl, k⟩ | ⟨rfl, k⟩
    · have := h.2.2.2.symm.trans k.2.2.2
      have := congrArg sl this
      rw [sl_mkS, sl_mkS] at this
      rw [printD_inj hn hm this]
    · exact absurd h (k n hn)
  · rcases k with ⟨m, hm, rfl, k⟩ | ⟨rfl, k⟩
    · exact absurd k (h m hm)
    · rfl
theorem since_no {there : Bool} {modified : Int} {l : List Fld} {name : ByteArray} {r : Option Nat} (h : Since there modified l name r) (hn : selF l name = []) : r = none := by
  rcases h with ⟨n, hn', rfl, h⟩ | ⟨rfl, h⟩
  · have := h.1; unfold isR at this; rw [hn] at this; cases this
  · rfl
theorem since_neg {there : Bool} {modified : Int} {l : List Fld} {name : ByteArray} {r : Option Nat} (h : Since there modified l name r) (hn : modified < 0) : r = none := by
  rcases h with ⟨n, hn', rfl, h⟩ | ⟨rfl, h⟩
  · have := h.2.2.1; omega
  · rfl
theorem since_yes {modified : Int} {l : List Fld} {name : ByteArray} {r : Option Nat} {n : Nat} (h : Since true modified l name r) (hm : 0 ≤ modified) (hn : n ≤ 253402300799) (hs : selF l name = [mkS (Dt.printD n)]) : r = some n := by
  refine since_one h (.inl ⟨n, hn, rfl, ?_, rfl, hm, ?_⟩)
  · unfold isR; rw [hs]; rfl
  · unfold txt; rw [hs, joinS_one]
def d1F (d : Option Nat) (modified : Int) : Bool := match d with | some n => decide ((n : Int) < modified) | none => false
def d2F (d : Option Nat) (reads : Bool) (modified : Int) : Bool := match d with | some n => reads && decide (modified ≤ (n : Int)) | none => false
/-- Eval's end. -/
def endF (reads : Bool) (modified : Int) (t1 : Bool × Bool) (d1 : Option Nat) (t2 : Bool × Bool) (d2 : Option Nat) : Int :=
  if t1.1 = true ∧ t1.2 = false then 412 else
  if t1.1 = false ∧ d1F d1 modified = true then 412 else
  if t2.1 = true then (if t2.2 = true then (if reads = true then 304 else 412) else 0) else
  if d2F d2 reads modified = true then 304 else 0
def nIM : ByteArray := ⟨#[73, 102, 45, 77, 97, 116, 99, 104]⟩
def nINM : ByteArray := ⟨#[73, 102, 45, 78, 111, 110, 101, 45, 77, 97, 116, 99, 104]⟩
def nIUS : ByteArray := ⟨#[73, 102, 45, 85, 110, 109, 111, 100, 105, 102, 105, 101, 100, 45, 83, 105, 110, 99, 101]⟩
def nIMS : ByteArray := ⟨#[73, 102, 45, 77, 111, 100, 105, 102, 105, 101, 100, 45, 83, 105, 110, 99, 101]⟩
def readsF (m : ByteArray) : Bool := m.toList == [71, 69, 84] || m.toList == [72, 69, 65, 68]
/-- What Parse makes of the tag's text. -/
def TagOf (s : ByteArray) (tagged : Bool) (t : Tg.Tag) : Prop := (tagged = true ∧ Tg.good t ∧ sl s = Tg.text t) ∨ (tagged = false ∧ ∀ t, Tg.good t → sl s ≠ Tg.text t)
def Ans (m : ByteArray) (l : List Fld) (there : Bool) (tag : ByteArray) (modified : Int) (r : Int) : Prop :=
  ∃ tagged t d1 d2, TagOf tag tagged t ∧ Since there modified l nIUS d1 ∧ Since there modified l nIMS d2 ∧
    r = endF (readsF m) modified (tagsF there tagged t l nIM strongF) d1 (tagsF there tagged t l nINM weakF) d2
/-! ### What the fields are. -/
def plainly (l : List Fld) : List Fld := dropF (dropF (dropF (dropF l nIM) nINM) nIMS) nIUS
theorem plainly_len (l : List Fld) : (plainly l).length ≤ l.length := by
  unfold plainly
  exact Nat.le_trans (dropF_len _ _) (Nat.le_trans (dropF_len _ _) (Nat.le_trans (dropF_len _ _) (dropF_len _ _)))
theorem plainly_lims {l : List Fld} (h : Lims l) : Lims (plainly l) := dropF_lims _ (dropF_lims _ (dropF_lims _ (dropF_lims _ h)))
theorem ne1 : lowS nIM ≠ lowS nINM ∧ lowS nIM ≠ lowS nIMS ∧ lowS nIM ≠ lowS nIUS ∧ lowS nINM ≠ lowS nIMS ∧ lowS nINM ≠ lowS nIUS ∧ lowS nIMS ≠ lowS nIUS := by decide +kernel
theorem plainly_no (l : List Fld) : selF (plainly l) nIM = [] ∧ selF (plainly l) nINM = [] ∧ selF (plainly l) nIMS = [] ∧ selF (plainly l) nIUS = [] := by
  obtain ⟨a, b, c, d, e, f⟩ := ne1
  unfold plainly
  refine ⟨?_, ?_, ?_, selF_drop_self _ _⟩
  · rw [selF_drop_other _ c, selF_drop_other _ b, selF_drop_other _ a, selF_drop_self]
  · rw [selF_drop_other _ e, selF_drop_other _ d, selF_drop_self]
  · rw [selF_drop_other _ f, selF_drop_self]
theorem isN_self (n v : ByteArray) : isN (lowS n) (n, v) = true := by unfold isN; simp
theorem isN_other {n m : ByteArray} (v : ByteArray) (h : lowS m ≠ lowS n) : isN (lowS m) (n, v) = false := by
  unfold isN; rw [toList_inj]; exact decide_eq_false (fun h' => h h'.symm)
theorem with_self {l : List Fld} {n : ByteArray} (v : ByteArray) (h : selF l n = []) : selF (l ++ [(n, v)]) n = [v] := by
  rw [selF_append, h]; unfold selF; simp [List.filter_cons, isN_self]
theorem with_other (l : List Fld) {n m : ByteArray} (v : ByteArray) (h : lowS m ≠ lowS n) : selF (l ++ [(n, v)]) m = selF l m := by
  rw [selF_append]
  have : selF [(n, v)] m = [] := by unfold selF; simp [List.filter_cons, isN_other v h]
  rw [this, List.append_nil]
/-! ### tags. -/
theorem tagsF_no {there tagged : Bool} {tag : Tg.Tag} {l : List Fld} {name : ByteArray} {same : Tg.Tag → Tg.Tag → Bool} (h : selF l name = []) : tagsF there tagged tag l name same = (false, false) := by
  unfold tagsF isR; rw [h, if_pos (by rfl)]
theorem tagsF_one {there tagged : Bool} {tag : Tg.Tag} {l : List Fld} {name : ByteArray} {same : Tg.Tag → Tg.Tag → Bool} {v : ByteArray} {p : Bool × List Tg.Tag} (h : selF l name = [v]) (hv : Tg.listF (sl v) = .ok p) :
    tagsF there tagged tag l name same = if (p.1 || !there) = true then (true, there) else (true, tagged && p.2.any (fun x => same x tag)) := by
  unfold tagsF isR txt; rw [h, if_neg (by simp), joinS_one, hv]
theorem tagsF_congr {there tagged : Bool} {tag : Tg.Tag} {l m : List Fld} {name : ByteArray} {same : Tg.Tag → Tg.Tag → Bool} (h : selF l name = selF m name) : tagsF there tagged tag l name same = tagsF there tagged tag m name same := by
  unfold tagsF isR txt; rw [h]
theorem star_list : Tg.listF (sl (⟨#[42]⟩ : ByteArray)) = .ok (true, []) := rfl
theorem tagsF_there {there tagged : Bool} {tag : Tg.Tag} {l : List Fld} {name : ByteArray} {same : Tg.Tag → Tg.Tag → Bool} (h : (tagsF there tagged tag l name same).1 = true) (h2 : (tagsF there tagged tag l name same).2 = true) : there = true := by
  unfold tagsF at h h2
  split at h
  · cases h
  · rename_i h0
    rw [if_neg h0] at h2
    cases hl : Tg.listF (sl (txt l name)) with
    | error c => rw [hl] at h; cases h
    | ok p =>
      obtain ⟨star, ts⟩ := p
      rw [hl] at h2
      dsimp only at h2
      split at h2
      · exact h2
      · rename_i h3
        cases there
        · exact absurd (by simp) h3
        · rfl
/-! ### The laws. -/
theorem endF_in (reads : Bool) (modified : Int) (t1 : Bool × Bool) (d1 : Option Nat) (t2 : Bool × Bool) (d2 : Option Nat) : endF reads modified t1 d1 t2 d2 = 0 ∨ endF reads modified t1 d1 t2 d2 = 304 ∨ endF reads modified t1 d1 t2 d2 = 412 := by
  unfold endF
  repeat' split
  all_goals simp
theorem ans_in {m : ByteArray} {l : List Fld} {there : Bool} {tag : ByteArray} {modified r : Int} (h : Ans m l there tag modified r) : r = 0 ∨ r = 304 ∨ r = 412 := by
  obtain ⟨tagged, t, d1, d2, -, -, -, rfl⟩ := h
  exact endF_in ..
theorem endF_304 {reads : Bool} {modified : Int} {t1 : Bool × Bool} {d1 : Option Nat} {t2 : Bool × Bool} {d2 : Option Nat} (h : endF reads modified t1 d1 t2 d2 = 304) : reads = true ∧ ((t2.1 = true ∧ t2.2 = true) ∨ ∃ n, d2 = some n) := by
  unfold endF at h
  by_cases h1 : t1.1 = true ∧ t1.2 = false
  · rw [if_pos h1] at h; omega
  rw [if_neg h1] at h
  by_cases h2 : t1.1 = false ∧ d1F d1 modified = true
  · rw [if_pos h2] at h; omega
  rw [if_neg h2] at h
  by_cases h3 : t2.1 = true
  · rw [if_pos h3] at h
    by_cases h4 : t2.2 = true
    · rw [if_pos h4] at h
      cases reads
      · rw [if_neg (by simp)] at h; omega
      · exact ⟨rfl, .inl ⟨h3, h4⟩⟩
    · rw [if_neg h4] at h; omega
  · rw [if_neg h3] at h
    cases d2 with
    | none => rw [if_neg (by simp [d2F])] at h; omega
    | some n =>
      cases reads
      · rw [if_neg (by simp [d2F])] at h; omega
      · exact ⟨rfl, .inr ⟨n, rfl⟩⟩
theorem ans_304 {m : ByteArray} {l : List Fld} {there : Bool} {tag : ByteArray} {modified : Int} (h : Ans m l there tag modified 304) : there = true ∧ readsF m = true := by
  obtain ⟨tagged, t, d1, d2, -, hd1, hd2, h⟩ := h
  obtain ⟨hr, h3 | ⟨n, hn⟩⟩ := endF_304 h.symm
  · exact ⟨tagsF_there h3.1 h3.2, hr⟩
  · subst hn
    rcases hd2 with ⟨n, _, _, hh⟩ | ⟨hh, _⟩
    · exact ⟨hh.2.1, hr⟩
    · cases hh
theorem ans_none {m : ByteArray} {l : List Fld} {there : Bool} {tag : ByteArray} {modified r : Int} (h : Ans m l there tag modified r) (h1 : selF l nIM = []) (h2 : selF l nINM = []) (h3 : selF l nIMS = []) (h4 : selF l nIUS = []) : r = 0 := by
  obtain ⟨tagged, t, d1, d2, -, hd1, hd2, rfl⟩ := h
  rw [since_no hd1 h4, since_no hd2 h3, tagsF_no h1, tagsF_no h2]
  rfl
/-- An If-Match alone. -/
theorem ans_im {m : ByteArray} {l : List Fld} {there : Bool} {tag : ByteArray} {modified r : Int} {v : ByteArray} {p : Bool × List Tg.Tag} (h : Ans m l there tag modified r) (h1 : selF l nIM = [v]) (hv : Tg.listF (sl v) = .ok p) (h2 : selF l nINM = []) (h3 : selF l nIMS = []) :
    ∃ tagged t, TagOf tag tagged t ∧ r = if (if (p.1 || !there) = true then there else tagged && p.2.any (fun x => strongF x t)) = true then 0 else 412 := by
  obtain ⟨tagged, t, d1, d2, ht, hd1, hd2, rfl⟩ := h
  refine ⟨tagged, t, ht, ?_⟩
  rw [since_no hd2 h3, tagsF_one h1 hv, tagsF_no h2]
  unfold endF d1F d2F
  by_cases hp : (p.1 || !there) = true
  · rw [if_pos hp, if_pos hp]
    cases there <;> simp
  · rw [if_neg hp, if_neg hp]
    cases (tagged && p.2.any (fun x => strongF x t)) <;> simp
/-- An If-None-Match alone. -/
theorem ans_inm {m : ByteArray} {l : List Fld} {there : Bool} {tag : ByteArray} {modified r : Int} {v : ByteArray} {p : Bool × List Tg.Tag} (h : Ans m l there tag modified r) (h1 : selF l nINM = [v]) (hv : Tg.listF (sl v) = .ok p) (h2 : selF l nIM = []) (h4 : selF l nIUS = []) :
    ∃ tagged t, TagOf tag tagged t ∧ r = if (if (p.1 || !there) = true then there else tagged && p.2.any (fun x => weakF x t)) = true then (if readsF m = true then 304 else 412) else 0 := by
  obtain ⟨tagged, t, d1, d2, ht, hd1, hd2, rfl⟩ := h
  refine ⟨tagged, t, ht, ?_⟩
  rw [since_no hd1 h4, tagsF_one h1 hv, tagsF_no h2]
  unfold endF d1F d2F
  by_cases hp : (p.1 || !there) = true
  · rw [if_pos hp, if_pos hp]
    cases there <;> simp
  · rw [if_neg hp, if_neg hp]
    cases (tagged && p.2.any (fun x => weakF x t)) <;> simp
theorem tag_list {t : Tg.Tag} (h : Tg.good t) : Tg.listF (Tg.text t) = .ok (false, [t]) := by
  have hl : (Tg.text t).length ≤ 104 := by
    have := h.1
    obtain ⟨wk, a⟩ := t
    cases wk <;> simp [Tg.text, sl_len] at * <;> omega
  have hx : Tg.text t ≠ [42] := by
    obtain ⟨wk, a⟩ := t
    cases wk <;> simp [Tg.text]
  obtain ⟨c, l, hc, hc44, hcb⟩ := Tg.text_head t
  have hd : (Tg.text t).dropWhile Tok.blankB = c :: l := by rw [hc]; exact Tok.dw_cons_false hcb
  unfold Tg.listF
  rw [if_neg (by omega), if_neg hx, listG_last (out := []) (r := []) (Nat.lt_succ_self _) hd hc44 h (by rw [List.append_nil, hc]) rfl]
  rfl
theorem tagOf_text {s : ByteArray} {tagged : Bool} {t u : Tg.Tag} (h : TagOf s tagged t) (hg : Tg.good u) (hs : sl s = Tg.text u) : tagged = true ∧ t = u := by
  rcases h with ⟨h1, h2, h3⟩ | ⟨h1, h2⟩
  · refine ⟨h1, ?_⟩
    have := h3.symm.trans hs
    exact (Tg.text_unique (r := []) (r' := []) h2 hg (by rw [this])).1
  · exact absurd hs (h2 u hg)
/-- Nothing but a date. -/
theorem ans_ims {m : ByteArray} {l : List Fld} {tag : ByteArray} {modified r : Int} {n : Nat} (h : Ans m l true tag modified r) (hm : 0 ≤ modified) (hn : n ≤ 253402300799) (h1 : selF l nIM = []) (h2 : selF l nINM = []) (h3 : selF l nIMS = [mkS (Dt.printD n)]) (h4 : selF l nIUS = []) :
    r = if readsF m = true ∧ modified ≤ n then 304 else 0 := by
  obtain ⟨tagged, t, d1, d2, -, hd1, hd2, rfl⟩ := h
  rw [since_no hd1 h4, since_yes hd2 hm hn h3, tagsF_no h1, tagsF_no h2]
  unfold endF d1F d2F
  simp
theorem ans_ims_neg {m : ByteArray} {l : List Fld} {tag : ByteArray} {modified r : Int} (h : Ans m l true tag modified r) (hm : modified < 0) (h1 : selF l nIM = []) (h2 : selF l nINM = []) : r = 0 := by
  obtain ⟨tagged, t, d1, d2, -, hd1, hd2, rfl⟩ := h
  rw [since_neg hd1 hm, since_neg hd2 hm, tagsF_no h1, tagsF_no h2]
  rfl
theorem ans_ius {m : ByteArray} {l : List Fld} {tag : ByteArray} {modified r : Int} {n : Nat} (h : Ans m l true tag modified r) (hm : 0 ≤ modified) (hn : n ≤ 253402300799) (h1 : selF l nIM = []) (h2 : selF l nINM = []) (h3 : selF l nIMS = []) (h4 : selF l nIUS = [mkS (Dt.printD n)]) :
    r = if (n : Int) < modified then 412 else 0 := by
  obtain ⟨tagged, t, d1, d2, -, hd1, hd2, rfl⟩ := h
  rw [since_yes hd1 hm hn h4, since_no hd2 h3, tagsF_no h1, tagsF_no h2]
  unfold endF d1F d2F
  simp
/-- Where there are tags, dates are of no matter. -/
theorem ans_first_inm {m : ByteArray} {l k : List Fld} {there : Bool} {tag : ByteArray} {modified r s : Int} {v : ByteArray} {p : Bool × List Tg.Tag} (h : Ans m l there tag modified r) (g : Ans m k there tag modified s) (hv : Tg.listF (sl v) = .ok p)
    (h1 : selF l nINM = [v]) (g1 : selF k nINM = [v]) (h2 : selF l nIM = []) (g2 : selF k nIM = []) (h4 : selF l nIUS = []) (g4 : selF k nIUS = []) : r = s := by
  obtain ⟨tagged, t, d1, d2, ht, hd1, hd2, rfl⟩ := h
  obtain ⟨tagged', t', d1', d2', ht', hd1', hd2', rfl⟩ := g
  have hteq : tagged = tagged' ∧ (tagged = true → t = t') := by
    rcases ht with ⟨rfl, a, b⟩ | ⟨rfl, a⟩
    · obtain ⟨x, y⟩ := tagOf_text ht' a b
      exact ⟨x.symm, fun _ => y.symm⟩
    · rcases ht' with ⟨rfl, c, d⟩ | ⟨rfl, c⟩
      · exact absurd d (a _ c)
      · exact ⟨rfl, fun h => by cases h⟩
  obtain ⟨rfl, ht2⟩ := hteq
  rw [since_no hd1 h4, since_no hd1' g4, tagsF_no h2, tagsF_no g2, tagsF_one h1 hv, tagsF_one g1 hv]
  have : (tagged && p.2.any (fun x => weakF x t)) = (tagged && p.2.any (fun x => weakF x t')) := by
    cases tagged
    · rfl
    · rw [ht2 rfl]
  rw [this]
  unfold endF d1F d2F
  by_cases hp : (p.1 || !there) = true
  · rw [if_pos hp]; simp
  · rw [if_neg hp]; simp
theorem ans_first_im {m : ByteArray} {l k : List Fld} {there : Bool} {tag : ByteArray} {modified r s : Int} {v : ByteArray} {p : Bool × List Tg.Tag} (h : Ans m l there tag modified r) (g : Ans m k there tag modified s) (hv : Tg.listF (sl v) = .ok p)
    (h1 : selF l nIM = [v]) (g1 : selF k nIM = [v]) (h2 : selF l nINM = []) (g2 : selF k nINM = []) (h3 : selF l nIMS = []) (g3 : selF k nIMS = []) : r = s := by
  obtain ⟨tagged, t, d1, d2, ht, hd1, hd2, rfl⟩ := h
  obtain ⟨tagged', t', d1', d2', ht', hd1', hd2', rfl⟩ := g
  have hteq : tagged = tagged' ∧ (tagged = true → t = t') := by
    rcases ht with ⟨rfl, a, b⟩ | ⟨rfl, a⟩
    · obtain ⟨x, y⟩ := tagOf_text ht' a b
      exact ⟨x.symm, fun _ => y.symm⟩
    · rcases ht' with ⟨rfl, c, d⟩ | ⟨rfl, c⟩
      · exact absurd d (a _ c)
      · exact ⟨rfl, fun h => by cases h⟩
  obtain ⟨rfl, ht2⟩ := hteq
  rw [since_no hd2 h3, since_no hd2' g3, tagsF_no h2, tagsF_no g2, tagsF_one h1 hv, tagsF_one g1 hv]
  have : (tagged && p.2.any (fun x => strongF x t)) = (tagged && p.2.any (fun x => strongF x t')) := by
    cases tagged
    · rfl
    · rw [ht2 rfl]
  rw [this]
  unfold endF d1F d2F
  by_cases hp : (p.1 || !there) = true
  · rw [if_pos hp]; simp
  · rw [if_neg hp]; simp
end Cn
end Go.Proofs.YtiijgbgknolmcaaDoor
