/- The plain law of merging slices: what is merged is what is covered, and nothing else. -/
import Derived.Test.YthhhlaoiampinaaBase
namespace Go.Proofs.Ythhhlaoiampinaa
open Go.RowKit
namespace Mrg
abbrev Iv := Int × Int
def goodB (d : Iv) : Bool := !decide (d.2 ≤ d.1)
def hitB (d : Iv) (k : Int) : Bool := decide (d.1 ≤ k) && decide (k < d.2)
def inL (l : List Iv) (k : Int) : Bool := l.any (fun d => hitB d k)
def addM (out : List Iv) (s : Iv) : List Iv :=
  match out.getLast? with
  | none => [s]
  | some x => if s.1 ≤ x.2 then out.dropLast ++ [(x.1, max x.2 s.2)] else out ++ [s]
def mrgL (l : List Iv) : List Iv := l.foldl addM []
def Sep (l : List Iv) : Prop := (∀ d ∈ l, d.1 < d.2) ∧ l.Pairwise (fun d e => d.2 < e.1)
def MergedOf (l m : List Iv) : Prop := Sep m ∧ (∀ k, inL m k = inL l k) ∧ m.length ≤ l.length
theorem addM_nil (s : Iv) : addM [] s = [s] := rfl
theorem addM_in {i : List Iv} {x s : Iv} (h : s.1 ≤ x.2) : addM (i ++ [x]) s = i ++ [(x.1, max x.2 s.2)] := by
  unfold addM; rw [List.getLast?_concat]; dsimp only; rw [if_pos h, List.dropLast_concat]
theorem addM_out {i : List Iv} {x s : Iv} (h : ¬ s.1 ≤ x.2) : addM (i ++ [x]) s = i ++ [x] ++ [s] := by
  unfold addM; rw [List.getLast?_concat]; dsimp only; rw [if_neg h]
theorem hit_iff {d : Iv} {k : Int} : hitB d k = true ↔ d.1 ≤ k ∧ k < d.2 := by simp [hitB]
theorem inL_app (a b : List Iv) (k : Int) : inL (a ++ b) k = (inL a k || inL b k) := by unfold inL; exact List.any_append
theorem inL_one (d : Iv) (k : Int) : inL [d] k = hitB d k := by simp [inL]
theorem inL_cons (d : Iv) (l : List Iv) (k : Int) : inL (d :: l) k = (hitB d k || inL l k) := by simp [inL]
theorem inL_good (l : List Iv) (k : Int) : inL (l.filter goodB) k = inL l k := by
  induction l with
  | nil => rfl
  | cons d l ih =>
    rw [List.filter_cons]
    split
    · rw [inL_cons, inL_cons, ih]
    · rename_i h
      have : hitB d k = false := by
        cases hh : hitB d k with
        | false => rfl
        | true =>
          have h1 := hit_iff.1 hh
          exact absurd (by simp [goodB]; omega) h
      rw [inL_cons, ih, this, Bool.false_or]
theorem step {out : List Iv} {s : Iv} (h : Sep out) (hs : s.1 < s.2) (hl : ∀ x, out.getLast? = some x → x.1 ≤ s.1) :
    Sep (addM out s) ∧ (∀ k, inL (addM out s) k = (inL out k || hitB s k)) ∧ (addM out s).length ≤ out.length + 1 ∧ (∀ y, (addM out s).getLast? = some y → y.1 ≤ s.1) := by
  rcases List.eq_nil_or_concat out with rfl | ⟨i, x, rfl⟩
  · rw [addM_nil]
    refine ⟨⟨by simpa using hs, by simp⟩, fun k => by rw [inL_one]; simp [inL], by simp, fun y hy => ?_⟩
    simp at hy; subst hy; exact Int.le_refl _
  · rw [List.concat_eq_append] at h hl ⊢
    have hx := hl x (List.getLast?_concat ..)
    obtain ⟨h1, h2⟩ := h
    have hxx := h1 x (by simp)
    rw [List.pairwise_append] at h2
    obtain ⟨h3, -, h5⟩ := h2
    by_cases hq : s.1 ≤ x.2
    · rw [addM_in hq]
      refine ⟨⟨fun d hd => ?_, ?_⟩, fun k => ?_, by simp, fun y hy => ?_⟩
      · rw [List.mem_append, List.mem_singleton] at hd
        rcases hd with hd | rfl
        · exact h1 d (by simp [hd])
        · show x.1 < max x.2 s.2; omega
      · rw [List.pairwise_append]
        refine ⟨h3, by simp, fun a ha b hb => ?_⟩
        rw [List.mem_singleton] at hb
        subst hb
        exact h5 a ha x (by simp)
      · rw [inL_app, inL_app, inL_one, inL_one, Bool.or_assoc]
        congr 1
        rw [Bool.eq_iff_iff, Bool.or_eq_true, hit_iff, hit_iff, hit_iff]
        dsimp only
        omega
      · rw [List.getLast?_concat] at hy
        injection hy with hy
        subst hy
        exact hx
    · rw [addM_out hq]
      refine ⟨⟨fun d hd => ?_, ?_⟩, fun k => by rw [inL_app, inL_one], by simp, fun y hy => ?_⟩
      · rw [List.mem_append, List.mem_singleton] at hd
        rcases hd with hd | rfl
        · exact h1 d hd
        · exact hs
      · rw [List.pairwise_append]
        refine ⟨List.pairwise_append.2 ⟨h3, by simp, h5⟩, by simp, fun a ha b hb => ?_⟩
        rw [List.mem_singleton] at hb
        subst hb
        rw [List.mem_append, List.mem_singleton] at ha
        rcases ha with ha | rfl
        · have := h5 a ha x (by simp); omega
        · omega
      · rw [List.getLast?_concat] at hy
        injection hy with hy
        subst hy
        exact Int.le_refl _
theorem fold : ∀ (l out : List Iv), (∀ d ∈ l, d.1 < d.2) → l.Pairwise (fun d e => d.1 ≤ e.1) → Sep out → (∀ x, out.getLast? = some x → ∀ d ∈ l, x.1 ≤ d.1) →
    Sep (l.foldl addM out) ∧ (∀ k, inL (l.foldl addM out) k = (inL out k || inL l k)) ∧ (l.foldl addM out).length ≤ out.length + l.length
  | [], out, _, _, h, _ => ⟨h, fun k => by simp [inL], by simp⟩
  | s :: l, out, h1, h2, h3, h4 => by
    obtain ⟨a, b, c, d⟩ := step h3 (h1 s (by simp)) (fun x hx => h4 x hx s (by simp))
    rw [List.pairwise_cons] at h2
    obtain ⟨e, f, g⟩ := fold l (addM out s) (fun d hd => h1 d (by simp [hd])) h2.2 a (fun x hx y hy => Int.le_trans (d x hx) (h2.1 y hy))
    rw [List.foldl_cons]
    refine ⟨e, fun k => by rw [f, b, inL_cons, Bool.or_assoc], ?_⟩
    rw [List.length_cons]; omega
/-- What the walk leads to: whatever order the sort has given them. -/
theorem merged {l d : List Iv} (hp : d.Perm (l.filter goodB)) (hs : d.Pairwise (fun a b => a.1 ≤ b.1)) : MergedOf l (mrgL d) := by
  have hg : ∀ x ∈ d, x.1 < x.2 := fun x hx => by
    have := (List.mem_filter.1 (hp.mem_iff.1 hx)).2
    simp [goodB] at this; omega
  obtain ⟨a, b, c⟩ := fold d [] hg hs ⟨by simp, by simp⟩ (by simp)
  refine ⟨a, fun k => ?_, ?_⟩
  · show inL (d.foldl addM []) k = _
    rw [b, ← inL_good l k]
    have : inL d k = inL (l.filter goodB) k := by
      rw [Bool.eq_iff_iff]; unfold inL; rw [List.any_eq_true, List.any_eq_true]
      exact ⟨fun ⟨x, hx, h⟩ => ⟨x, hp.mem_iff.1 hx, h⟩, fun ⟨x, hx, h⟩ => ⟨x, hp.mem_iff.2 hx, h⟩⟩
    rw [this]; simp [inL]
  · have h1 := hp.length_eq
    have h2 := List.length_filter_le goodB l
    simp only [List.length_nil, Nat.zero_add] at c
    show (d.foldl addM []).length ≤ _
    omega
theorem in_low {l : List Iv} {b k : Int} (h : ∀ e ∈ l, b < e.1) (hk : k ≤ b) : inL l k = false := by
  cases hh : inL l k with
  | false => rfl
  | true =>
    unfold inL at hh
    rw [List.any_eq_true] at hh
    obtain ⟨x, hx, h1⟩ := hh
    have := hit_iff.1 h1
    have := h x hx
    omega
theorem sep_cons {d : Iv} {l : List Iv} (h : Sep (d :: l)) : d.1 < d.2 ∧ (∀ e ∈ l, d.2 < e.1) ∧ Sep l := by
  obtain ⟨h1, h2⟩ := h
  rw [List.pairwise_cons] at h2
  exact ⟨h1 d (by simp), h2.1, fun e he => h1 e (by simp [he]), h2.2⟩
theorem sep_unique : ∀ (l m : List Iv), Sep l → Sep m → (∀ k, inL l k = inL m k) → l = m
  | [], [], _, _, _ => rfl
  | [], e :: t, _, hm, h => by
    have := h e.1
    obtain ⟨h1, _, _⟩ := sep_cons hm
    rw [inL_cons, hit_iff.2 ⟨Int.le_refl _, h1⟩] at this
    cases this
  | d :: r, [], hl, _, h => by
    have := h d.1
    obtain ⟨h1, _, _⟩ := sep_cons hl
    rw [inL_cons, hit_iff.2 ⟨Int.le_refl _, h1⟩] at this
    cases this
  | d :: r, e :: t, hl, hm, h => by
    obtain ⟨a1, a2, a3⟩ := sep_cons hl
    obtain ⟨b1, b2, b3⟩ := sep_cons hm
    have low : ∀ {d : Iv} {r : List Iv}, d.1 < d.2 → (∀ e ∈ r, d.2 < e.1) → ∀ {k : Int}, inL (d :: r) k = true → d.1 ≤ k := by
      intro d r q1 q2 k hk
      rw [inL_cons, Bool.or_eq_true] at hk
      rcases hk with hk | hk
      · exact (hit_iff.1 hk).1
      · by_cases hh : k ≤ d.2
        · rw [in_low q2 hh] at hk; cases hk
        · omega
    have e1 : d.1 = e.1 := by
      have p1 := low a1 a2 (k := e.1) (by rw [h, inL_cons, hit_iff.2 ⟨Int.le_refl _, b1⟩, Bool.true_or])
      have p2 := low b1 b2 (k := d.1) (by rw [← h, inL_cons, hit_iff.2 ⟨Int.le_refl _, a1⟩, Bool.true_or])
      omega
    have up : ∀ {d : Iv} {r : List Iv}, (∀ e ∈ r, d.2 < e.1) → inL (d :: r) d.2 = false := by
      intro d r q2
      rw [inL_cons, in_low q2 (Int.le_refl _), Bool.or_false]
      cases hh : hitB d d.2 with
      | false => rfl
      | true => have := (hit_iff.1 hh).2; omega
    have e2 : d.2 = e.2 := by
      rcases Int.lt_trichotomy d.2 e.2 with hq | hq | hq
      · have p := h d.2
        rw [up a2, inL_cons, hit_iff.2 ⟨by omega, hq⟩] at p
        cases p
      · exact hq
      · have p := h e.2
        rw [up b2, inL_cons, hit_iff.2 ⟨by omega, hq⟩] at p
        cases p
    obtain rfl : d = e := Prod.ext e1 e2
    rw [sep_unique r t a3 b3 (fun k => by
      by_cases hk : k ≤ d.2
      · rw [in_low a2 hk, in_low b2 hk]
      · have p := h k
        have hh : hitB d k = false := by
          cases hh : hitB d k with
          | false => rfl
          | true => have := (hit_iff.1 hh).2; omega
        rw [inL_cons, inL_cons, hh, Bool.false_or, Bool.false_or] at p
        exact p)]
theorem merged_eq {l k a b : List Iv} (ha : MergedOf l a) (hb : MergedOf k b) (h : ∀ i, inL l i = inL k i) : a = b :=
  sep_unique a b ha.1 hb.1 (fun i => by rw [ha.2.1, hb.2.1, h])
theorem merged_swap {l k a b : List Iv} (ha : MergedOf (l ++ k) a) (hb : MergedOf (k ++ l) b) : a = b :=
  merged_eq ha hb (fun i => by rw [inL_app, inL_app, Bool.or_comm])
theorem merged_parts {l k a b c x : List Iv} (ha : MergedOf (l ++ k) a) (hb : MergedOf l b) (hc : MergedOf k c) (hx : MergedOf (b ++ c) x) : a = x :=
  merged_eq ha hx (fun i => by rw [inL_app, inL_app, hb.2.1, hc.2.1])
theorem merged_again {l a x : List Iv} (ha : MergedOf l a) (hx : MergedOf a x) : x = a :=
  sep_unique x a hx.1 ha.1 hx.2.1
theorem merged_known {a : List Iv} (ha : MergedOf [(3, 5), (1, 3)] a) : a = [(1, 5)] :=
  sep_unique a [(1, 5)] ha.1 ⟨by simp, by simp⟩ (fun k => by
    rw [ha.2.1, inL_cons, inL_one, inL_one, Bool.eq_iff_iff, Bool.or_eq_true, hit_iff, hit_iff, hit_iff]
    dsimp only
    omega)
end Mrg
end Go.Proofs.Ythhhlaoiampinaa
