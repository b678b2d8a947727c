/- Plain law: tokens joined by gaps of blanks and commas are the parts. -/
import Derived.Test.YthhhlaoiampinaaDoorTokD1
import Derived.Test.YthhhlaoiampinaaDoorIsTok
import Derived.Test.YthhhlaoiampinaaDoorJoin
namespace Go.Proofs.YthhhlaoiampinaaDoor
open Go.RowKit
namespace Tok
/-- The parts between commas, where there are no quotes. -/
def seg : List UInt8 → List UInt8 → List (List UInt8)
  | cur, [] => [cur]
  | cur, c :: r => if c == 44 then cur :: seg [] r else seg (cur ++ [c]) r
theorem cutL_seg : ∀ (l cur : List UInt8), (34 : UInt8) ∉ l → cutL 44 false cur l = some (seg cur l)
  | [], cur, _ => rfl
  | c :: r, cur, h => by
    have hc : (c == 34) = false := by
      rw [beq_eq_false_iff_ne]; intro e; apply h; simp [e]
    have hr : (34 : UInt8) ∉ r := fun e => h (by simp [e])
    by_cases hs : (c == 44) = true
    · rw [cutL_sign 44 c cur r hc hs, cutL_seg r [] hr, seg, if_pos hs]; rfl
    · have hs' : (c == 44) = false := by simpa using hs
      rw [cutL_n 44 c cur r hc hs', cutL_seg r _ hr, seg, if_neg hs]
def parts (cur l : List UInt8) : List (List UInt8) := ((seg cur l).map trimL).filter (fun p => !p.isEmpty)
def gapB (c : UInt8) : Bool := blankB c || c == 44
theorem trimL_blank (b x : List UInt8) (h : b.all blankB = true) : trimL (b ++ x) = trimL x := by
  unfold trimL; rw [dw_all b x h]
theorem seg_blank : ∀ (l b cur : List UInt8), b.all blankB = true → (seg (b ++ cur) l).map trimL = (seg cur l).map trimL
  | [], b, cur, h => by simp [seg, trimL_blank b cur h]
  | c :: r, b, cur, h => by
    simp only [seg]
    split
    · simp [trimL_blank b cur h]
    · rw [List.append_assoc]; exact seg_blank r b (cur ++ [c]) h
theorem trimL_nil : trimL [] = [] := rfl
theorem parts_gap : ∀ (g l : List UInt8), g.all gapB = true → parts [] (g ++ l) = parts [] l
  | [], l, _ => rfl
  | c :: g, l, h => by
    simp only [List.all_cons, Bool.and_eq_true] at h
    have ih := parts_gap g l h.2
    by_cases hc : (c == 44) = true
    · unfold parts at ih ⊢
      rw [List.cons_append, seg, if_pos hc]
      simpa [trimL_nil] using ih
    · have hb : blankB c = true := by
        have := h.1; unfold gapB at this; rw [Bool.or_eq_true] at this
        exact this.resolve_right hc
      unfold parts at ih ⊢
      rw [List.cons_append, seg, if_neg hc, List.nil_append]
      have := seg_blank (g ++ l) [c] [] (by simp [hb])
      rw [List.append_nil] at this
      rw [this]; exact ih
theorem seg_plain : ∀ (u cur v : List UInt8), (44 : UInt8) ∉ u → seg cur (u ++ v) = seg (cur ++ u) v
  | [], cur, v, _ => by simp
  | c :: u, cur, v, h => by
    have hc : ¬ (c == 44) = true := by rw [beq_iff_eq]; intro e; apply h; simp [e]
    rw [List.cons_append, seg, if_neg hc, seg_plain u _ v (fun e => h (by simp [e])), List.append_assoc]; rfl
/-- A gap: blanks, a comma, blanks and commas. -/
structure Gap (g : List UInt8) : Prop where
  all : g.all gapB = true
  comma : ∃ b g', g = b ++ 44 :: g' ∧ b.all blankB = true
def tokOk (t : List UInt8) : Prop := t.all tokB = true ∧ t ≠ []
theorem tok_blank {c : UInt8} (h : tokB c = true) : blankB c = false ∧ c ≠ 44 ∧ c ≠ 34 := by
  have h44 : tokB 44 = false := by decide
  have h34 : tokB 34 = false := by decide
  have h32 : tokB 32 = false := by decide
  have h9 : tokB 9 = false := by decide
  refine ⟨?_, ?_, ?_⟩
  · cases hb : blankB c
    · rfl
    · have : c = 32 ∨ c = 9 := by simpa [blankB] using hb
      rcases this with rfl | rfl
      · rw [h32] at h; cases h
      · rw [h9] at h; cases h
  · rintro rfl; rw [h44] at h; cases h
  · rintro rfl; rw [h34] at h; cases h
theorem trimL_tok {t b : List UInt8} (ht : tokOk t) (hb : b.all blankB = true) : trimL (t ++ b) = t := by
  obtain ⟨h1, h2⟩ := ht
  have hx : ∀ c ∈ t, blankB c = false := fun c hc => (tok_blank (List.all_eq_true.1 h1 c hc)).1
  unfold trimL
  have e1 : (t ++ b).dropWhile blankB = t ++ b := by
    cases t with
    | nil => exact absurd rfl h2
    | cons x t => rw [List.cons_append]; exact dw_cons_false (hx x (by simp))
  rw [e1, List.reverse_append, dw_all b.reverse _ (all_reverse b hb)]
  have e2 : t.reverse.dropWhile blankB = t.reverse := by
    cases hr : t.reverse with
    | nil => rfl
    | cons x r => exact dw_cons_false (hx x (by rw [← List.mem_reverse, hr]; simp))
  rw [e2, List.reverse_reverse]
theorem parts_tok {t g l : List UInt8} (ht : tokOk t) (hg : Gap g) : parts [] (t ++ (g ++ l)) = t :: parts [] l := by
  obtain ⟨b, g', he, hb⟩ := hg.comma
  have hg' : g'.all gapB = true := by
    have := hg.all
    rw [he, List.all_append, List.all_cons] at this
    simp only [Bool.and_eq_true] at this
    exact this.2.2
  have h44 : (44 : UInt8) ∉ t ++ b := by
    intro hm
    rcases List.mem_append.1 hm with h | h
    · exact (tok_blank (List.all_eq_true.1 ht.1 44 h)).2.1 rfl
    · have := List.all_eq_true.1 hb 44 h
      revert this; decide
  have : parts [] (t ++ (g ++ l)) = t :: parts [] (g' ++ l) := by
    unfold parts
    rw [he, show t ++ (b ++ 44 :: g' ++ l) = (t ++ b) ++ 44 :: (g' ++ l) from by simp, seg_plain (t ++ b) [] _ h44, List.nil_append, seg, if_pos (by rfl)]
    simp only [List.map_cons, trimL_tok ht hb]
    rw [List.filter_cons, if_pos]
    cases t with
    | nil => exact absurd rfl ht.2
    | cons x t => rfl
  rw [this, parts_gap g' l hg']
/-- Tokens with a gap ahead, between and behind. -/
theorem parts_joined {g : List UInt8} (hg : Gap g) : ∀ (ts : List (List UInt8)), (∀ t ∈ ts, tokOk t) → parts [] ((ts.map (· ++ g)).flatten) = ts
  | [], _ => by simp [parts, seg, trimL_nil]
  | t :: ts, h => by
    rw [List.map_cons, List.flatten_cons, List.append_assoc, parts_tok (h t (by simp)) hg, parts_joined hg ts (fun x hx => h x (by simp [hx]))]
theorem joined {g : List UInt8} : ∀ (ts : List (List UInt8)), ts ≠ [] → Lib.join ts g ++ g = (ts.map (· ++ g)).flatten
  | [], h => absurd rfl h
  | [t], _ => by rw [Lib.join_one]; simp
  | t :: u :: ts, _ => by
    have ih := joined (g := g) (u :: ts) (by simp)
    rw [List.map_cons, List.flatten_cons, ← ih, Lib.join_cons, Lib.join_cons]
    simp [Lib.joinTail]
theorem split_joined {g : List UInt8} (hg : Gap g) (hg5 : g.length ≤ 5) (ts : List (List UInt8)) (h : ∀ t ∈ ts, tokOk t ∧ t.length ≤ 30) (hn : ts.length ≤ 15) : splitL (g ++ (Lib.join ts g ++ g)) = .ok ts := by
  have h34g : (34 : UInt8) ∉ g := by
    intro hm; have := List.all_eq_true.1 hg.all 34 hm; revert this; decide
  have hjl : (Lib.join ts g).length ≤ 35 * 15 := by
    refine Nat.le_trans (join_len ts g) ?_
    have : ∀ l : List (List UInt8), (∀ t ∈ l, t.length ≤ 30) → (l.map (fun x => x.length + g.length)).sum ≤ 35 * l.length := by
      intro l
      induction l with
      | nil => simp
      | cons x l ih => intro hl; have := ih (fun t ht => hl t (by simp [ht])); have := hl x (by simp); simp only [List.map_cons, List.sum_cons, List.length_cons]; omega
    have := this ts (fun t ht => (h t ht).2)
    omega
  have h34 : (34 : UInt8) ∉ g ++ (Lib.join ts g ++ g) := by
    intro hm
    rcases List.mem_append.1 hm with hm | hm
    · exact h34g hm
    · by_cases hts : ts = []
      · rw [hts, Lib.join_nil, List.nil_append] at hm; exact h34g hm
      · rw [joined ts hts, List.mem_flatten] at hm
        obtain ⟨y, hy, hm⟩ := hm
        obtain ⟨t, ht, rfl⟩ := List.mem_map.1 hy
        rcases List.mem_append.1 hm with hm | hm
        · exact (tok_blank (List.all_eq_true.1 (h t ht).1.1 34 hm)).2.2 rfl
        · exact h34g hm
  have hp : parts [] (g ++ (Lib.join ts g ++ g)) = ts := by
    rw [parts_gap g _ hg.all]
    by_cases hts : ts = []
    · subst hts
      rw [Lib.join_nil, List.nil_append, ← List.append_nil g, parts_gap g [] hg.all]; rfl
    · rw [joined ts hts]; exact parts_joined hg ts (fun t ht => (h t ht).1)
  have hz : ¬ 1000 < (g ++ (Lib.join ts g ++ g)).length := by rw [List.length_append, List.length_append]; omega
  unfold splitL
  rw [if_neg hz, cutL_seg _ [] h34]
  simp only
  rw [show ((seg [] (g ++ (Lib.join ts g ++ g))).map trimL).filter (fun p => !p.isEmpty) = ts from hp, if_neg (by omega)]
end Tok
end Go.Proofs.YthhhlaoiampinaaDoor
