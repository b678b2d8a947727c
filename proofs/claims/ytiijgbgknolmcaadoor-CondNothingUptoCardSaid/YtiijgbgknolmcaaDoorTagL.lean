/- etag's List: the plain law. -/
import Derived.Test.YtiijgbgknolmcaaDoorEtagB
import Derived.Test.YtiijgbgknolmcaaDoorCutC
import Derived.Test.YtiijgbgknolmcaaDoorTokJ
namespace Go.Proofs.YtiijgbgknolmcaaDoor
set_option maxRecDepth 20000
open Go.RowKit
namespace Tg
def behindW (wk : Bool) : List UInt8 → Option (Tag × List UInt8)
  | 34 :: r => match cutC 34 r with
    | some (a, b) => if good (wk, mkS a) then some ((wk, mkS a), b) else none
    | none => none
  | _ => none
/-- The first tag of a text, and what is behind it. -/
def firstF : List UInt8 → Option (Tag × List UInt8)
  | 87 :: 47 :: l => behindW true l
  | l => behindW false l
theorem behindW_some {wk : Bool} {l : List UInt8} {t : Tag} {r : List UInt8} : behindW wk l = some (t, r) ↔ t.1 = wk ∧ good t ∧ l = 34 :: (sl t.2 ++ 34 :: r) := by
  constructor
  · intro h
    unfold behindW at h
    split at h
    · rename_i q
      cases hc : cutC 34 q with
      | none => rw [hc] at h; cases h
      | some p =>
        obtain ⟨a, b⟩ := p
        rw [hc] at h
        dsimp only at h
        split at h
        · rename_i hg
          injection h with h; injection h with h1 h2; subst h1; subst h2
          refine ⟨rfl, hg, ?_⟩
          rw [(cutC_text hc).1, sl_mkS]
        · cases h
    · cases h
  · rintro ⟨h1, hg, rfl⟩
    have hc : cutC 34 (sl t.2 ++ 34 :: r) = some (sl t.2, r) := cutC_some rfl (good_no hg)
    show (match cutC 34 (sl t.2 ++ 34 :: r) with | some (a, b) => if good (wk, mkS a) then some ((wk, mkS a), b) else none | none => none) = some (t, r)
    rw [hc]
    obtain ⟨a, b⟩ := t
    dsimp only at h1 ⊢
    subst h1
    rw [mkS_sl, if_pos hg]
theorem firstF_some {l : List UInt8} {t : Tag} {r : List UInt8} : firstF l = some (t, r) ↔ good t ∧ l = text t ++ r := by
  by_cases hl : ∃ m, l = 87 :: 47 :: m
  · obtain ⟨m, rfl⟩ := hl
    show behindW true m = _ ↔ _
    rw [behindW_some]
    constructor
    · rintro ⟨h1, hg, rfl⟩
      exact ⟨hg, by simp [text, h1]⟩
    · rintro ⟨hg, h⟩
      have ht : t.1 = true := by
        cases h1 : t.1
        · simp [text, h1] at h
        · rfl
      refine ⟨ht, hg, ?_⟩
      simp [text, ht] at h
      rw [h]
  · have e : firstF l = behindW false l := by
      unfold firstF
      split
      · rename_i m; exact absurd ⟨m, rfl⟩ hl
      · rfl
    rw [e, behindW_some]
    constructor
    · rintro ⟨h1, hg, rfl⟩
      exact ⟨hg, by simp [text, h1]⟩
    · rintro ⟨hg, h⟩
      have ht : t.1 = false := by
        cases h1 : t.1
        · rfl
        · exact absurd ⟨34 :: (sl t.2 ++ 34 :: r), by rw [h]; simp [text, h1]⟩ hl
      refine ⟨ht, hg, ?_⟩
      rw [h]; simp [text, ht]
def fin (out : List Tag) : Except Int (List Tag) := if out = [] then .error 3 else if 20 < out.length then .error 2 else .ok out
/-- What the loop comes to, from what it has and what is left. -/
def listG : Nat → List Tag → List UInt8 → Except Int (List Tag)
  | 0, out, _ => fin out
  | n + 1, out, s =>
    match s.dropWhile Tok.blankB with
    | [] => fin out
    | c :: l => if c = 44 then listG n out l else
      match firstF (c :: l) with
      | none => .error 3
      | some (t, r) => match r.dropWhile Tok.blankB with
        | [] => fin (out ++ [t])
        | d :: q => if d = 44 then listG n (out ++ [t]) q else .error 3
def listF (s : List UInt8) : Except Int (Bool × List Tag) :=
  if 1000 < s.length then .error 2 else if s = [42] then .ok (true, []) else match listG (s.length + 1) [] s with | .error c => .error c | .ok l => .ok (false, l)
theorem text_head (t : Tag) : ∃ c l, text t = c :: l ∧ c ≠ 44 ∧ Tok.blankB c = false := by
  obtain ⟨wk, a⟩ := t
  cases wk
  · exact ⟨34, sl a ++ [34], by simp [text], by decide, by decide⟩
  · exact ⟨87, 47 :: 34 :: (sl a ++ [34]), by simp [text], by decide, by decide⟩
theorem fin_code {out : List Tag} {c : Int} (h : fin out = .error c) : 2 ≤ c ∧ c ≤ 3 := by
  unfold fin at h
  split at h
  · injection h with h; omega
  · split at h
    · injection h with h; omega
    · cases h
/-- A gap: blanks and commas, a comma among them. -/
theorem dropBlank (b : List UInt8) (l : List UInt8) (hb : b.all Tok.blankB = true) : (b ++ l).dropWhile Tok.blankB = l.dropWhile Tok.blankB := Tok.dw_all b l hb
theorem gap_all : ∀ (n : Nat) (g : List UInt8) (out : List Tag) (l : List UInt8), g.all Tok.gapB = true → (g ++ l).length < n → ∃ m, l.length < m ∧ listG n out (g ++ l) = listG m out l
  | n, [], out, l, _, hn => ⟨n, by simpa using hn, rfl⟩
  | 0, c :: g, out, l, _, hn => by simp at hn
  | n + 1, c :: g, out, l, hg, hn => by
    simp only [List.all_cons, Bool.and_eq_true, List.cons_append, List.length_cons] at hg hn
    by_cases hc : c = 44
    · subst hc
      obtain ⟨m, hm, h⟩ := gap_all n g out l hg.2 (by omega)
      refine ⟨m, hm, ?_⟩
      rw [← h]
      show listG (n + 1) out (44 :: (g ++ l)) = _
      have e : (44 :: (g ++ l)).dropWhile Tok.blankB = 44 :: (g ++ l) := Tok.dw_cons_false (by decide)
      conv => lhs; unfold listG
      rw [e]
      dsimp only
      rw [if_pos rfl]
    · have hb : Tok.blankB c = true := by
        have := hg.1
        unfold Tok.gapB at this
        simp only [Bool.or_eq_true, beq_iff_eq] at this
        rcases this with h | h
        · exact h
        · exact absurd h hc
      obtain ⟨m, hm, h⟩ := gap_all (n + 1) g out l hg.2 (by omega)
      refine ⟨m, hm, ?_⟩
      rw [← h]
      show listG (n + 1) out (c :: (g ++ l)) = _
      have e : (c :: (g ++ l)).dropWhile Tok.blankB = (g ++ l).dropWhile Tok.blankB := Tok.dw_cons_true hb
      conv => lhs; unfold listG
      conv => rhs; unfold listG
      rw [e]
end Tg
end Go.Proofs.YtiijgbgknolmcaaDoor
