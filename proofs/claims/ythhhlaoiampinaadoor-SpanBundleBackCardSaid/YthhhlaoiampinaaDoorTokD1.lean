/- What Split computes. -/
import Derived.Test.YthhhlaoiampinaaDoorTokC
import Derived.Test.YthhhlaoiampinaaDoorTokL1
namespace Go.Proofs.YthhhlaoiampinaaDoor
set_option maxRecDepth 20000
open Go.RowKit
namespace Tok
/-- Is a text not empty? In the walk's own form. -/
def ne (s : ByteArray) : Bool := !s.toList.isEmpty
theorem ne_mkS (l : List UInt8) : ne (mkS l) = !l.isEmpty := by unfold ne; rw [ba_toList, sl_mkS]
def splitL (l : List UInt8) : Except Int (List (List UInt8)) :=
  if 1000 < l.length then .error 2
  else match cutL 44 false [] l with
    | none => .error 3
    | some ps => if 20 < ((ps.map trimL).filter (fun p => !p.isEmpty)).length then .error 2 else .ok ((ps.map trimL).filter (fun p => !p.isEmpty))
theorem filter_parts (ps : List (List UInt8)) : (ps.map partS).filter ne = ((ps.map trimL).filter (fun p => !p.isEmpty)).map mkS := by
  induction ps with
  | nil => rfl
  | cons p ps ih =>
    simp only [List.map_cons, List.filter_cons]
    have e : ne (partS p) = !(trimL p).isEmpty := ne_mkS _
    rw [e]
    cases (trimL p).isEmpty
    · simp [ih, partS]
    · simp [ih]
end Tok

def SplitAns (T : TypeId) (base : Nat) (l : List UInt8) (e : Ending) (w' : World) : Prop :=
  match Tok.splitL l with
  | .error c => e = .returned (.tuple #[.slice none 0 0, .int .i64 c])
  | .ok out => ∃ v, e = .returned (.tuple #[v, .int .i64 0]) ∧ Owns w' base T 1 es v (out.map mkS)

theorem Owns.base_le {α : Type} {w : World} {base base' : Nat} {e : TypeId} {size : Nat} {enc : α → List Value} {v : Value} {xs : List α} (h : Owns w base e size enc v xs) (hb : base' ≤ base) : Owns w base' e size enc v xs := h.mono hb

/-! ### TokenCommas -/
namespace Tok
theorem dw_all {p : UInt8 → Bool} : ∀ (a l : List UInt8), a.all p = true → (a ++ l).dropWhile p = l.dropWhile p
  | [], l, _ => rfl
  | c :: a, l, h => by
    simp only [List.all_cons, Bool.and_eq_true] at h
    rw [List.cons_append, dw_cons_true h.1]
    exact dw_all a l h.2
theorem all_reverse {p : UInt8 → Bool} (a : List UInt8) (h : a.all p = true) : a.reverse.all p = true := by
  rw [List.all_eq_true] at h ⊢
  intro x hx
  exact h x (List.mem_reverse.1 hx)
/-- What stands between blanks, and begins and ends with none. -/
theorem trimL_of (a b : List UInt8) (x y : UInt8) (m : List UInt8) (ha : a.all blankB = true) (hb : b.all blankB = true) (hx : blankB x = false) (hy : blankB y = false)
    (h0 : m.head? = some x) (h1 : m.getLast? = some y) : trimL (a ++ m ++ b) = m := by
  cases m with
  | nil => cases h0
  | cons c m =>
    simp only [List.head?_cons, Option.some.injEq] at h0
    subst h0
    unfold trimL
    rw [List.append_assoc, dw_all a _ ha, List.cons_append, dw_cons_false hx, ← List.cons_append, List.reverse_append, dw_all _ _ (all_reverse b hb)]
    obtain ⟨l, hl⟩ : ∃ l, (c :: m).reverse = y :: l := by
      have : (c :: m).reverse.head? = some y := by rw [List.head?_reverse]; exact h1
      cases hr : (c :: m).reverse with
      | nil => rw [hr] at this; cases this
      | cons z l => rw [hr] at this; simp at this; exact ⟨l, by rw [this]⟩
    rw [hl, dw_cons_false hy, ← hl, List.reverse_reverse]
theorem cutL_escs (sign : UInt8) : ∀ (l cur r : List UInt8), cutL sign true cur (escs l ++ r) = cutL sign true (cur ++ escs l) r
  | [], cur, r => by simp [escs]
  | c :: l, cur, r => by
    rw [escs_cons]
    by_cases hc : (c == 34 || c == 92) = true
    · have e : esc c = [92, c] := if_pos hc
      rw [e, List.append_assoc]
      show cutL sign true cur (92 :: c :: (escs l ++ r)) = _
      rw [cutL_esc _ _ _ _ _ rfl rfl, cutL_escs sign l]; simp
    · have e : esc c = [c] := if_neg hc
      simp only [Bool.or_eq_true, not_or, Bool.not_eq_true] at hc
      rw [e, List.append_assoc]
      show cutL sign true cur (c :: (escs l ++ r)) = _
      rw [cutL_q _ _ _ _ hc.1 hc.2, cutL_escs sign l]; simp
theorem cutL_quoted (sign : UInt8) (l cur r : List UInt8) : cutL sign false cur (quoteL l ++ r) = cutL sign false (cur ++ quoteL l) r := by
  unfold quoteL
  show cutL sign false cur (34 :: (escs l ++ [34] ++ r)) = _
  rw [cutL_quote _ _ _ _ _ rfl, List.append_assoc, Bool.not_false, cutL_escs]
  show cutL sign true _ (34 :: r) = _
  rw [cutL_quote _ _ _ _ _ rfl]; simp
theorem trimL_quoted (a b l : List UInt8) (ha : a.all blankB = true) (hb : b.all blankB = true) : trimL (a ++ quoteL l ++ b) = quoteL l :=
  trimL_of a b 34 34 (quoteL l) ha hb rfl rfl rfl (by unfold quoteL; rw [← List.cons_append, List.getLast?_concat])
theorem split_two (a b : List UInt8) (h : (quoteL a).length + (quoteL b).length ≤ 990) : splitL (quoteL a ++ [32, 44, 32] ++ quoteL b) = .ok [quoteL a, quoteL b] := by
  have hc : cutL 44 false [] (quoteL a ++ [32, 44, 32] ++ quoteL b) = some [quoteL a ++ [32], [32] ++ quoteL b] := by
    rw [List.append_assoc, cutL_quoted]
    show cutL 44 false _ (32 :: 44 :: 32 :: quoteL b) = _
    rw [cutL_n _ _ _ _ rfl rfl, cutL_sign _ _ _ _ rfl rfl, cutL_n _ _ _ _ rfl rfl, ← List.append_nil (quoteL b), cutL_quoted]
    simp [cutL]
  have t1 : trimL (quoteL a ++ [32]) = quoteL a := by have := trimL_quoted [] [32] a rfl rfl; simpa using this
  have t2 : trimL ([32] ++ quoteL b) = quoteL b := by have := trimL_quoted [32] [] b rfl rfl; simpa using this
  unfold splitL
  rw [if_neg (by simp; omega), hc]
  simp only [List.map_cons, List.map_nil, t1, t2]
  have e1 : (quoteL a).isEmpty = false := rfl
  have e2 : (quoteL b).isEmpty = false := rfl
  simp [e1, e2]
end Tok
end Go.Proofs.YthhhlaoiampinaaDoor
