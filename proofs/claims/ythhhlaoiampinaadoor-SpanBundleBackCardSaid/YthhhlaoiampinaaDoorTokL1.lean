/- What is quoted is unquoted as it was. -/
import Derived.Test.YthhhlaoiampinaaDoorTokB
namespace Go.Proofs.YthhhlaoiampinaaDoor
set_option maxRecDepth 20000
open Go.RowKit
namespace Tok
theorem escs_cons (c : UInt8) (l : List UInt8) : escs (c :: l) = esc c ++ escs l := rfl
theorem unq_escs : ∀ (l : List UInt8), l.all plainB = true → unq (escs l) = some l
  | [], _ => rfl
  | c :: l, h => by
    simp only [List.all_cons, Bool.and_eq_true] at h
    have ih := unq_escs l h.2
    rw [escs_cons]
    by_cases hc : (c == 34 || c == 92) = true
    · have e : esc c = [92, c] := if_pos hc
      rw [e]
      show unq (92 :: c :: escs l) = _
      rw [unq_esc _ _ _ rfl, h.1, if_pos rfl, ih]; rfl
    · have e : esc c = [c] := if_neg hc
      rw [e]
      simp only [Bool.or_eq_true, not_or, Bool.not_eq_true] at hc
      show unq (c :: escs l) = _
      rw [unq_plain _ _ hc.2 hc.1 h.1, ih]; rfl
theorem unquote_quote (l : List UInt8) (h : l.all plainB = true) : unquoteL (quoteL l) = some l := by
  have hl : (quoteL l).length = (escs l).length + 2 := by simp [quoteL]
  have h0 : (quoteL l)[0]? = some 34 := rfl
  have h1 : (quoteL l)[(quoteL l).length - 1]? = some 34 := by
    rw [hl]
    unfold quoteL
    simp
  unfold unquoteL
  rw [h0, h1, if_neg (by simp; omega), hl, ← unq_escs l h]
  congr 1
  unfold quoteL
  simp
/-- What unquotes to something is no shorter than it quoted anew. -/
theorem escs_of_unq : ∀ (n : Nat) (l b : List UInt8), l.length ≤ n → unq l = some b → (escs b).length ≤ l.length ∧ b.all plainB = true
  | _, [], b, _, h => by simp only [unq] at h; obtain rfl := Option.some.inj h; simp [escs]
  | 0, c :: l, b, hn, h => by simp at hn
  | n + 1, c :: l, b, hn, h => by
    simp only [List.length_cons] at hn
    cases h92 : (c == 92)
    · cases h34 : (c == 34)
      · cases hp : plainB c
        · rw [unq_bad _ _ h92 (.inr hp)] at h; cases h
        · rw [unq_plain _ _ h92 h34 hp] at h
          obtain ⟨b', hb, rfl⟩ := Option.map_eq_some_iff.1 h
          obtain ⟨i1, i2⟩ := escs_of_unq n l b' (by omega) hb
          have e : esc c = [c] := by unfold esc; rw [h92, h34]; rfl
          refine ⟨?_, by simp [hp, i2]⟩
          rw [escs_cons, e]
          simp only [List.length_append, List.length_cons, List.length_nil]; omega
      · rw [unq_bad _ _ h92 (.inl h34)] at h; cases h
    · cases l with
      | nil => rw [unq_esc_end _ h92] at h; cases h
      | cons d l =>
        rw [unq_esc _ _ _ h92] at h
        cases hp : plainB d
        · rw [hp] at h; cases h
        · rw [hp, if_pos rfl] at h
          obtain ⟨b', hb, rfl⟩ := Option.map_eq_some_iff.1 h
          simp only [List.length_cons] at hn
          obtain ⟨i1, i2⟩ := escs_of_unq n l b' (by omega) hb
          have := esc_len d
          refine ⟨?_, by simp [hp, i2]⟩
          rw [escs_cons]
          simp only [List.length_append, List.length_cons]; omega
theorem unquote_some {l b : List UInt8} (h : unquoteL l = some b) : (quoteL b).length ≤ l.length ∧ b.all plainB = true := by
  unfold unquoteL at h
  split at h
  · cases h
  · rename_i hc
    simp only [Bool.or_eq_true, decide_eq_true_eq, not_or] at hc
    have hlen : ((l.drop 1).take (l.length - 2)).length ≤ l.length - 2 := by simp; omega
    obtain ⟨i1, i2⟩ := escs_of_unq _ _ b (Nat.le_refl _) h
    refine ⟨?_, i2⟩
    simp [quoteL] at i1 ⊢
    omega
end Tok

/-- What Quote answers, whatever it is given. -/
def QuoteAns (l : List UInt8) (e : Ending) : Prop :=
  (l.length ≤ 1000 ∧ l.all Tok.plainB = true ∧ e = .returned (.tuple #[.string (mkS (Tok.quoteL l)), .int .i64 0])) ∨
  (¬ (l.length ≤ 1000 ∧ l.all Tok.plainB = true) ∧ ∃ c : Int, 1 ≤ c ∧ c ≤ 3 ∧ e = .returned (.tuple #[.string ByteArray.empty, .int .i64 c]))
end Go.Proofs.YthhhlaoiampinaaDoor
