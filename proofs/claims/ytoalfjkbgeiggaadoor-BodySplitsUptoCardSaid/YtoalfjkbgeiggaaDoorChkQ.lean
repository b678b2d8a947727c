/- body: steps of the decoder, when more comes; bodies in pieces. -/
import Derived.Test.YtoalfjkbgeiggaaDoorChkP
namespace Go.Proofs.YtoalfjkbgeiggaaDoor
set_option maxRecDepth 20000
open Go.RowKit
namespace Ck
theorem atEnd_ok (r : List UInt8) (k : Ans) : atEnd (13 :: 10 :: r) k = k := rfl
theorem atEnd_short {rest : List UInt8} (h : rest = [] ∨ rest = [13]) (k : Ans) : atEnd rest k = .short := by
  rcases h with rfl | rfl <;> rfl
theorem step_head (body s : List UInt8) : step .head body s = if (digs s).length = 0 ∧ s ≠ [] then .err 3
    else atEnd (s.drop (headEnd s)) (if 5000 < body.length + hexN (digs s) then .err 2 else .go (headEnd s + 2) (if hexN (digs s) = 0 then .trailer else .data (hexN (digs s))) body) := rfl
theorem step_data (left : Nat) (body s : List UInt8) : step (.data left) body s = if s.length ≤ left then .short else atEnd (s.drop left) (.go (left + 2) .head (body ++ s.take left)) := rfl
theorem step_trailer (body s : List UInt8) : step .trailer body s = match parseA s with
    | .error c => if c = 8 then .short else .err c
    | .ok (_, r) => .fin (s.length - r.length) := rfl
theorem headEnd_ge (s : List UInt8) : (digs s).length ≤ headEnd s := by
  unfold headEnd
  dsimp only
  split <;> omega
theorem drop_app {s t : List UInt8} {e : Nat} (h : e ≤ s.length) : (s ++ t).drop e = s.drop e ++ t := List.drop_append_of_le_length h
theorem headEnd_more {s : List UInt8} (t : List UInt8) (h : headEnd s < s.length) : digs (s ++ t) = digs s ∧ headEnd (s ++ t) = headEnd s := by
  have hd : digs (s ++ t) = digs s := pre_more t (by have := headEnd_ge s; unfold digs at this; omega)
  refine ⟨hd, ?_⟩
  have hge := headEnd_ge s
  unfold headEnd at h hge ⊢
  rw [hd]
  dsimp only at h hge ⊢
  have hn : (digs s).length < s.length := by omega
  rw [List.getElem?_append_left hn]
  split
  · rename_i hc
    rw [if_pos hc] at h
    rw [drop_app (by omega), pre_more t (by rw [List.length_drop]; omega)]
  · rfl
/-- What a step does stays as it is when more comes, unless it waits. -/
theorem step_more (st : St) (body s t : List UInt8) (hs : step st body s ≠ .short) : step st body (s ++ t) = step st body s ∧ (∀ k st' b, step st body s = .go k st' b → 2 ≤ k ∧ k ≤ s.length) ∧ (∀ k, step st body s = .fin k → k ≤ s.length) := by
  cases st with
  | head =>
    by_cases h0 : (digs s).length = 0 ∧ s ≠ []
    · have hl : 0 < s.length := by
        cases s with
        | nil => exact absurd rfl h0.2
        | cons a l => simp
      have hd : digs (s ++ t) = digs s := pre_more t (by have := h0.1; unfold digs at this; omega)
      have e1 : step .head body s = .err 3 := by rw [step_head, if_pos h0]
      have e2 : step .head body (s ++ t) = .err 3 := by
        rw [step_head]
        rw [hd, if_pos ⟨h0.1, fun e => h0.2 (List.append_eq_nil_iff.1 e).1⟩]
      rw [e1, e2]
      exact ⟨rfl, fun _ _ _ h => (by cases h), fun _ h => (by cases h)⟩
    · rcases rest_cases (s.drop (headEnd s)) with h | ⟨r, h⟩ | h
      · have : step .head body s = .short := by rw [step_head, if_neg h0]; exact atEnd_short h _
        exact absurd this hs
      · have hlen := congrArg List.length h
        rw [List.length_drop, List.length_cons, List.length_cons] at hlen
        obtain ⟨hd, he⟩ := headEnd_more t (s := s) (by omega)
        have h0' : ¬ ((digs (s ++ t)).length = 0 ∧ s ++ t ≠ []) := by
          rw [hd]
          rintro ⟨h1, _⟩
          exact h0 ⟨h1, fun e => by rw [e] at hlen; simp at hlen⟩
        have e2 : step .head body (s ++ t) = step .head body s := by
          rw [step_head, step_head]
          rw [if_neg h0, if_neg h0', hd, he, drop_app (by omega), h]
          rfl
        refine ⟨e2, ?_, ?_⟩
        · intro k st' b hk
          rw [step_head] at hk
          rw [if_neg h0, h, atEnd_ok] at hk
          by_cases h5 : 5000 < body.length + hexN (digs s)
          · rw [if_pos h5] at hk; cases hk
          · rw [if_neg h5] at hk; injection hk with hk _ _; omega
        · intro k hk
          rw [step_head] at hk
          rw [if_neg h0, h, atEnd_ok] at hk
          by_cases h5 : 5000 < body.length + hexN (digs s)
          · rw [if_pos h5] at hk; cases hk
          · rw [if_neg h5] at hk; cases hk
      · have e1 : step .head body s = .err 3 := by
          rw [step_head, if_neg h0]
          have := h [] (if 5000 < body.length + hexN (digs s) then .err 2 else .go (headEnd s + 2) (if hexN (digs s) = 0 then .trailer else .data (hexN (digs s))) body)
          rw [List.append_nil] at this
          exact this
        have hne : headEnd s < s.length := by
          rcases Nat.lt_or_ge (headEnd s) s.length with h1 | h1
          · exact h1
          · have h2 := h [] .short
            rw [List.drop_eq_nil_of_le h1, List.append_nil] at h2
            cases h2
        obtain ⟨hd, he⟩ := headEnd_more t hne
        have h0' : ¬ ((digs (s ++ t)).length = 0 ∧ s ++ t ≠ []) := by
          rw [hd]
          rintro ⟨h1, _⟩
          exact h0 ⟨h1, fun e => by rw [e] at hne; simp at hne⟩
        have e2 : step .head body (s ++ t) = .err 3 := by
          rw [step_head]
          rw [if_neg h0', he, drop_app (by omega)]
          exact h t _
        rw [e1, e2]
        exact ⟨rfl, fun _ _ _ h => (by cases h), fun _ h => (by cases h)⟩
  | data left =>
    by_cases hl : s.length ≤ left
    · exact absurd (by rw [step_data, if_pos hl]) hs
    · rcases rest_cases (s.drop left) with h | ⟨r, h⟩ | h
      · exact absurd (by rw [step_data, if_neg hl]; exact atEnd_short h _) hs
      · have hlen := congrArg List.length h
        rw [List.length_drop, List.length_cons, List.length_cons] at hlen
        refine ⟨?_, ?_, ?_⟩
        · rw [step_data, step_data]
          rw [if_neg hl, if_neg (by rw [List.length_append]; omega), drop_app (by omega), h, List.take_append_of_le_length (by omega)]
          rfl
        · intro k st' b hk
          rw [step_data] at hk
          rw [if_neg hl, h, atEnd_ok] at hk
          injection hk with hk _ _; omega
        · intro k hk
          rw [step_data] at hk
          rw [if_neg hl, h, atEnd_ok] at hk
          cases hk
      · have e1 : step (.data left) body s = .err 3 := by
          rw [step_data, if_neg hl]
          have := h [] (.go (left + 2) .head (body ++ s.take left))
          rw [List.append_nil] at this
          exact this
        have e2 : step (.data left) body (s ++ t) = .err 3 := by
          rw [step_data]
          rw [if_neg (by rw [List.length_append]; omega), drop_app (by omega)]
          exact h t _
        rw [e1, e2]
        exact ⟨rfl, fun _ _ _ h => (by cases h), fun _ h => (by cases h)⟩
  | trailer =>
    cases hp : parseA s with
    | error c =>
      by_cases h8 : c = 8
      · exact absurd (by rw [step_trailer, hp]; dsimp only; rw [if_pos h8]) hs
      · have e1 : step .trailer body s = .err c := by rw [step_trailer, hp]; dsimp only; rw [if_neg h8]
        have e2 : step .trailer body (s ++ t) = .err c := by rw [step_trailer, parseA_err t hp h8]; dsimp only; rw [if_neg h8]
        rw [e1, e2]
        exact ⟨rfl, fun _ _ _ h => (by cases h), fun _ h => (by cases h)⟩
    | ok q =>
      obtain ⟨fs, r⟩ := q
      have hr := parseA_len _ _ hp
      have e1 : step .trailer body s = .fin (s.length - r.length) := by rw [step_trailer, hp]
      have e2 : step .trailer body (s ++ t) = .fin (s.length - r.length) := by
        rw [step_trailer]
        rw [parseA_more t hp]
        dsimp only
        rw [List.length_append, List.length_append]
        congr 1
        omega
      rw [e1, e2]
      exact ⟨rfl, fun _ _ _ h => (by cases h), fun k h => by injection h with h; omega⟩
/-- Fuel enough is as good as more. -/
theorem run_fuel : ∀ (n m : Nat) (st : St) (body s : List UInt8), s.length < n → s.length < m → run n st body s = run m st body s
  | 0, _, _, _, _, h, _ => by omega
  | _, 0, _, _, _, _, h => by omega
  | n + 1, m + 1, st, body, s, hn, hm => by
    unfold run
    cases hs : step st body s with
    | short => rfl
    | err c => rfl
    | fin k => rfl
    | go k st' b =>
      obtain ⟨h1, h2⟩ := (step_more st body s [] (by rw [hs]; simp)).2.1 k st' b hs
      dsimp only
      exact run_fuel n m st' b (s.drop k) (by rw [List.length_drop]; omega) (by rw [List.length_drop]; omega)
def dec (st : St) (body s : List UInt8) : Res := run (s.length + 1) st body s
theorem dec_eq (st : St) (body s : List UInt8) : dec st body s = match step st body s with
    | .short => .short st body s
    | .err c => .err c
    | .go k st' b => dec st' b (s.drop k)
    | .fin k => .done body (s.drop k) := by
  unfold dec
  rw [run]
  cases hs : step st body s with
  | short => rfl
  | err c => rfl
  | fin k => rfl
  | go k st' b =>
    obtain ⟨h1, h2⟩ := (step_more st body s [] (by rw [hs]; simp)).2.1 k st' b hs
    dsimp only
    exact run_fuel _ _ st' b (s.drop k) (by rw [List.length_drop]; omega) (by omega)
/-- What was read of what has come is read so when more comes. -/
theorem dec_more : ∀ (n : Nat) (st : St) (body s t : List UInt8), s.length ≤ n →
    match dec st body s with
    | .done b r => dec st body (s ++ t) = .done b (r ++ t) ∧ r.length ≤ s.length
    | .err c => dec st body (s ++ t) = .err c
    | .short st' b r => dec st body (s ++ t) = dec st' b (r ++ t) ∧ r.length ≤ s.length
  | n, st, body, s, t, hn => by
    rw [dec_eq st body s]
    cases hs : step st body s with
    | short => exact ⟨rfl, Nat.le_refl _⟩
    | err c =>
      dsimp only
      rw [dec_eq, (step_more st body s t (by rw [hs]; simp)).1, hs]
    | fin k =>
      have hk := (step_more st body s t (by rw [hs]; simp)).2.2 k hs
      dsimp only
      rw [dec_eq, (step_more st body s t (by rw [hs]; simp)).1, hs]
      dsimp only
      exact ⟨by rw [drop_app hk], by rw [List.length_drop]; omega⟩
    | go k st' b =>
      obtain ⟨h1, h2⟩ := (step_more st body s t (by rw [hs]; simp)).2.1 k st' b hs
      have e : dec st body (s ++ t) = dec st' b (s.drop k ++ t) := by
        rw [dec_eq, (step_more st body s t (by rw [hs]; simp)).1, hs]
        dsimp only
        rw [drop_app h2]
      dsimp only
      match n, hn with
      | 0, hn => omega
      | n + 1, hn =>
        have ih := dec_more n st' b (s.drop k) t (by rw [List.length_drop]; omega)
        rw [e]
        cases hd : dec st' b (s.drop k) with
        | done b' r =>
          rw [hd] at ih
          dsimp only at ih ⊢
          exact ⟨ih.1, by have := ih.2; rw [List.length_drop] at this; omega⟩
        | err c => rw [hd] at ih; exact ih
        | short st2 b' r =>
          rw [hd] at ih
          dsimp only at ih ⊢
          exact ⟨ih.1, by have := ih.2; rw [List.length_drop] at this; omega⟩
end Ck
end Go.Proofs.YtoalfjkbgeiggaaDoor
