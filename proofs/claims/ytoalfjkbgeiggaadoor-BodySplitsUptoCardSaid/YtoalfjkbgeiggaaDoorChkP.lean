/- body: the plain law of bodies in chunks. -/
import Derived.Test.YtoalfjkbgeiggaaDoorFldP
namespace Go.Proofs.YtoalfjkbgeiggaaDoor
set_option maxRecDepth 20000
open Go.RowKit
namespace Ck
def hexB (c : UInt8) : Bool := (48 ≤ c && c ≤ 57) || (97 ≤ c && c ≤ 102) || (65 ≤ c && c ≤ 70)
def hexV (c : UInt8) : Nat := if c.toNat ≤ 57 then c.toNat - 48 else if 97 ≤ c.toNat then c.toNat - 87 else c.toNat - 55
def hexN (l : List UInt8) : Nat := l.foldl (fun n c => 16 * n + hexV c) 0
/-- What stands ahead, at most m bytes of a kind. -/
def pre (m : Nat) (p : UInt8 → Bool) (s : List UInt8) : List UInt8 := (s.take m).takeWhile p
/-- The digits ahead. -/
def digs (s : List UInt8) : List UInt8 := pre 4 hexB s
/-- Where the head's line ends: behind its digits and what follows a semicolon. -/
def headEnd (s : List UInt8) : Nat :=
  let n := (digs s).length
  if 0 < n ∧ s[n]? = some 59 then n + 1 + (pre 50 Tok.plainB (s.drop (n + 1))).length else n
inductive St where
  | head : St
  | data : Nat → St
  | trailer : St
/-- What a step answers: nothing yet; an error; so many bytes taken, what comes next, the body; it is all there, so many bytes taken. -/
inductive Ans where
  | short : Ans
  | err : Int → Ans
  | go : Nat → St → List UInt8 → Ans
  | fin : Nat → Ans
/-- At a line's end. -/
def atEnd (rest : List UInt8) (k : Ans) : Ans :=
  match rest with
  | [] => .short
  | [13] => .short
  | 13 :: 10 :: _ => k
  | _ => .err 3
def step (st : St) (body s : List UInt8) : Ans :=
  match st with
  | .head =>
    if (digs s).length = 0 ∧ s ≠ [] then .err 3
    else atEnd (s.drop (headEnd s)) (if 5000 < body.length + hexN (digs s) then .err 2 else .go (headEnd s + 2) (if hexN (digs s) = 0 then .trailer else .data (hexN (digs s))) body)
  | .data left => if s.length ≤ left then .short else atEnd (s.drop left) (.go (left + 2) .head (body ++ s.take left))
  | .trailer => match parseA s with
    | .error c => if c = 8 then .short else .err c
    | .ok (_, r) => .fin (s.length - r.length)
inductive Res where
  | short : St → List UInt8 → List UInt8 → Res
  | err : Int → Res
  | done : List UInt8 → List UInt8 → Res
def run : Nat → St → List UInt8 → List UInt8 → Res
  | 0, st, body, s => .short st body s
  | n + 1, st, body, s => match step st body s with
    | .short => .short st body s
    | .err c => .err c
    | .go k st' body' => run n st' body' (s.drop k)
    | .fin k => .done body (s.drop k)
/-! ### More bytes behind. -/
theorem tw_more {p : UInt8 → Bool} : ∀ (l t : List UInt8), (l.takeWhile p).length < l.length → (l ++ t).takeWhile p = l.takeWhile p
  | [], t, h => by simp at h
  | x :: l, t, h => by
    rw [List.cons_append, List.takeWhile_cons, List.takeWhile_cons]
    cases hp : p x with
    | false => simp
    | true =>
      rw [List.takeWhile_cons, hp] at h
      simp only [if_true, List.length_cons] at h
      simp only [if_true]
      rw [tw_more l t (by omega)]
theorem pre_more {m : Nat} {p : UInt8 → Bool} {s : List UInt8} (t : List UInt8) (h : (pre m p s).length < s.length) : pre m p (s ++ t) = pre m p s := by
  unfold pre at *
  by_cases hm : m ≤ s.length
  · rw [List.take_append_of_le_length hm]
  · have e1 : s.take m = s := List.take_of_length_le (by omega)
    rw [e1] at h ⊢
    rw [List.take_append, e1]
    exact tw_more s _ h
theorem rest_cases (rest : List UInt8) : (rest = [] ∨ rest = [13]) ∨ (∃ r, rest = 13 :: 10 :: r) ∨ (∀ t k, atEnd (rest ++ t) k = .err 3) := by
  match rest with
  | [] => exact .inl (.inl rfl)
  | [x] =>
    by_cases hx : x = 13
    · subst hx; exact .inl (.inr rfl)
    · refine .inr (.inr fun t k => ?_)
      rw [List.singleton_append]
      unfold atEnd
      split
      · rename_i h; cases h
      · rename_i h; injection h with h; exact absurd h hx
      · rename_i h; injection h with h; exact absurd h hx
      · rfl
  | x :: y :: r =>
    by_cases hxy : x = 13 ∧ y = 10
    · obtain ⟨rfl, rfl⟩ := hxy
      exact .inr (.inl ⟨r, rfl⟩)
    · refine .inr (.inr fun t k => ?_)
      rw [List.cons_append, List.cons_append]
      unfold atEnd
      split
      · rename_i h; cases h
      · rename_i h; injection h with _ h; cases h
      · rename_i h; injection h with h1 h; injection h with h2 _; exact absurd ⟨h1, h2⟩ hxy
      · rfl
/-! ### Fields, and more behind. -/
theorem cutL2_more : ∀ {s a r : List UInt8} (t : List UInt8), cutL2 s = some (a, r) → cutL2 (s ++ t) = some (a, r ++ t)
  | [], _, _, _, h => by simp [cutL2] at h
  | [_], _, _, _, h => by simp [cutL2] at h
  | x :: y :: l, a, r, t, h => by
    rw [List.cons_append, List.cons_append]
    unfold cutL2 at h ⊢
    split at h
    · rename_i hc
      injection h with h; injection h with h1 h2; subst h1; subst h2
      rw [if_pos hc]
    · rename_i hc
      rw [if_neg hc]
      obtain ⟨⟨p, q⟩, hp, he⟩ := Option.map_eq_some_iff.1 h
      injection he with h1 h2; subst h1; subst h2
      have := cutL2_more t hp
      rw [List.cons_append] at this
      rw [this]; rfl
theorem cutL2_has : ∀ (x y : List UInt8), cutL2 (x ++ 13 :: 10 :: y) ≠ none
  | [], y => by simp [cutL2]
  | [a], y => by
    show cutL2 (a :: 13 :: 10 :: y) ≠ none
    unfold cutL2
    split
    · simp
    · rw [show cutL2 (13 :: 10 :: y) = some ([], y) from by simp [cutL2]]; simp
  | a :: b :: x, y => by
    have ih := cutL2_has (b :: x) y
    rw [List.cons_append] at ih
    rw [List.cons_append, List.cons_append]
    unfold cutL2
    split
    · simp
    · cases hc : cutL2 (b :: (x ++ 13 :: 10 :: y)) with
      | none => exact absurd hc ih
      | some p => simp
theorem cutL2_far {s t a r : List UInt8} (h : cutL2 s = none) (h2 : cutL2 (s ++ t) = some (a, r)) : s.length ≤ a.length + 1 := by
  by_cases hl : s.length ≤ a.length + 1
  · exact hl
  · have ht := cutL2_text h2
    have hs : s = a ++ 13 :: 10 :: (r.take (s.length - (a.length + 2))) := by
      have := congrArg (List.take s.length) ht
      rw [List.take_left' rfl, List.take_append, List.take_of_length_le (by omega)] at this
      obtain ⟨k, hk⟩ : ∃ k, s.length - a.length = k + 2 := ⟨s.length - a.length - 2, by omega⟩
      rw [hk, List.take_succ_cons, List.take_succ_cons] at this
      rw [show s.length - (a.length + 2) = k by omega]
      exact this
    exact absurd (hs ▸ h) (cutL2_has _ _)
theorem parseF_more : ∀ (n m k : Nat) (rest t : List UInt8), rest.length ≤ n → (rest ++ t).length ≤ m →
    (∀ l r, parseF n k rest = .ok (l, r) → parseF m k (rest ++ t) = .ok (l, r ++ t)) ∧ (∀ c, parseF n k rest = .error c → c ≠ 8 → parseF m k (rest ++ t) = .error c)
  | n, m, k, rest, t, hn, hm => by
    rw [parseF_fuel n (n + 1) k rest hn (by omega), parseF_fuel m (m + 1) k (rest ++ t) hm (by omega)]
    cases hc : cutL2 rest with
    | none =>
      have e : parseF (n + 1) k rest = .error (if 1101 < rest.length then 2 else 8) := by unfold parseF; rw [hc]
      rw [e]
      refine ⟨fun l r h => (by cases h), fun c h h8 => ?_⟩
      injection h with h
      by_cases hl : 1101 < rest.length
      · rw [if_pos hl] at h
        subst h
        unfold parseF
        cases hc2 : cutL2 (rest ++ t) with
        | none => dsimp only; rw [if_pos (by rw [List.length_append]; omega)]
        | some p =>
          obtain ⟨a, r⟩ := p
          have := cutL2_far hc hc2
          dsimp only
          rw [if_neg (by intro e; rw [e] at this; simp at this; omega), if_pos (.inl (by omega))]
      · rw [if_neg hl] at h; exact absurd h.symm h8
    | some p =>
      obtain ⟨a, r0⟩ := p
      have hc2 := cutL2_more t hc
      have hsh := cutL2_short hc
      unfold parseF
      rw [hc, hc2]
      dsimp only
      by_cases ha : a = []
      · rw [if_pos ha, if_pos ha]
        refine ⟨fun l r h => ?_, fun c h => (by cases h)⟩
        injection h with h; injection h with h1 h2; subst h1; subst h2; rfl
      · rw [if_neg ha, if_neg ha]
        by_cases hb : 1100 < a.length ∨ k = 30
        · rw [if_pos hb, if_pos hb]
          exact ⟨fun l r h => (by cases h), fun c h _ => h⟩
        · rw [if_neg hb, if_neg hb]
          cases hf : fieldL a with
          | error c => exact ⟨fun l r h => (by cases h), fun c h _ => h⟩
          | ok f =>
            match n, hn with
            | 0, hn => omega
            | n + 1, hn =>
              match m, hm with
              | 0, hm => rw [List.length_append] at hm; omega
              | m + 1, hm =>
                obtain ⟨i1, i2⟩ := parseF_more n m (k + 1) r0 t (by omega) (by rw [List.length_append] at hm ⊢; omega)
                have f1 : parseF (n + 1) (k + 1) r0 = parseF n (k + 1) r0 := parseF_fuel _ _ _ _ (by omega) (by omega)
                have f2 : parseF (m + 1) (k + 1) (r0 ++ t) = parseF m (k + 1) (r0 ++ t) := parseF_fuel _ _ _ _ (by rw [List.length_append] at hm ⊢; omega) (by rw [List.length_append] at hm ⊢; omega)
                dsimp only
                rw [f1, f2]
                cases hp : parseF n (k + 1) r0 with
                | error c =>
                  refine ⟨fun l r h => (by cases h), fun c' h h8 => ?_⟩
                  injection h with h
                  subst h
                  rw [i2 c hp h8]
                | ok q =>
                  obtain ⟨l', r'⟩ := q
                  refine ⟨fun l r h => ?_, fun c h => (by cases h)⟩
                  injection h with h; injection h with h1 h2; subst h1; subst h2
                  rw [i1 _ _ hp]
  termination_by n => n
theorem parseA_more {s r : List UInt8} {fs : List Fp} (t : List UInt8) (h : parseA s = .ok (fs, r)) : parseA (s ++ t) = .ok (fs, r ++ t) := (parseF_more s.length (s ++ t).length 0 s t (Nat.le_refl _) (Nat.le_refl _)).1 fs r h
theorem parseA_err {s : List UInt8} {c : Int} (t : List UInt8) (h : parseA s = .error c) (h8 : c ≠ 8) : parseA (s ++ t) = .error c := (parseF_more s.length (s ++ t).length 0 s t (Nat.le_refl _) (Nat.le_refl _)).2 c h h8
theorem parseA_len : ∀ (n k : Nat) {s r : List UInt8} {fs : List Fp}, parseF n k s = .ok (fs, r) → r.length ≤ s.length
  | 0, _, _, _, _, h => by cases h
  | n + 1, k, s, r, fs, h => by
    unfold parseF at h
    cases hc : cutL2 s with
    | none => rw [hc] at h; cases h
    | some p =>
      obtain ⟨a, r0⟩ := p
      have hsh := cutL2_short hc
      rw [hc] at h
      dsimp only at h
      split at h
      · injection h with h; injection h with _ h; subst h; omega
      · split at h
        · cases h
        · split at h
          · cases h
          · split at h
            · cases h
            · rename_i l' r' hp
              injection h with h; injection h with _ h; subst h
              have := parseA_len n (k + 1) hp
              omega
end Ck
end Go.Proofs.YtoalfjkbgeiggaaDoor
