/- field: the plain law of Print and Parse. -/
import Derived.Test.YtoalfjkbgeiggaaDoorPiece
import Derived.Test.YtoalfjkbgeiggaaDoorCutC
namespace Go.Proofs.YtoalfjkbgeiggaaDoor
set_option maxRecDepth 20000
open Go.RowKit
abbrev Fp := ByteArray × ByteArray
/-- What stands before the first carriage return and line feed, and behind them. -/
def cutL2 : List UInt8 → Option (List UInt8 × List UInt8)
  | [] => none
  | [_] => none
  | a :: b :: l => if a = 13 ∧ b = 10 then some ([], l) else (cutL2 (b :: l)).map (fun p => (a :: p.1, p.2))
theorem cutL2_some : ∀ (a r : List UInt8), (13 : UInt8) ∉ a → cutL2 (a ++ 13 :: 10 :: r) = some (a, r)
  | [], r, _ => by simp [cutL2]
  | [x], r, h => by
    have hx : x ≠ 13 := fun e => h (by simp [e])
    simp only [List.singleton_append, cutL2, hx, false_and, if_false, and_self, if_true, Option.map_some]
  | x :: y :: a, r, h => by
    have hx : x ≠ 13 := fun e => h (by simp [e])
    have ih := cutL2_some (y :: a) r (fun e => h (List.mem_cons_of_mem _ e))
    simp only [List.cons_append] at ih ⊢
    simp only [cutL2, hx, false_and, if_false, ih, Option.map_some]
theorem cutL2_none : ∀ (a : List UInt8), (13 : UInt8) ∉ a → cutL2 a = none ∧ cutL2 (a ++ [13]) = none
  | [], _ => ⟨rfl, rfl⟩
  | [x], h => by
    have hx : x ≠ 13 := fun e => h (by simp [e])
    exact ⟨rfl, by simp [cutL2, hx]⟩
  | x :: y :: a, h => by
    have hx : x ≠ 13 := fun e => h (by simp [e])
    obtain ⟨h1, h2⟩ := cutL2_none (y :: a) (fun e => h (List.mem_cons_of_mem _ e))
    simp only [List.cons_append] at h2 ⊢
    exact ⟨by simp only [cutL2, hx, false_and, if_false, h1, Option.map_none], by simp only [cutL2, hx, false_and, if_false, h2, Option.map_none]⟩
theorem cutL2_text : ∀ {l a r : List UInt8}, cutL2 l = some (a, r) → l = a ++ 13 :: 10 :: r
  | [], _, _, h => by simp [cutL2] at h
  | [_], _, _, h => by simp [cutL2] at h
  | x :: y :: l, a, r, h => by
    unfold cutL2 at h
    split at h
    · rename_i hc
      injection h with h; injection h with h1 h2; subst h1; subst h2
      rw [hc.1, hc.2]; rfl
    · obtain ⟨⟨p, q⟩, hp, he⟩ := Option.map_eq_some_iff.1 h
      injection he with h1 h2; subst h1; subst h2
      rw [cutL2_text hp]; rfl
/-- 0: it is a field. -/
def chkF (f : Fp) : Int :=
  if Tok.isTok f.1 = false then 3 else if 30 < f.1.size ∨ 1000 < f.2.size then 2 else if sl f.2 ≠ Tok.trimL (sl f.2) then 3 else if (sl f.2).all Tok.plainB = true then 0 else 3
theorem chkF_code (f : Fp) : chkF f = 0 ∨ 2 ≤ chkF f ∧ chkF f ≤ 3 := by
  unfold chkF
  split
  · omega
  · split
    · omega
    · split
      · omega
      · split <;> omega
structure GoodF (f : Fp) : Prop where
  name : Tok.isTok f.1 = true
  n30 : f.1.size ≤ 30
  v1000 : f.2.size ≤ 1000
  trim : Tok.trimL (sl f.2) = sl f.2
  plain : (sl f.2).all Tok.plainB = true
theorem goodF_iff (f : Fp) : chkF f = 0 ↔ GoodF f := by
  constructor
  · intro h
    unfold chkF at h
    split at h
    · cases h
    · rename_i h1
      split at h
      · cases h
      · rename_i h2
        split at h
        · cases h
        · rename_i h3
          split at h
          · rename_i h4
            refine ⟨by simpa using h1, by omega, by omega, ?_, h4⟩
            by_cases he : sl f.2 = Tok.trimL (sl f.2)
            · exact he.symm
            · exact absurd he h3
          · cases h
  · rintro ⟨h1, h2, h3, h4, h5⟩
    unfold chkF
    rw [if_neg (by rw [h1]; simp), if_neg (by omega), if_neg (by rw [h4]; simp), if_pos h5]
/-- The first that is none. -/
def chkL : List Fp → Int
  | [] => 0
  | f :: l => if chkF f = 0 then chkL l else chkF f
def chkAll (l : List Fp) : Int := if 30 < l.length then 2 else chkL l
theorem chkL_good : ∀ (l : List Fp), chkL l = 0 ↔ ∀ f ∈ l, GoodF f
  | [] => by simp [chkL]
  | f :: l => by
    unfold chkL
    by_cases h : chkF f = 0
    · rw [if_pos h, chkL_good l]
      have := (goodF_iff f).1 h
      simp [this]
    · rw [if_neg h]
      constructor
      · intro e; exact absurd e h
      · intro e; exact absurd ((goodF_iff f).2 (e f (by simp))) h
theorem chkL_code : ∀ (l : List Fp), chkL l = 0 ∨ 2 ≤ chkL l ∧ chkL l ≤ 3
  | [] => .inl rfl
  | f :: l => by
    unfold chkL
    split
    · exact chkL_code l
    · have := chkF_code f; omega
def lineF (f : Fp) : List UInt8 := sl f.1 ++ (58 :: 32 :: sl f.2)
def linesF (l : List Fp) : List UInt8 := l.flatMap (fun f => lineF f ++ [13, 10])
def printF (l : List Fp) : List UInt8 := linesF l ++ [13, 10]
theorem linesF_cons (f : Fp) (l : List Fp) : linesF (f :: l) = lineF f ++ (13 :: 10 :: linesF l) := by simp [linesF]
theorem printF_cons (f : Fp) (l : List Fp) : printF (f :: l) = lineF f ++ (13 :: 10 :: printF l) := by simp [printF, linesF]
theorem lineF_len {f : Fp} (h : GoodF f) : (lineF f).length ≤ 1032 ∧ 2 ≤ (lineF f).length := by
  have := h.n30; have := h.v1000
  unfold lineF
  rw [List.length_append, List.length_cons, List.length_cons, sl_len, sl_len]; omega
theorem lineF_no13 {f : Fp} (h : GoodF f) : (13 : UInt8) ∉ lineF f := by
  unfold lineF
  have h1 := tok_no h.name (c := 13) (by decide)
  have h2 : (13 : UInt8) ∉ sl f.2 := fun hm => by
    have := List.all_eq_true.1 h.plain 13 hm
    revert this; decide
  simp [h1, h2]
theorem trim_space {l : List UInt8} (h : Tok.trimL l = l) : Tok.trimL (32 :: l) = l := by
  have e : (32 :: l : List UInt8).dropWhile Tok.blankB = l.dropWhile Tok.blankB := Tok.dw_cons_true rfl
  have : Tok.trimL (32 :: l) = Tok.trimL l := by unfold Tok.trimL; rw [e]
  rw [this, h]
theorem trim_twice (l : List UInt8) : Tok.trimL (Tok.trimL l) = Tok.trimL l := by
  have hd : ∀ m : List UInt8, (m.dropWhile Tok.blankB).dropWhile Tok.blankB = m.dropWhile Tok.blankB := by
    intro m
    induction m with
    | nil => rfl
    | cons x m ih =>
      cases hx : Tok.blankB x
      · rw [Tok.dw_cons_false hx, Tok.dw_cons_false hx]
      · rw [Tok.dw_cons_true hx]; exact ih
  have key : ∀ m : List UInt8, m.dropWhile Tok.blankB = m → ((m.reverse.dropWhile Tok.blankB).reverse).dropWhile Tok.blankB = (m.reverse.dropWhile Tok.blankB).reverse := by
    intro m hm
    cases m with
    | nil => rfl
    | cons x m =>
      have hx : Tok.blankB x = false := by
        cases hx : Tok.blankB x
        · rfl
        · rw [Tok.dw_cons_true hx] at hm
          have := congrArg List.length hm
          have h2 := (List.dropWhile_sublist (p := Tok.blankB) (l := m)).length_le
          simp at this; omega
      obtain ⟨a, ha⟩ : ∃ a, (x :: m).reverse.dropWhile Tok.blankB = a ++ [x] := by
        have : ∀ b : List UInt8, ∃ a, (b ++ [x]).dropWhile Tok.blankB = a ++ [x] := by
          intro b
          induction b with
          | nil => exact ⟨[], by rw [List.nil_append, Tok.dw_cons_false hx]⟩
          | cons y b ih =>
            cases hy : Tok.blankB y
            · exact ⟨y :: b, by rw [List.cons_append, Tok.dw_cons_false hy]⟩
            · obtain ⟨a, ha⟩ := ih
              exact ⟨a, by rw [List.cons_append, Tok.dw_cons_true hy, ha]⟩
        rw [List.reverse_cons]; exact this _
      rw [ha, List.reverse_append, List.reverse_singleton, List.singleton_append, Tok.dw_cons_false hx]
  unfold Tok.trimL
  rw [key _ (hd l), List.reverse_reverse, hd]
/-- One line: a field, or why there is none. -/
def fieldL (line : List UInt8) : Except Int Fp :=
  match cutC 58 line with
  | none => .error 3
  | some (a, b) => if Tok.isTok (mkS a) = true then (if chkF (mkS a, mkS (Tok.trimL b)) = 0 then .ok (mkS a, mkS (Tok.trimL b)) else .error (chkF (mkS a, mkS (Tok.trimL b)))) else .error 3
theorem fieldL_line {f : Fp} (h : GoodF f) : fieldL (lineF f) = .ok f := by
  have h1 := tok_no h.name (c := 58) (by decide)
  have e : cutC 58 (lineF f) = some (sl f.1, 32 :: sl f.2) := cutC_some rfl h1
  unfold fieldL
  rw [e]
  simp only [mkS_sl, h.name, if_true, trim_space h.trim]
  rw [if_pos ((goodF_iff (f.1, f.2)).2 h)]
theorem fieldL_good {line : List UInt8} {f : Fp} (h : fieldL line = .ok f) : GoodF f := by
  unfold fieldL at h
  split at h
  · cases h
  · split at h
    · split at h
      · rename_i hc
        injection h with h; subst h
        exact (goodF_iff _).1 hc
      · cases h
    · cases h
theorem fieldL_code {line : List UInt8} {c : Int} (h : fieldL line = .error c) : 2 ≤ c ∧ c ≤ 3 := by
  unfold fieldL at h
  split at h
  · injection h with h; omega
  · split at h
    · split at h
      · cases h
      · rename_i hc
        injection h with h
        subst h
        rcases chkF_code _ with h0 | h0
        · exact absurd h0 hc
        · exact h0
    · injection h with h; omega
/-- What Parse answers: the fields, and what is behind them. k: how many there are already. -/
def parseF : Nat → Nat → List UInt8 → Except Int (List Fp × List UInt8)
  | 0, _, rest => .error (if 1101 < rest.length then 2 else 8)
  | n + 1, k, rest =>
    match cutL2 rest with
    | none => .error (if 1101 < rest.length then 2 else 8)
    | some (line, r) => if line = [] then .ok ([], r) else if 1100 < line.length ∨ k = 30 then .error 2 else
      match fieldL line with
      | .error c => .error c
      | .ok f => match parseF n (k + 1) r with
        | .error c => .error c
        | .ok (l, r') => .ok (f :: l, r')
theorem cutL2_short {rest line r : List UInt8} (h : cutL2 rest = some (line, r)) : r.length + 2 ≤ rest.length ∧ rest.length = line.length + 2 + r.length := by
  rw [cutL2_text h]; simp; omega
/-- Fuel enough is as good as more. -/
theorem parseF_fuel : ∀ (n m k : Nat) (rest : List UInt8), rest.length ≤ n → rest.length ≤ m → parseF n k rest = parseF m k rest
  | 0, 0, _, _, _, _ => rfl
  | 0, m + 1, k, rest, h, _ => by
    obtain rfl : rest = [] := List.eq_nil_of_length_eq_zero (by omega)
    simp [parseF, cutL2]
  | n + 1, 0, k, rest, _, h => by
    obtain rfl : rest = [] := List.eq_nil_of_length_eq_zero (by omega)
    simp [parseF, cutL2]
  | n + 1, m + 1, k, rest, hn, hm => by
    unfold parseF
    cases hc : cutL2 rest with
    | none => rfl
    | some p =>
      obtain ⟨line, r⟩ := p
      have hs := cutL2_short hc
      dsimp only
      rw [parseF_fuel n m (k + 1) r (by omega) (by omega)]
def parseA (rest : List UInt8) : Except Int (List Fp × List UInt8) := parseF rest.length 0 rest
/-- Printed fields, and what is behind them. -/
theorem parse_print : ∀ (l : List Fp) (k n : Nat) (rest : List UInt8), (∀ f ∈ l, GoodF f) → k + l.length ≤ 30 → (printF l ++ rest).length ≤ n → parseF n k (printF l ++ rest) = .ok (l, rest)
  | [], k, 0, rest, _, _, hn => by simp [printF] at hn
  | [], k, n + 1, rest, _, _, _ => by
    have e : cutL2 (printF [] ++ rest) = some ([], rest) := cutL2_some [] rest (by simp)
    unfold parseF
    rw [e]
    simp
  | f :: l, k, 0, rest, _, _, hn => by rw [printF_cons] at hn; simp at hn
  | f :: l, k, n + 1, rest, hg, hk, hn => by
    have hf := hg f (by simp)
    have hl := lineF_len hf
    have e : cutL2 (printF (f :: l) ++ rest) = some (lineF f, printF l ++ rest) := by
      rw [printF_cons, List.append_assoc, List.cons_append, List.cons_append]
      exact cutL2_some _ _ (lineF_no13 hf)
    have hs := cutL2_short e
    simp only [List.length_cons] at hk
    have ih := parse_print l (k + 1) n rest (fun x hx => hg x (by simp [hx])) (by omega) (by omega)
    unfold parseF
    rw [e]
    dsimp only
    rw [if_neg (by intro e0; rw [e0] at hl; simp at hl), if_neg (by omega), fieldL_line hf]
    dsimp only
    rw [ih]
/-- What is cut off too early. -/
theorem parse_cut : ∀ (l : List Fp) (k n at_ : Nat), (∀ f ∈ l, GoodF f) → k + l.length ≤ 30 → at_ < (printF l).length → at_ ≤ n → parseF n k ((printF l).take at_) = .error 8
  | l, k, 0, at_, _, _, _, hn => by
    obtain rfl : at_ = 0 := by omega
    simp [parseF]
  | [], k, n + 1, at_, _, _, ha, _ => by
    have : at_ = 0 ∨ at_ = 1 := by simp [printF, linesF] at ha; omega
    rcases this with rfl | rfl <;> simp [printF, linesF, parseF, cutL2]
  | f :: l, k, n + 1, at_, hg, hk, ha, hn => by
    have hf := hg f (by simp)
    have hl := lineF_len hf
    have h13 := lineF_no13 hf
    simp only [List.length_cons] at hk
    by_cases h : at_ < (lineF f).length + 2
    · have hno : cutL2 ((printF (f :: l)).take at_) = none := by
        rw [printF_cons, List.take_append]
        by_cases h1 : at_ ≤ (lineF f).length
        · rw [show at_ - (lineF f).length = 0 from by omega, List.take_zero, List.append_nil]
          exact (cutL2_none _ (fun hm => h13 (List.mem_of_mem_take hm))).1
        · rw [show at_ - (lineF f).length = 1 from by omega, List.take_of_length_le (by omega)]
          exact (cutL2_none _ h13).2
      have hlen : ((printF (f :: l)).take at_).length ≤ 1101 := by rw [List.length_take]; omega
      unfold parseF
      rw [hno]
      dsimp only
      rw [if_neg (by omega)]
    · obtain ⟨m, rfl⟩ : ∃ m, at_ = (lineF f).length + 2 + m := ⟨at_ - ((lineF f).length + 2), by omega⟩
      have e0 : (printF (f :: l)).take ((lineF f).length + 2 + m) = lineF f ++ 13 :: 10 :: (printF l).take m := by
        rw [printF_cons, List.take_append, List.take_of_length_le (by omega), show (lineF f).length + 2 + m - (lineF f).length = m + 1 + 1 from by omega, List.take_succ_cons, List.take_succ_cons]
      have e : cutL2 ((printF (f :: l)).take ((lineF f).length + 2 + m)) = some (lineF f, (printF l).take m) := by
        rw [e0]; exact cutL2_some _ _ h13
      have hm : m < (printF l).length := by
        rw [printF_cons] at ha; simp at ha; omega
      have ih := parse_cut l (k + 1) n m (fun x hx => hg x (by simp [hx])) (by omega) hm (by omega)
      unfold parseF
      rw [e]
      dsimp only
      rw [if_neg (by intro e0; rw [e0] at hl; simp at hl), if_neg (by omega), fieldL_line hf]
      dsimp only
      rw [ih]
/-- What was parsed is in order. -/
theorem parse_good : ∀ (n k : Nat) (rest : List UInt8) (l : List Fp) (r : List UInt8), k ≤ 30 → parseF n k rest = .ok (l, r) → (∀ f ∈ l, GoodF f) ∧ k + l.length ≤ 30 ∧ r.length + 2 ≤ rest.length
  | 0, k, rest, l, r, _, h => by cases h
  | n + 1, k, rest, l, r, hk, h => by
    unfold parseF at h
    cases hc : cutL2 rest with
    | none => rw [hc] at h; cases h
    | some p =>
      obtain ⟨line, s⟩ := p
      have hs := cutL2_short hc
      rw [hc] at h
      dsimp only at h
      split at h
      · injection h with h; injection h with h1 h2; subst h1; subst h2
        exact ⟨(fun f hf => by cases hf), by simpa using hk, by omega⟩
      · split at h
        · cases h
        · rename_i hk2
          cases hfl : fieldL line with
          | error c => rw [hfl] at h; cases h
          | ok f =>
            rw [hfl] at h
            dsimp only at h
            cases hp : parseF n (k + 1) s with
            | error c => rw [hp] at h; cases h
            | ok q =>
              obtain ⟨l', r'⟩ := q
              rw [hp] at h
              injection h with h; injection h with h1 h2; subst h1; subst h2
              obtain ⟨i1, i2, i3⟩ := parse_good n (k + 1) s l' r' (by omega) hp
              refine ⟨fun x hx => ?_, by simp only [List.length_cons]; omega, by omega⟩
              rcases List.mem_cons.1 hx with rfl | hx
              · exact fieldL_good hfl
              · exact i1 x hx
theorem parse_code : ∀ (n k : Nat) (rest : List UInt8) (c : Int), parseF n k rest = .error c → 2 ≤ c ∧ c ≤ 8
  | 0, k, rest, c, h => by
    unfold parseF at h
    injection h with h; subst h; split <;> omega
  | n + 1, k, rest, c, h => by
    unfold parseF at h
    cases hc : cutL2 rest with
    | none => rw [hc] at h; injection h with h; subst h; split <;> omega
    | some p =>
      obtain ⟨line, s⟩ := p
      rw [hc] at h
      dsimp only at h
      split at h
      · cases h
      · split at h
        · injection h with h; omega
        · cases hfl : fieldL line with
          | error d => rw [hfl] at h; injection h with h; subst h; have := fieldL_code hfl; omega
          | ok f =>
            rw [hfl] at h
            dsimp only at h
            cases hp : parseF n (k + 1) s with
            | error d => rw [hp] at h; injection h with h; subst h; exact parse_code n (k + 1) s d hp
            | ok q => rw [hp] at h; cases h
end Go.Proofs.YtoalfjkbgeiggaaDoor
