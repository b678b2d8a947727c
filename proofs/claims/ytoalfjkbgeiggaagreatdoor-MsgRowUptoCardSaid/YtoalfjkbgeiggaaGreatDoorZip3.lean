/- field: the plain law of Print and Parse. -/
import Derived.Test.YtoalfjkbgeiggaaGreatDoorZip2
namespace Go.Proofs.YtoalfjkbgeiggaaGreatDoor
set_option maxRecDepth 20000
open Go.RowKit
abbrev Fp := ByteArray × ByteArray
/-- What stands before the first carriage return and line feed, and behind them. -/
def cutL2 : List UInt8 → Option (List UInt8 × List UInt8)
  | [] => none
  | [_] => none
  | a :: b :: l => if a = 13 ∧ b = 10 then some ([], l) else (cutL2 (b :: l)).map (fun p => (a :: p.1, p.2))
theorem cutL2_some : ∀ (a r : List UInt8), (13 : UInt8) ∉ a → cutL2 (a ++ 13 :: 10 :: r) = some (a, r)
  | [], r, _ => by simp [cutL2]
  | [x], r, h => by
    have hx : x ≠ 13 := fun e => h (by simp [e])
    simp only [List.singleton_append, cutL2, hx, false_and, if_false, and_self, if_true, Option.map_some]
  | x :: y :: a, r, h => by
    have hx : x ≠ 13 := fun e => h (by simp [e])
    have ih := cutL2_some (y :: a) r (fun e => h (List.mem_cons_of_mem _ e))
    simp only [List.cons_append] at ih ⊢
    simp only [cutL2, hx, false_and, if_false, ih, Option.map_some]
theorem cutL2_none : ∀ (a : List UInt8), (13 : UInt8) ∉ a → cutL2 a = none ∧ cutL2 (a ++ [13]) = none
  | [], _ => ⟨rfl, rfl⟩
  | [x], h => by
    have hx : x ≠ 13 := fun e => h (by simp [e])
    exact ⟨rfl, by simp [cutL2, hx]⟩
  | x :: y :: a, h => by
    have hx : x ≠ 13 := fun e => h (by simp [e])
    obtain ⟨h1, h2⟩ := cutL2_none (y :: a) (fun e => h (List.mem_cons_of_mem _ e))
    simp only [List.cons_append] at h2 ⊢
    exact ⟨by simp only [cutL2, hx, false_and, if_false, h1, Option.map_none], by simp only [cutL2, hx, false_and, if_false, h2, Option.map_none]⟩
theorem cutL2_text : ∀ {l a r : List UInt8}, cutL2 l = some (a, r) → l = a ++ 13 :: 10 :: r
  | [], _, _, h => by simp [cutL2] at h
  | [_], _, _, h => by simp [cutL2] at h
  | x :: y :: l, a, r, h => by
    unfold cutL2 at h
    split at h
    · rename_i hc
      injection h with h; injection h with h1 h2; subst h1; subst h2
      rw [hc.1, hc.2]; rfl
    · obtain ⟨⟨p, q⟩, hp, he⟩ := Option.map_eq_some_iff.1 h
      injection he with h1 h2; subst h1; subst h2
      rw [cutL2_text hp]; rfl
/-- 0: it is a field. -/
def chkF (f : Fp) : Int :=
  if Tok.isTok f.1 = false then 3 else if 30 < f.1.size ∨ 1000 < f.2.size then 2 else if sl f.2 ≠ Tok.trimL (sl f.2) then 3 else if (sl f.2).all Tok.plainB = true then 0 else 3
theorem chkF_code (f : Fp) : chkF f = 0 ∨ 2 ≤ chkF f ∧ chkF f ≤ 3 := by
  unfold chkF
  split
  · omega
  · split
    · omega
    · split
      · omega
      · split <;> omega
structure GoodF (f : Fp) : Prop where
  name : Tok.isTok f.1 = true
  n30 : f.1.size ≤ 30
  v1000 : f.2.size ≤ 1000
  trim : Tok.trimL (sl f.2) = sl f.2
  plain : (sl f.2).all Tok.plainB = true
theorem goodF_iff (f : Fp) : chkF f = 0 ↔ GoodF f := by
  constructor
  · intro h
    unfold chkF at h
    split at h
    · cases h
    · rename_i h1
      split at h
      · cases h
      · rename_i h2
        split at h
        · cases h
        · rename_i h3
          split at h
          · rename_i h4
            refine ⟨by simpa using h1, by omega, by omega, ?_, h4⟩
            by_cases he : sl f.2 = Tok.trimL (sl f.2)
            · exact he.symm
            · exact absurd he h3
          · cases h
  · rintro ⟨h1, h2, h3, h4, h5⟩
    unfold chkF
    rw [if_neg (by rw [h1]; simp), if_neg (by omega), if_neg (by rw [h4]; simp), if_pos h5]
/-- The first that is none. -/
def chkL : List Fp → Int
  | [] => 0
  | f :: l => if chkF f = 0 then chkL l else chkF f
def chkAll (l : List Fp) : Int := if 30 < l.length then 2 else chkL l
theorem chkL_good : ∀ (l : List Fp), chkL l = 0 ↔ ∀ f ∈ l, GoodF f
  | [] => by simp [chkL]
  | f :: l => by
    unfold chkL
    by_cases h : chkF f = 0
    · rw [if_pos h, chkL_good l]
      have := (goodF_iff f).1 h
      simp [this]
    · rw [if_neg h]
      constructor
      · intro e; exact absurd e h
      · intro e; exact absurd ((goodF_iff f).2 (e f (by simp))) h
theorem chkL_code : ∀ (l : List Fp), chkL l = 0 ∨ 2 ≤ chkL l ∧ chkL l ≤ 3
  | [] => .inl rfl
  | f :: l => by
    unfold chkL
    split
    · exact chkL_code l
    · have := chkF_code f; omega
def lineF (f : Fp) : List UInt8 := sl f.1 ++ (58 :: 32 :: sl f.2)
def linesF (l : List Fp) : List UInt8 := l.flatMap (fun f => lineF f ++ [13, 10])
def printF (l : List Fp) : List UInt8 := linesF l ++ [13, 10]
theorem linesF_cons (f : Fp) (l : List Fp) : linesF (f :: l) = lineF f ++ (13 :: 10 :: linesF l) := by simp [linesF]
theorem printF_cons (f : Fp) (l : List Fp) : printF (f :: l) = lineF f ++ (13 :: 10 :: printF l) := by simp [printF, linesF]
theorem lineF_len {f : Fp} (h : GoodF f) : (lineF f).length ≤ 1032 ∧ 2 ≤ (lineF f).length := by
  have := h.n30; have := h.v1000
  unfold lineF
  rw [List.length_append, List.length_cons, List.length_cons, sl_len, sl_len]; omega
theorem lineF_no13 {f : Fp} (h : GoodF f) : (13 : UInt8) ∉ lineF f := by
  unfold lineF
  have h1 := tok_no h.name (c := 13) (by decide)
  have h2 : (13 : UInt8) ∉ sl f.2 := fun hm => by
    have := List.all_eq_true.1 h.plain 13 hm
    revert this; decide
  simp [h1, h2]
theorem trim_space {l : List UInt8} (h : Tok.trimL l = l) : Tok.trimL (32 :: l) = l := by
  have e : (32 :: l : List UInt8).dropWhile Tok.blankB = l.dropWhile Tok.blankB := Tok.dw_cons_true rfl
  have : Tok.trimL (32 :: l) = Tok.trimL l := by unfold Tok.trimL; rw [e]
  rw [this, h]
theorem trim_twice (l : List UInt8) : Tok.trimL (Tok.trimL l) = Tok.trimL l := by
  have hd : ∀ m : List UInt8, (m.dropWhile Tok.blankB).dropWhile Tok.blankB = m.dropWhile Tok.blankB := by
    intro m
    induction m with
    | nil => rfl
    | cons x m ih =>
      cases hx : Tok.blankB x
      · rw [Tok.dw_cons_false hx, Tok.dw_cons_false hx]
      · rw [Tok.dw_cons_true hx]; exact ih
  have key : ∀ m : List UInt8, m.dropWhile Tok.blankB = m → ((m.reverse.dropWhile Tok.blankB).reverse).dropWhile Tok.blankB = (m.reverse.dropWhile Tok.blankB).reverse := by
    intro m hm
    cases m with
    | nil => rfl
    | cons x m =>
      have hx : Tok.blankB x = false := by
        cases hx : Tok.blankB x
        · rfl
        · rw [Tok.dw_cons_true hx] at hm
          have := congrArg List.length hm
          have h2 := (List.dropWhile_sublist (p := Tok.blankB) (l := m)).length_le
          simp at this; omega
      obtain ⟨a, ha⟩ : ∃ a, (x :: m).reverse.dropWhile Tok.blankB = a ++ [x] := by
        have : ∀ b : List UInt8, ∃ a, (b ++ [x]).dropWhile Tok.blankB = a ++ [x] := by
          intro b
          induction b with
          | nil => exact ⟨[], by rw [List.nil_append, Tok.dw_cons_false hx]⟩
          | cons y b ih =>
            cases hy : Tok.blankB y
            · exact ⟨y :: b, by rw [List.cons_append, Tok.dw_cons_false hy]⟩
            · obtain ⟨a, ha⟩ := ih
              exact ⟨a, by rw [List.cons_append, Tok.dw_cons_true hy, ha]⟩
        rw [List.reverse_cons]; exact this _
      rw [ha, List.reverse_append, List.reverse_singleton, List.singleton_append, Tok.dw_cons_false hx]
  unfold Tok.trimL
  rw [key _ (hd l), List.reverse_reverse, hd]
/-- One line: a field, or why there is none. -/
def fieldL (line : List UInt8) : Except Int Fp :=
  match cutC 58 line with
  | none => .error 3
  | some (a, b) => if Tok.isTok (mkS a) = true then (if chkF (mkS a, mkS (Tok.trimL b)) = 0 then .ok (mkS a, mkS (Tok.trimL b)) else .error (chkF (mkS a, mkS (Tok.trimL b)))) else .error 3
theorem fieldL_line {f : Fp} (h : GoodF f) : fieldL (lineF f) = .ok f := by
  have h1 := tok_no h.name (c := 58) (by decide)
  have e : cutC 58 (lineF f) = some (sl f.1, 32 :: sl f.2) := cutC_some rfl h1
  unfold fieldL
  rw [e]
  simp only [mkS_sl, h.name, if_true, trim_space h.trim]
  rw [if_pos ((goodF_iff (f.1, f.2)).2 h)]
theorem fieldL_good {line : List UInt8} {f : Fp} (h : fieldL line = .ok f) : GoodF f := by
  unfold fieldL at h
  split at h
  · cases h
  · split at h
    · split at h
      · rename_i hc
        injection h with h; subst h
        exact (goodF_iff _).1 hc
      · cases h
    · cases h
theorem fieldL_code {line : List UInt8} {c : Int} (h : fieldL line = .error c) : 2 ≤ c ∧ c ≤ 3 := by
  unfold fieldL at h
  split at h
  · injection h with h; omega
  · split at h
    · split at h
      · cases h
      · rename_i hc
        injection h with h
        subst h
        rcases chkF_code _ with h0 | h0
        · exact absurd h0 hc
        · exact h0
    · injection h with h; omega
/-- What Parse answers: the fields, and what is behind them. k: how many there are already. -/
def parseF : Nat → Nat → List UInt8 → Except Int (List Fp × List UInt8)
  | 0, _, rest => .error (if 1101 < rest.length then 2 else 8)
  | n + 1, k, rest =>
    match cutL2 rest with
    | none => .error (if 1101 < rest.length then 2 else 8)
    | some (line, r) => if line = [] then .ok ([], r) else if 1100 < line.length ∨ k = 30 then .error 2 else
      match fieldL line with
      | .error c => .error c
      | .ok f => match parseF n (k + 1) r with
        | .error c => .error c
        | .ok (l, r') => .ok (f :: l, r')
theorem cutL2_short {rest line r : List UInt8} (h : cutL2 rest = some (line, r)) : r.length + 2 ≤ rest.length ∧ rest.length = line.length + 2 + r.length := by
  rw [cutL2_text h]; simp; omega
/-- Fuel enough is as good as more. -/
theorem parseF_fuel : ∀ (n m k : Nat) (rest : List UInt8), rest.length ≤ n → rest.length ≤ m → parseF n k rest = parseF m k rest
  | 0, 0, _, _, _, _ => rfl
  | 0, m + 1, k, rest, h, _ => by
    obtain rfl : rest = [] := List.eq_nil_of_length_eq_zero (by omega)
    simp [parseF, cutL2]
  | n + 1, 0, k, rest, _, h => by
    obtain rfl : rest = [] := List.eq_nil_of_length_eq_zero (by omega)
    simp [parseF, cutL2]
  | n + 1, m + 1, k, rest, hn, hm => by
    unfold parseF
    cases hc : cutL2 rest with
    | none => rfl
    | some p =>
      obtain ⟨line, r⟩ := p
      have hs := cutL2_short hc
      dsimp only
      rw [parseF_fuel n m (k + 1) r (by omega) (by omega)]
def parseA (rest : List UInt8) : Except Int (List Fp × List UInt8) := parseF rest.length 0 rest
/-- Printed fields, and what is behind them. -/
theorem parse_print : ∀ (l : List Fp) (k n : Nat) (rest : List UInt8), (∀ f ∈ l, GoodF f) → k + l.length ≤ 30 → (printF l ++ rest).length ≤ n → parseF n k (printF l ++ rest) = .ok (l, rest)
  | [], k, 0, rest, _, _, hn => by simp [printF] at hn
  | [], k, n + 1, rest, _, _, _ => by
    have e : cutL2 (printF [] ++ rest) = some ([], rest) := cutL2_some [] rest (by simp)
    unfold parseF
    rw [e]
    simp
  | f :: l, k, 0, rest, _, _, hn => by rw [printF_cons] at hn; simp at hn
  | f :: l, k, n + 1, rest, hg, hk, hn => by
    have hf := hg f (by simp)
    have hl := lineF_len hf
    have e : cutL2 (printF (f :: l) ++ rest) = some (lineF f, printF l ++ rest) := by
      rw [printF_cons, List.append_assoc, List.cons_append, List.cons_append]
      exact cutL2_some _ _ (lineF_no13 hf)
    have hs := cutL2_short e
    simp only [List.length_cons] at hk
    have ih := parse_print l (k + 1) n rest (fun x hx => hg x (by simp [hx])) (by omega) (by omega)
    unfold parseF
    rw [e]
    dsimp only
    rw [if_neg (by intro e0; rw [e0] at hl; simp at hl), if_neg (by omega), fieldL_line hf]
    dsimp only
    rw [ih]
/-- What is cut off too early. -/
theorem parse_cut : ∀ (l : List Fp) (k n at_ : Nat), (∀ f ∈ l, GoodF f) → k + l.length ≤ 30 → at_ < (printF l).length → at_ ≤ n → parseF n k ((printF l).take at_) = .error 8
  | l, k, 0, at_, _, _, _, hn => by
    obtain rfl : at_ = 0 := by omega
    simp [parseF]
  | [], k, n + 1, at_, _, _, ha, _ => by
    have : at_ = 0 ∨ at_ = 1 := by simp [printF, linesF] at ha; omega
    rcases this with rfl | rfl <;> simp [printF, linesF, parseF, cutL2]
  | f :: l, k, n + 1, at_, hg, hk, ha, hn => by
    have hf := hg f (by simp)
    have hl := lineF_len hf
    have h13 := lineF_no13 hf
    simp only [List.length_cons] at hk
    by_cases h : at_ < (lineF f).length + 2
    · have hno : cutL2 ((printF (f :: l)).take at_) = none := by
        rw [printF_cons, List.take_append]
        by_cases h1 : at_ ≤ (lineF f).length
        · rw [show at_ - (lineF f).length = 0 from by omega, List.take_zero, List.append_nil]
          exact (cutL2_none _ (fun hm => h13 (List.mem_of_mem_take hm))).1
        · rw [show at_ - (lineF f).length = 1 from by omega, List.take_of_length_le (by omega)]
          exact (cutL2_none _ h13).2
      have hlen : ((printF (f :: l)).take at_).length ≤ 1101 := by rw [List.length_take]; omega
      unfold parseF
      rw [hno]
      dsimp only
      rw [if_neg (by omega)]
    · obtain ⟨m, rfl⟩ : ∃ m, at_ = (lineF f).length + 2 + m := ⟨at_ - ((lineF f).length + 2), by omega⟩
      have e0 : (printF (f :: l)).take ((lineF f).length + 2 + m) = lineF f ++ 13 :: 10 :: (printF l).take m := by
        rw [printF_cons, List.take_append, List.take_of_length_le (by omega), show (lineF f).length + 2 + m - (lineF f).length = m + 1 + 1 from by omega, List.take_succ_cons, List.take_succ_cons]
      have e : cutL2 ((printF (f :: l)).take ((lineF f).length + 2 + m)) = some (lineF f, (printF l).take m) := by
        rw [e0]; exact cutL2_some _ _ h13
      have hm : m < (printF l).length := by
        rw [printF_cons] at ha; simp at ha; omega
      have ih := parse_cut l (k + 1) n m (fun x hx => hg x (by simp [hx])) (by omega) hm (by omega)
      unfold parseF
      rw [e]
      dsimp only
      rw [if_neg (by intro e0; rw [e0] at hl; simp at hl), if_neg (by omega), fieldL_line hf]
      dsimp only
      rw [ih]
/-- What was parsed is in order. -/
theorem parse_good : ∀ (n k : Nat) (rest : List UInt8) (l : List Fp) (r : List UInt8), k ≤ 30 → parseF n k rest = .ok (l, r) → (∀ f ∈ l, GoodF f) ∧ k + l.length ≤ 30 ∧ r.length + 2 ≤ rest.length
  | 0, k, rest, l, r, _, h => by cases h
  | n + 1, k, rest, l, r, hk, h => by
    unfold parseF at h
    cases hc : cutL2 rest with
    | none => rw [hc] at h; cases h
    | some p =>
      obtain ⟨line, s⟩ := p
      have hs := cutL2_short hc
      rw [hc] at h
      dsimp only at h
      split at h
      · injection h with h; injection h with h1 h2; subst h1; subst h2
        exact ⟨(fun f hf => by cases hf), by simpa using hk, by omega⟩
      · split at h
        · cases h
        · rename_i hk2
          cases hfl : fieldL line with
          | error c => rw [hfl] at h; cases h
          | ok f =>
            rw [hfl] at h
            dsimp only at h
            cases hp : parseF n (k + 1) s with
            | error c => rw [hp] at h; cases h
            | ok q =>
              obtain ⟨l', r'⟩ := q
              rw [hp] at h
              injection h with h; injection h with h1 h2; subst h1; subst h2
              obtain ⟨i1, i2, i3⟩ := parse_good n (k + 1) s l' r' (by omega) hp
              refine ⟨fun x hx => ?_, by simp only [List.length_cons]; omega, by omega⟩
              rcases List.mem_cons.1 hx with rfl | hx
              · exact fieldL_good hfl
              · exact i1 x hx
theorem parse_code : ∀ (n k : Nat) (rest : List UInt8) (c : Int), parseF n k rest = .error c → 2 ≤ c ∧ c ≤ 8
  | 0, k, rest, c, h => by
    unfold parseF at h
    injection h with h; subst h; split <;> omega
  | n + 1, k, rest, c, h => by
    unfold parseF at h
    cases hc : cutL2 rest with
    | none => rw [hc] at h; injection h with h; subst h; split <;> omega
    | some p =>
      obtain ⟨line, s⟩ := p
      rw [hc] at h
      dsimp only at h
      split at h
      · cases h
      · split at h
        · injection h with h; omega
        · cases hfl : fieldL line with
          | error d => rw [hfl] at h; injection h with h; subst h; have := fieldL_code hfl; omega
          | ok f =>
            rw [hfl] at h
            dsimp only at h
            cases hp : parseF n (k + 1) s with
            | error d => rw [hp] at h; injection h with h; subst h; exact parse_code n (k + 1) s d hp
            | ok q => rw [hp] at h; cases h
end Go.Proofs.YtoalfjkbgeiggaaGreatDoor
namespace Go.Proofs.YtoalfjkbgeiggaaGreatDoor
set_option maxRecDepth 20000
open Go.RowKit
namespace Ck
def hexB (c : UInt8) : Bool := (48 ≤ c && c ≤ 57) || (97 ≤ c && c ≤ 102) || (65 ≤ c && c ≤ 70)
def hexV (c : UInt8) : Nat := if c.toNat ≤ 57 then c.toNat - 48 else if 97 ≤ c.toNat then c.toNat - 87 else c.toNat - 55
def hexN (l : List UInt8) : Nat := l.foldl (fun n c => 16 * n + hexV c) 0
/-- What stands ahead, at most m bytes of a kind. -/
def pre (m : Nat) (p : UInt8 → Bool) (s : List UInt8) : List UInt8 := (s.take m).takeWhile p
/-- The digits ahead. -/
def digs (s : List UInt8) : List UInt8 := pre 4 hexB s
/-- Where the head's line ends: behind its digits and what follows a semicolon. -/
def headEnd (s : List UInt8) : Nat :=
  let n := (digs s).length
  if 0 < n ∧ s[n]? = some 59 then n + 1 + (pre 50 Tok.plainB (s.drop (n + 1))).length else n
inductive St where
  | head : St
  | data : Nat → St
  | trailer : St
/-- What a step answers: nothing yet; an error; so many bytes taken, what comes next, the body; it is all there, so many bytes taken. -/
inductive Ans where
  | short : Ans
  | err : Int → Ans
  | go : Nat → St → List UInt8 → Ans
  | fin : Nat → Ans
/-- At a line's end. -/
def atEnd (rest : List UInt8) (k : Ans) : Ans :=
  match rest with
  | [] => .short
  | [13] => .short
  | 13 :: 10 :: _ => k
  | _ => .err 3
def step (st : St) (body s : List UInt8) : Ans :=
  match st with
  | .head =>
    if (digs s).length = 0 ∧ s ≠ [] then .err 3
    else atEnd (s.drop (headEnd s)) (if 5000 < body.length + hexN (digs s) then .err 2 else .go (headEnd s + 2) (if hexN (digs s) = 0 then .trailer else .data (hexN (digs s))) body)
  | .data left => if s.length ≤ left then .short else atEnd (s.drop left) (.go (left + 2) .head (body ++ s.take left))
  | .trailer => match parseA s with
    | .error c => if c = 8 then .short else .err c
    | .ok (_, r) => .fin (s.length - r.length)
inductive Res where
  | short : St → List UInt8 → List UInt8 → Res
  | err : Int → Res
  | done : List UInt8 → List UInt8 → Res
def run : Nat → St → List UInt8 → List UInt8 → Res
  | 0, st, body, s => .short st body s
  | n + 1, st, body, s => match step st body s with
    | .short => .short st body s
    | .err c => .err c
    | .go k st' body' => run n st' body' (s.drop k)
    | .fin k => .done body (s.drop k)
/-! ### More bytes behind. -/
theorem tw_more {p : UInt8 → Bool} : ∀ (l t : List UInt8), (l.takeWhile p).length < l.length → (l ++ t).takeWhile p = l.takeWhile p
  | [], t, h => by simp at h
  | x :: l, t, h => by
    rw [List.cons_append, List.takeWhile_cons, List.takeWhile_cons]
    cases hp : p x with
    | false => simp
    | true =>
      rw [List.takeWhile_cons, hp] at h
      simp only [if_true, List.length_cons] at h
      simp only [if_true]
      rw [tw_more l t (by omega)]
theorem pre_more {m : Nat} {p : UInt8 → Bool} {s : List UInt8} (t : List UInt8) (h : (pre m p s).length < s.length) : pre m p (s ++ t) = pre m p s := by
  unfold pre at *
  by_cases hm : m ≤ s.length
  · rw [List.take_append_of_le_length hm]
  · have e1 : s.take m = s := List.take_of_length_le (by omega)
    rw [e1] at h ⊢
    rw [List.take_append, e1]
    exact tw_more s _ h
theorem rest_cases (rest : List UInt8) : (rest = [] ∨ rest = [13]) ∨ (∃ r, rest = 13 :: 10 :: r) ∨ (∀ t k, atEnd (rest ++ t) k = .err 3) := by
  match rest with
  | [] => exact .inl (.inl rfl)
  | [x] =>
    by_cases hx : x = 13
    · subst hx; exact .inl (.inr rfl)
    · refine .inr (.inr fun t k => ?_)
      rw [List.singleton_append]
      unfold atEnd
      split
      · rename_i h; cases h
      · rename_i h; injection h with h; exact absurd h hx
      · rename_i h; injection h with h; exact absurd h hx
      · rfl
  | x :: y :: r =>
    by_cases hxy : x = 13 ∧ y = 10
    · obtain ⟨rfl, rfl⟩ := hxy
      exact .inr (.inl ⟨r, rfl⟩)
    · refine .inr (.inr fun t k => ?_)
      rw [List.cons_append, List.cons_append]
      unfold atEnd
      split
      · rename_i h; cases h
      · rename_i h; injection h with _ h; cases h
      · rename_i h; injection h with h1 h; injection h with h2 _; exact absurd ⟨h1, h2⟩ hxy
      · rfl
/-! ### Fields, and more behind. -/
theorem cutL2_more : ∀ {s a r : List UInt8} (t : List UInt8), cutL2 s = some (a, r) → cutL2 (s ++ t) = some (a, r ++ t)
  | [], _, _, _, h => by simp [cutL2] at h
  | [_], _, _, _, h => by simp [cutL2] at h
  | x :: y :: l, a, r, t, h => by
    rw [List.cons_append, List.cons_append]
    unfold cutL2 at h ⊢
    split at h
    · rename_i hc
      injection h with h; injection h with h1 h2; subst h1; subst h2
      rw [if_pos hc]
    · rename_i hc
      rw [if_neg hc]
      obtain ⟨⟨p, q⟩, hp, he⟩ := Option.map_eq_some_iff.1 h
      injection he with h1 h2; subst h1; subst h2
      have := cutL2_more t hp
      rw [List.cons_append] at this
      rw [this]; rfl
theorem cutL2_has : ∀ (x y : List UInt8), cutL2 (x ++ 13 :: 10 :: y) ≠ none
  | [], y => by simp [cutL2]
  | [a], y => by
    show cutL2 (a :: 13 :: 10 :: y) ≠ none
    unfold cutL2
    split
    · simp
    · rw [show cutL2 (13 :: 10 :: y) = some ([], y) from by simp [cutL2]]; simp
  | a :: b :: x, y => by
    have ih := cutL2_has (b :: x) y
    rw [List.cons_append] at ih
    rw [List.cons_append, List.cons_append]
    unfold cutL2
    split
    · simp
    · cases hc : cutL2 (b :: (x ++ 13 :: 10 :: y)) with
      | none => exact absurd hc ih
      | some p => simp
theorem cutL2_far {s t a r : List UInt8} (h : cutL2 s = none) (h2 : cutL2 (s ++ t) = some (a, r)) : s.length ≤ a.length + 1 := by
  by_cases hl : s.length ≤ a.length + 1
  · exact hl
  · have ht := cutL2_text h2
    have hs : s = a ++ 13 :: 10 :: (r.take (s.length - (a.length + 2))) := by
      have := congrArg (List.take s.length) ht
      rw [List.take_left' rfl, List.take_append, List.take_of_length_le (by omega)] at this
      obtain ⟨k, hk⟩ : ∃ k, s.length - a.length = k + 2 := ⟨s.length - a.length - 2, by omega⟩
      rw [hk, List.take_succ_cons, List.take_succ_cons] at this
      rw [show s.length - (a.length + 2) = k by omega]
      exact this
    exact absurd (hs ▸ h) (cutL2_has _ _)
theorem parseF_more : ∀ (n m k : Nat) (rest t : List UInt8), rest.length ≤ n → (rest ++ t).length ≤ m →
    (∀ l r, parseF n k rest = .ok (l, r) → parseF m k (rest ++ t) = .ok (l, r ++ t)) ∧ (∀ c, parseF n k rest = .error c → c ≠ 8 → parseF m k (rest ++ t) = .error c)
  | n, m, k, rest, t, hn, hm => by
    rw [parseF_fuel n (n + 1) k rest hn (by omega), parseF_fuel m (m + 1) k (rest ++ t) hm (by omega)]
    cases hc : cutL2 rest with
    | none =>
      have e : parseF (n + 1) k rest = .error (if 1101 < rest.length then 2 else 8) := by unfold parseF; rw [hc]
      rw [e]
      refine ⟨fun l r h => (by cases h), fun c h h8 => ?_⟩
      injection h with h
      by_cases hl : 1101 < rest.length
      · rw [if_pos hl] at h
        subst h
        unfold parseF
        cases hc2 : cutL2 (rest ++ t) with
        | none => dsimp only; rw [if_pos (by rw [List.length_append]; omega)]
        | some p =>
          obtain ⟨a, r⟩ := p
          have := cutL2_far hc hc2
          dsimp only
          rw [if_neg (by intro e; rw [e] at this; simp at this; omega), if_pos (.inl (by omega))]
      · rw [if_neg hl] at h; exact absurd h.symm h8
    | some p =>
      obtain ⟨a, r0⟩ := p
      have hc2 := cutL2_more t hc
      have hsh := cutL2_short hc
      unfold parseF
      rw [hc, hc2]
      dsimp only
      by_cases ha : a = []
      · rw [if_pos ha, if_pos ha]
        refine ⟨fun l r h => ?_, fun c h => (by cases h)⟩
        injection h with h; injection h with h1 h2; subst h1; subst h2; rfl
      · rw [if_neg ha, if_neg ha]
        by_cases hb : 1100 < a.length ∨ k = 30
        · rw [if_pos hb, if_pos hb]
          exact ⟨fun l r h => (by cases h), fun c h _ => h⟩
        · rw [if_neg hb, if_neg hb]
          cases hf : fieldL a with
          | error c => exact ⟨fun l r h => (by cases h), fun c h _ => h⟩
          | ok f =>
            match n, hn with
            | 0, hn => omega
            | n + 1, hn =>
              match m, hm with
              | 0, hm => rw [List.length_append] at hm; omega
              | m + 1, hm =>
                obtain ⟨i1, i2⟩ := parseF_more n m (k + 1) r0 t (by omega) (by rw [List.length_append] at hm ⊢; omega)
                have f1 : parseF (n + 1) (k + 1) r0 = parseF n (k + 1) r0 := parseF_fuel _ _ _ _ (by omega) (by omega)
                have f2 : parseF (m + 1) (k + 1) (r0 ++ t) = parseF m (k + 1) (r0 ++ t) := parseF_fuel _ _ _ _ (by rw [List.length_append] at hm ⊢; omega) (by rw [List.length_append] at hm ⊢; omega)
                dsimp only
                rw [f1, f2]
                cases hp : parseF n (k + 1) r0 with
                | error c =>
                  refine ⟨fun l r h => (by cases h), fun c' h h8 => ?_⟩
                  injection h with h
                  subst h
                  rw [i2 c hp h8]
                | ok q =>
                  obtain ⟨l', r'⟩ := q
                  refine ⟨fun l r h => ?_, fun c h => (by cases h)⟩
                  injection h with h; injection h with h1 h2; subst h1; subst h2
                  rw [i1 _ _ hp]
  termination_by n => n
theorem parseA_more {s r : List UInt8} {fs : List Fp} (t : List UInt8) (h : parseA s = .ok (fs, r)) : parseA (s ++ t) = .ok (fs, r ++ t) := (parseF_more s.length (s ++ t).length 0 s t (Nat.le_refl _) (Nat.le_refl _)).1 fs r h
theorem parseA_err {s : List UInt8} {c : Int} (t : List UInt8) (h : parseA s = .error c) (h8 : c ≠ 8) : parseA (s ++ t) = .error c := (parseF_more s.length (s ++ t).length 0 s t (Nat.le_refl _) (Nat.le_refl _)).2 c h h8
theorem parseA_len : ∀ (n k : Nat) {s r : List UInt8} {fs : List Fp}, parseF n k s = .ok (fs, r) → r.length ≤ s.length
  | 0, _, _, _, _, h => by cases h
  | n + 1, k, s, r, fs, h => by
    unfold parseF at h
    cases hc : cutL2 s with
    | none => rw [hc] at h; cases h
    | some p =>
      obtain ⟨a, r0⟩ := p
      have hsh := cutL2_short hc
      rw [hc] at h
      dsimp only at h
      split at h
      · injection h with h; injection h with _ h; subst h; omega
      · split at h
        · cases h
        · split at h
          · cases h
          · split at h
            · cases h
            · rename_i l' r' hp
              injection h with h; injection h with _ h; subst h
              have := parseA_len n (k + 1) hp
              omega
end Ck
end Go.Proofs.YtoalfjkbgeiggaaGreatDoor
namespace Go.Proofs.YtoalfjkbgeiggaaGreatDoor
set_option maxRecDepth 20000
open Go.RowKit
namespace Ck
theorem atEnd_ok (r : List UInt8) (k : Ans) : atEnd (13 :: 10 :: r) k = k := rfl
theorem atEnd_short {rest : List UInt8} (h : rest = [] ∨ rest = [13]) (k : Ans) : atEnd rest k = .short := by
  rcases h with rfl | rfl <;> rfl
theorem step_head (body s : List UInt8) : step .head body s = if (digs s).length = 0 ∧ s ≠ [] then .err 3
    else atEnd (s.drop (headEnd s)) (if 5000 < body.length + hexN (digs s) then .err 2 else .go (headEnd s + 2) (if hexN (digs s) = 0 then .trailer else .data (hexN (digs s))) body) := rfl
theorem step_data (left : Nat) (body s : List UInt8) : step (.data left) body s = if s.length ≤ left then .short else atEnd (s.drop left) (.go (left + 2) .head (body ++ s.take left)) := rfl
theorem step_trailer (body s : List UInt8) : step .trailer body s = match parseA s with
    | .error c => if c = 8 then .short else .err c
    | .ok (_, r) => .fin (s.length - r.length) := rfl
theorem headEnd_ge (s : List UInt8) : (digs s).length ≤ headEnd s := by
  unfold headEnd
  dsimp only
  split <;> omega
theorem drop_app {s t : List UInt8} {e : Nat} (h : e ≤ s.length) : (s ++ t).drop e = s.drop e ++ t := List.drop_append_of_le_length h
theorem headEnd_more {s : List UInt8} (t : List UInt8) (h : headEnd s < s.length) : digs (s ++ t) = digs s ∧ headEnd (s ++ t) = headEnd s := by
  have hd : digs (s ++ t) = digs s := pre_more t (by have := headEnd_ge s; unfold digs at this; omega)
  refine ⟨hd, ?_⟩
  have hge := headEnd_ge s
  unfold headEnd at h hge ⊢
  rw [hd]
  dsimp only at h hge ⊢
  have hn : (digs s).length < s.length := by omega
  rw [List.getElem?_append_left hn]
  split
  · rename_i hc
    rw [if_pos hc] at h
    rw [drop_app (by omega), pre_more t (by rw [List.length_drop]; omega)]
  · rfl
/-- What a step does stays as it is when more comes, unless it waits. -/
theorem step_more (st : St) (body s t : List UInt8) (hs : step st body s ≠ .short) : step st body (s ++ t) = step st body s ∧ (∀ k st' b, step st body s = .go k st' b → 2 ≤ k ∧ k ≤ s.length) ∧ (∀ k, step st body s = .fin k → k ≤ s.length) := by
  cases st with
  | head =>
    by_cases h0 : (digs s).length = 0 ∧ s ≠ []
    · have hl : 0 < s.length := by
        cases s with
        | nil => exact absurd rfl h0.2
        | cons a l => simp
      have hd : digs (s ++ t) = digs s := pre_more t (by have := h0.1; unfold digs at this; omega)
      have e1 : step .head body s = .err 3 := by rw [step_head, if_pos h0]
      have e2 : step .head body (s ++ t) = .err 3 := by
        rw [step_head]
        rw [hd, if_pos ⟨h0.1, fun e => h0.2 (List.append_eq_nil_iff.1 e).1⟩]
      rw [e1, e2]
      exact ⟨rfl, fun _ _ _ h => (by cases h), fun _ h => (by cases h)⟩
    · rcases rest_cases (s.drop (headEnd s)) with h | ⟨r, h⟩ | h
      · have : step .head body s = .short := by rw [step_head, if_neg h0]; exact atEnd_short h _
        exact absurd this hs
      · have hlen := congrArg List.length h
        rw [List.length_drop, List.length_cons, List.length_cons] at hlen
        obtain ⟨hd, he⟩ := headEnd_more t (s := s) (by omega)
        have h0' : ¬ ((digs (s ++ t)).length = 0 ∧ s ++ t ≠ []) := by
          rw [hd]
          rintro ⟨h1, _⟩
          exact h0 ⟨h1, fun e => by rw [e] at hlen; simp at hlen⟩
        have e2 : step .head body (s ++ t) = step .head body s := by
          rw [step_head, step_head]
          rw [if_neg h0, if_neg h0', hd, he, drop_app (by omega), h]
          rfl
        refine ⟨e2, ?_, ?_⟩
        · intro k st' b hk
          rw [step_head] at hk
          rw [if_neg h0, h, atEnd_ok] at hk
          by_cases h5 : 5000 < body.length + hexN (digs s)
          · rw [if_pos h5] at hk; cases hk
          · rw [if_neg h5] at hk; injection hk with hk _ _; omega
        · intro k hk
          rw [step_head] at hk
          rw [if_neg h0, h, atEnd_ok] at hk
          by_cases h5 : 5000 < body.length + hexN (digs s)
          · rw [if_pos h5] at hk; cases hk
          · rw [if_neg h5] at hk; cases hk
      · have e1 : step .head body s = .err 3 := by
          rw [step_head, if_neg h0]
          have := h [] (if 5000 < body.length + hexN (digs s) then .err 2 else .go (headEnd s + 2) (if hexN (digs s) = 0 then .trailer else .data (hexN (digs s))) body)
          rw [List.append_nil] at this
          exact this
        have hne : headEnd s < s.length := by
          rcases Nat.lt_or_ge (headEnd s) s.length with h1 | h1
          · exact h1
          · have h2 := h [] .short
            rw [List.drop_eq_nil_of_le h1, List.append_nil] at h2
            cases h2
        obtain ⟨hd, he⟩ := headEnd_more t hne
        have h0' : ¬ ((digs (s ++ t)).length = 0 ∧ s ++ t ≠ []) := by
          rw [hd]
          rintro ⟨h1, _⟩
          exact h0 ⟨h1, fun e => by rw [e] at hne; simp at hne⟩
        have e2 : step .head body (s ++ t) = .err 3 := by
          rw [step_head]
          rw [if_neg h0', he, drop_app (by omega)]
          exact h t _
        rw [e1, e2]
        exact ⟨rfl, fun _ _ _ h => (by cases h), fun _ h => (by cases h)⟩
  | data left =>
    by_cases hl : s.length ≤ left
    · exact absurd (by rw [step_data, if_pos hl]) hs
    · rcases rest_cases (s.drop left) with h | ⟨r, h⟩ | h
      · exact absurd (by rw [step_data, if_neg hl]; exact atEnd_short h _) hs
      · have hlen := congrArg List.length h
        rw [List.length_drop, List.length_cons, List.length_cons] at hlen
        refine ⟨?_, ?_, ?_⟩
        · rw [step_data, step_data]
          rw [if_neg hl, if_neg (by rw [List.length_append]; omega), drop_app (by omega), h, List.take_append_of_le_length (by omega)]
          rfl
        · intro k st' b hk
          rw [step_data] at hk
          rw [if_neg hl, h, atEnd_ok] at hk
          injection hk with hk _ _; omega
        · intro k hk
          rw [step_data] at hk
          rw [if_neg hl, h, atEnd_ok] at hk
          cases hk
      · have e1 : step (.data left) body s = .err 3 := by
          rw [step_data, if_neg hl]
          have := h [] (.go (left + 2) .head (body ++ s.take left))
          rw [List.append_nil] at this
          exact this
        have e2 : step (.data left) body (s ++ t) = .err 3 := by
          rw [step_data]
          rw [if_neg (by rw [List.length_append]; omega), drop_app (by omega)]
          exact h t _
        rw [e1, e2]
        exact ⟨rfl, fun _ _ _ h => (by cases h), fun _ h => (by cases h)⟩
  | trailer =>
    cases hp : parseA s with
    | error c =>
      by_cases h8 : c = 8
      · exact absurd (by rw [step_trailer, hp]; dsimp only; rw [if_pos h8]) hs
      · have e1 : step .trailer body s = .err c := by rw [step_trailer, hp]; dsimp only; rw [if_neg h8]
        have e2 : step .trailer body (s ++ t) = .err c := by rw [step_trailer, parseA_err t hp h8]; dsimp only; rw [if_neg h8]
        rw [e1, e2]
        exact ⟨rfl, fun _ _ _ h => (by cases h), fun _ h => (by cases h)⟩
    | ok q =>
      obtain ⟨fs, r⟩ := q
      have hr := parseA_len _ _ hp
      have e1 : step .trailer body s = .fin (s.length - r.length) := by rw [step_trailer, hp]
      have e2 : step .trailer body (s ++ t) = .fin (s.length - r.length) := by
        rw [step_trailer]
        rw [parseA_more t hp]
        dsimp only
        rw [List.length_append, List.length_append]
        congr 1
        omega
      rw [e1, e2]
      exact ⟨rfl, fun _ _ _ h => (by cases h), fun k h => by injection h with h; omega⟩
/-- Fuel enough is as good as more. -/
theorem run_fuel : ∀ (n m : Nat) (st : St) (body s : List UInt8), s.length < n → s.length < m → run n st body s = run m st body s
  | 0, _, _, _, _, h, _ => by omega
  | _, 0, _, _, _, _, h => by omega
  | n + 1, m + 1, st, body, s, hn, hm => by
    unfold run
    cases hs : step st body s with
    | short => rfl
    | err c => rfl
    | fin k => rfl
    | go k st' b =>
      obtain ⟨h1, h2⟩ := (step_more st body s [] (by rw [hs]; simp)).2.1 k st' b hs
      dsimp only
      exact run_fuel n m st' b (s.drop k) (by rw [List.length_drop]; omega) (by rw [List.length_drop]; omega)
def dec (st : St) (body s : List UInt8) : Res := run (s.length + 1) st body s
theorem dec_eq (st : St) (body s : List UInt8) : dec st body s = match step st body s with
    | .short => .short st body s
    | .err c => .err c
    | .go k st' b => dec st' b (s.drop k)
    | .fin k => .done body (s.drop k) := by
  unfold dec
  rw [run]
  cases hs : step st body s with
  | short => rfl
  | err c => rfl
  | fin k => rfl
  | go k st' b =>
    obtain ⟨h1, h2⟩ := (step_more st body s [] (by rw [hs]; simp)).2.1 k st' b hs
    dsimp only
    exact run_fuel _ _ st' b (s.drop k) (by rw [List.length_drop]; omega) (by omega)
/-- What was read of what has come is read so when more comes. -/
theorem dec_more : ∀ (n : Nat) (st : St) (body s t : List UInt8), s.length ≤ n →
    match dec st body s with
    | .done b r => dec st body (s ++ t) = .done b (r ++ t) ∧ r.length ≤ s.length
    | .err c => dec st body (s ++ t) = .err c
    | .short st' b r => dec st body (s ++ t) = dec st' b (r ++ t) ∧ r.length ≤ s.length
  | n, st, body, s, t, hn => by
    rw [dec_eq st body s]
    cases hs : step st body s with
    | short => exact ⟨rfl, Nat.le_refl _⟩
    | err c =>
      dsimp only
      rw [dec_eq, (step_more st body s t (by rw [hs]; simp)).1, hs]
    | fin k =>
      have hk := (step_more st body s t (by rw [hs]; simp)).2.2 k hs
      dsimp only
      rw [dec_eq, (step_more st body s t (by rw [hs]; simp)).1, hs]
      dsimp only
      exact ⟨by rw [drop_app hk], by rw [List.length_drop]; omega⟩
    | go k st' b =>
      obtain ⟨h1, h2⟩ := (step_more st body s t (by rw [hs]; simp)).2.1 k st' b hs
      have e : dec st body (s ++ t) = dec st' b (s.drop k ++ t) := by
        rw [dec_eq, (step_more st body s t (by rw [hs]; simp)).1, hs]
        dsimp only
        rw [drop_app h2]
      dsimp only
      match n, hn with
      | 0, hn => omega
      | n + 1, hn =>
        have ih := dec_more n st' b (s.drop k) t (by rw [List.length_drop]; omega)
        rw [e]
        cases hd : dec st' b (s.drop k) with
        | done b' r =>
          rw [hd] at ih
          dsimp only at ih ⊢
          exact ⟨ih.1, by have := ih.2; rw [List.length_drop] at this; omega⟩
        | err c => rw [hd] at ih; exact ih
        | short st2 b' r =>
          rw [hd] at ih
          dsimp only at ih ⊢
          exact ⟨ih.1, by have := ih.2; rw [List.length_drop] at this; omega⟩
end Ck
end Go.Proofs.YtoalfjkbgeiggaaGreatDoor
namespace Go.Proofs.YtoalfjkbgeiggaaGreatDoor
set_option maxRecDepth 20000
open Go.RowKit
namespace Ck
def hd (n : Nat) : UInt8 := if n < 10 then UInt8.ofNat (48 + n) else UInt8.ofNat (87 + n)
/-- A number of at most four digits. -/
def hexL (n : Nat) : List UInt8 :=
  if n < 16 then [hd n] else if n < 256 then [hd (n / 16), hd (n % 16)] else if n < 4096 then [hd (n / 256), hd (n / 16 % 16), hd (n % 16)] else [hd (n / 4096), hd (n / 256 % 16), hd (n / 16 % 16), hd (n % 16)]
def hexOk (n : Nat) : Bool := hexN (hexL n) == n && (hexL n).all hexB && decide (1 ≤ (hexL n).length) && decide ((hexL n).length ≤ 4)
theorem hexOk_all : ((List.range 5001).all hexOk) = true := by kernel_rfl
theorem hex_ok {n : Nat} (h : n ≤ 5000) : hexN (hexL n) = n ∧ (hexL n).all hexB = true ∧ 1 ≤ (hexL n).length ∧ (hexL n).length ≤ 4 := by
  have := List.all_eq_true.1 hexOk_all n (List.mem_range.2 (by omega))
  unfold hexOk at this
  simp only [Bool.and_eq_true, beq_iff_eq, decide_eq_true_eq] at this
  exact ⟨this.1.1.1, this.1.1.2, this.1.2, this.2⟩
theorem tw_all {p : UInt8 → Bool} {c : UInt8} (hc : p c = false) : ∀ (l r : List UInt8), l.all p = true → (l ++ c :: r).takeWhile p = l
  | [], r, _ => by rw [List.nil_append, List.takeWhile_cons, hc]; rfl
  | x :: l, r, h => by
    rw [List.all_cons, Bool.and_eq_true] at h
    rw [List.cons_append, List.takeWhile_cons, h.1, if_pos rfl, tw_all hc l r h.2]
theorem digs_line {l : List UInt8} (h : l.all hexB = true) (h4 : l.length ≤ 4) (r : List UInt8) : digs (l ++ 13 :: r) = l := by
  unfold digs pre
  by_cases h5 : l.length = 4
  · rw [List.take_left' h5]
    have := tw_all (p := hexB) (c := 13) (by decide) l [] h
    have e : l.takeWhile hexB = l := by
      clear this h4 h5
      induction l with
      | nil => rfl
      | cons x l ih =>
        rw [List.all_cons, Bool.and_eq_true] at h
        rw [List.takeWhile_cons, h.1, if_pos rfl, ih h.2]
    exact e
  · obtain ⟨k, hk⟩ : ∃ k, 4 - l.length = k + 1 := ⟨4 - l.length - 1, by omega⟩
    rw [List.take_append, List.take_of_length_le (by omega), hk, List.take_succ_cons]
    exact tw_all (by decide) l _ h
/-- A chunk's head. -/
theorem step_line {n : Nat} (hn : n ≤ 5000) (body r : List UInt8) (hb : body.length + n ≤ 5000) : step .head body (hexL n ++ 13 :: 10 :: r) = .go ((hexL n).length + 2) (if n = 0 then .trailer else .data n) body := by
  obtain ⟨h1, h2, h3, h4⟩ := hex_ok hn
  have hd := digs_line h2 h4 (10 :: r)
  have he : headEnd (hexL n ++ 13 :: 10 :: r) = (hexL n).length := by
    unfold headEnd
    rw [hd]
    dsimp only
    rw [if_neg]
    rintro ⟨_, h⟩
    rw [List.getElem?_append_right (Nat.le_refl _), Nat.sub_self] at h
    simp at h
  rw [step_head, hd, he, if_neg (by rintro ⟨h, _⟩; omega), List.drop_left' rfl, atEnd_ok, if_neg (by omega), h1]
def lastL : List UInt8 := [48, 13, 10, 13, 10]
def encL : Nat → Nat → List UInt8 → List UInt8
  | 0, _, _ => lastL
  | n + 1, size, s => if s = [] then lastL else hexL (min size s.length) ++ 13 :: 10 :: (s.take (min size s.length) ++ 13 :: 10 :: encL n size (s.drop (min size s.length)))
theorem dec_last (body rest : List UInt8) (hb : body.length ≤ 5000) : dec .head body (lastL ++ rest) = .done body rest := by
  have e : lastL ++ rest = hexL 0 ++ 13 :: 10 :: (13 :: 10 :: rest) := by rfl
  rw [dec_eq, e, step_line (by omega) body _ (by omega)]
  dsimp only
  rw [if_pos rfl]
  show dec .trailer body (13 :: 10 :: rest) = _
  have hp : parseA (13 :: 10 :: rest) = .ok ([], rest) := by
    unfold parseA
    rw [List.length_cons, parseF]
    rw [show cutL2 (13 :: 10 :: rest) = some ([], rest) from by simp [cutL2]]
    dsimp only
    rw [if_pos rfl]
  rw [dec_eq, step_trailer, hp]
  dsimp only
  rw [show (13 :: 10 :: rest).length - rest.length = 2 by simp only [List.length_cons]; omega]
  rfl
/-- BodyBack. -/
theorem dec_enc (size : Nat) (hs : 1 ≤ size) (rest : List UInt8) : ∀ (n : Nat) (s body : List UInt8), s.length ≤ n → body.length + s.length ≤ 5000 → dec .head body (encL n size s ++ rest) = .done (body ++ s) rest
  | 0, s, body, hn, hb => by
    obtain rfl : s = [] := List.eq_nil_of_length_eq_zero (by omega)
    rw [List.append_nil]
    exact dec_last body rest (by simpa using hb)
  | n + 1, s, body, hn, hb => by
    by_cases h0 : s = []
    · subst h0
      rw [List.append_nil, show encL (n + 1) size [] = lastL from by rw [encL, if_pos rfl]]
      exact dec_last body rest (by simpa using hb)
    · have hpos : 0 < s.length := by
        cases s with
        | nil => exact absurd rfl h0
        | cons a l => simp
      generalize hk : min size s.length = k
      have hk1 : 1 ≤ k := by omega
      have hks : k ≤ s.length := by omega
      have e : encL (n + 1) size s ++ rest = hexL k ++ 13 :: 10 :: (s.take k ++ 13 :: 10 :: (encL n size (s.drop k) ++ rest)) := by
        rw [encL, if_neg h0, hk]; simp
      have htk : (s.take k).length = k := by rw [List.length_take]; omega
      rw [e, dec_eq, step_line (by omega) body _ (by omega)]
      dsimp only
      rw [if_neg (by omega)]
      have d1 : (hexL k ++ 13 :: 10 :: (s.take k ++ 13 :: 10 :: (encL n size (s.drop k) ++ rest))).drop ((hexL k).length + 2) = s.take k ++ 13 :: 10 :: (encL n size (s.drop k) ++ rest) := by
        rw [show hexL k ++ 13 :: 10 :: (s.take k ++ 13 :: 10 :: (encL n size (s.drop k) ++ rest)) = (hexL k ++ [13, 10]) ++ (s.take k ++ 13 :: 10 :: (encL n size (s.drop k) ++ rest)) by simp, List.drop_left' (by simp)]
      rw [d1, dec_eq, step_data, if_neg (by simp only [List.length_append, List.length_cons, htk]; omega), List.drop_left' htk, atEnd_ok, List.take_left' htk]
      dsimp only
      have d2 : (s.take k ++ 13 :: 10 :: (encL n size (s.drop k) ++ rest)).drop (k + 2) = encL n size (s.drop k) ++ rest := by
        rw [show s.take k ++ 13 :: 10 :: (encL n size (s.drop k) ++ rest) = (s.take k ++ [13, 10]) ++ (encL n size (s.drop k) ++ rest) by simp, List.drop_left' (by simp only [List.length_append, List.length_cons, List.length_nil, htk])]
      rw [d2, dec_enc size hs rest n (s.drop k) (body ++ s.take k) (by rw [List.length_drop]; omega) (by rw [List.length_append, htk, List.length_drop]; omega), List.append_assoc, List.take_append_drop]
end Ck
end Go.Proofs.YtoalfjkbgeiggaaGreatDoor
