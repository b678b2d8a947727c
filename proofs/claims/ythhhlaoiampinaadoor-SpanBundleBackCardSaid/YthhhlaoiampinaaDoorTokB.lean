/- What Unquote computes. -/
import Derived.Test.YthhhlaoiampinaaDoorTokA
namespace Go.Proofs.YthhhlaoiampinaaDoor
set_option maxRecDepth 20000
open Go.RowKit
namespace Tok
def unq : List UInt8 → Option (List UInt8)
  | [] => some []
  | c :: r => if c == 92 then (match r with | [] => none | d :: r' => if plainB d then (unq r').map (d :: ·) else none)
    else if c == 34 then none else if plainB c then (unq r).map (c :: ·) else none
def unquoteL (l : List UInt8) : Option (List UInt8) := if l.length < 2 || l[0]? != some 34 || l[l.length - 1]? != some 34 then none else unq ((l.drop 1).take (l.length - 2))
end Tok
/-- What Unquote answers. -/
def UnqEnd (l : List UInt8) (e : Ending) : Prop :=
  (Tok.unquoteL l = none ∧ e = .returned (.tuple #[.string ByteArray.empty, .int .i64 3])) ∨
  ∃ b, Tok.unquoteL l = some b ∧ ((1000 < b.length ∧ e = .returned (.tuple #[.string ByteArray.empty, .int .i64 2])) ∨ (b.length ≤ 1000 ∧ e = .returned (.tuple #[.string (mkS b), .int .i64 0])))
theorem unq_plain (c : UInt8) (l : List UInt8) (h1 : (c == 92) = false) (h2 : (c == 34) = false) (h3 : Tok.plainB c = true) : Tok.unq (c :: l) = (Tok.unq l).map (c :: ·) := by
  rw [Tok.unq.eq_def]; simp [h1, h2, h3]
theorem unq_bad (c : UInt8) (l : List UInt8) (h1 : (c == 92) = false) (h : (c == 34) = true ∨ Tok.plainB c = false) : Tok.unq (c :: l) = none := by
  rw [Tok.unq.eq_def]; simp only [h1, Bool.false_eq_true, if_false]
  rcases h with h | h <;> simp [h]
theorem unq_esc (c d : UInt8) (l : List UInt8) (h1 : (c == 92) = true) : Tok.unq (c :: d :: l) = if Tok.plainB d then (Tok.unq l).map (d :: ·) else none := by
  rw [Tok.unq.eq_def]; simp only [h1, if_true]
theorem unq_esc_end (c : UInt8) (h1 : (c == 92) = true) : Tok.unq [c] = none := by
  rw [Tok.unq.eq_def]; simp only [h1, if_true]
theorem map_snoc {o : Option (List UInt8)} {acc : List UInt8} {d : UInt8} : (o.map (d :: ·)).map (acc ++ ·) = o.map ((acc ++ [d]) ++ ·) := by
  cases o <;> simp
end Go.Proofs.YthhhlaoiampinaaDoor
