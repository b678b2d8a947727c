/- What trim, cut, Split and Eq[string] compute. -/
import Derived.Test.YthhhlaoiampinaaDoorTokB
namespace Go.Proofs.YthhhlaoiampinaaDoor
set_option maxRecDepth 20000
open Go.RowKit
namespace Tok
def trimL (l : List UInt8) : List UInt8 := ((l.dropWhile blankB).reverse.dropWhile blankB).reverse
/-- The parts between signs that are not within quotes, not trimmed yet (none: quotes do not end). 'cur': what has been read of the part. -/
def cutL (sign : UInt8) : Bool → List UInt8 → List UInt8 → Option (List (List UInt8))
  | q, cur, [] => if q then none else some [cur]
  | q, cur, c :: r =>
    if c == 34 then cutL sign (!q) (cur ++ [c]) r
    else if q && c == 92 then (match r with | [] => none | d :: r' => cutL sign q (cur ++ [c, d]) r')
    else if !q && c == sign then (cutL sign false [] r).map (cur :: ·)
    else cutL sign q (cur ++ [c]) r
theorem dw_cons_true {p : UInt8 → Bool} {c : UInt8} {l : List UInt8} (h : p c = true) : (c :: l).dropWhile p = l.dropWhile p := by simp [h]
theorem dw_cons_false {p : UInt8 → Bool} {c : UInt8} {l : List UInt8} (h : p c = false) : (c :: l).dropWhile p = c :: l := by simp [h]
end Tok

/-- A text's last byte apart. -/
theorem sl_snoc (r : ByteArray) (h : 0 < r.size) : sl r = sl (r.extract 0 (r.size - 1)) ++ [r[r.size - 1]] := by
  have hl : (sl r).length = r.size := sl_len r
  rw [sl_extract, List.drop_zero, Nat.sub_zero, ← sl_getElem r (r.size - 1) (by omega)]
  have h2 := List.take_append_getElem (by omega : r.size - 1 < (sl r).length)
  rw [h2, List.take_of_length_le (by omega)]

namespace Tok
def partS (p : List UInt8) : ByteArray := mkS (trimL p)
theorem seg_succ {l : List UInt8} {f i : Nat} {c : UInt8} (hf : f ≤ i) (hc : l[i]? = some c) : (l.drop f).take (i + 1 - f) = (l.drop f).take (i - f) ++ [c] := by
  rw [show i + 1 - f = (i - f) + 1 from by omega, List.take_add_one, List.getElem?_drop, show f + (i - f) = i from by omega, hc]; rfl
theorem cutL_quote (sign c : UInt8) (q : Bool) (cur r : List UInt8) (h : (c == 34) = true) : cutL sign q cur (c :: r) = cutL sign (!q) (cur ++ [c]) r := by
  rw [cutL.eq_def]; simp only [h, if_true]
theorem cutL_esc (sign c d : UInt8) (cur r : List UInt8) (h : (c == 34) = false) (h2 : (c == 92) = true) : cutL sign true cur (c :: d :: r) = cutL sign true (cur ++ [c, d]) r := by
  rw [cutL.eq_def]; simp only [h, h2, Bool.true_and, if_true, Bool.false_eq_true, if_false]
theorem cutL_esc_end (sign c : UInt8) (cur : List UInt8) (h : (c == 34) = false) (h2 : (c == 92) = true) : cutL sign true cur [c] = none := by
  rw [cutL.eq_def]; simp only [h, h2, Bool.true_and, if_true, Bool.false_eq_true, if_false]
theorem cutL_sign (sign c : UInt8) (cur r : List UInt8) (h : (c == 34) = false) (h2 : (c == sign) = true) : cutL sign false cur (c :: r) = (cutL sign false [] r).map (cur :: ·) := by
  rw [cutL.eq_def]; simp only [h, h2, Bool.false_and, Bool.not_false, Bool.true_and, if_true, Bool.false_eq_true, if_false]
theorem cutL_q (sign c : UInt8) (cur r : List UInt8) (h : (c == 34) = false) (h2 : (c == 92) = false) : cutL sign true cur (c :: r) = cutL sign true (cur ++ [c]) r := by
  rw [cutL.eq_def]; simp only [h, h2, Bool.true_and, Bool.not_true, Bool.false_and, Bool.false_eq_true, if_false]
theorem cutL_n (sign c : UInt8) (cur r : List UInt8) (h : (c == 34) = false) (h2 : (c == sign) = false) : cutL sign false cur (c :: r) = cutL sign false (cur ++ [c]) r := by
  rw [cutL.eq_def]; simp only [h, h2, Bool.false_and, Bool.not_false, Bool.true_and, Bool.false_eq_true, if_false]
theorem map_cons_snoc {o : Option (List (List UInt8))} {parts : List (List UInt8)} {cur : List UInt8} : (o.map (cur :: ·)).map (parts ++ ·) = o.map ((parts ++ [cur]) ++ ·) := by
  cases o <;> simp
end Tok

/-- What cut answers. -/
def CutAns (T : TypeId) (base : Nat) (sign : UInt8) (l : List UInt8) (e : Ending) (w' : World) : Prop :=
  (Tok.cutL sign false [] l = none ∧ e = .returned (.tuple #[.slice none 0 0, .int .i64 3])) ∨
  ∃ ps v, Tok.cutL sign false [] l = some ps ∧ ps.length ≤ l.length + 1 ∧ e = .returned (.tuple #[v, .int .i64 0]) ∧ Owns w' base T 1 es v (ps.map Tok.partS)

end Go.Proofs.YthhhlaoiampinaaDoor
