/- What token's byte tests and Quote compute. -/
import Derived.Test.YthhhlaoiampinaaDoorChecked
import Derived.Test.YthhhlaoiampinaaDoorBytes
namespace Go.Proofs.YthhhlaoiampinaaDoor
set_option maxRecDepth 20000
open Go.RowKit
namespace Tok
def plainB (c : UInt8) : Bool := (32 ≤ c && c ≤ 126) || c == 9
def blankB (c : UInt8) : Bool := c == 32 || c == 9
def esc (c : UInt8) : List UInt8 := if c == 34 || c == 92 then [92, c] else [c]
def escs (l : List UInt8) : List UInt8 := l.flatMap esc
def quoteL (l : List UInt8) : List UInt8 := 34 :: (escs l ++ [34])
theorem escs_snoc (l : List UInt8) (c : UInt8) : escs (l ++ [c]) = escs l ++ esc c := by simp [escs]
theorem esc_len (c : UInt8) : (esc c).length ≤ 2 := by unfold esc; split <;> simp
theorem escs_len (l : List UInt8) : (escs l).length ≤ 2 * l.length := by
  induction l with
  | nil => simp [escs]
  | cons c l ih => have := esc_len c; simp only [escs, List.flatMap_cons, List.length_append, List.length_cons] at ih ⊢; omega
end Tok

theorem plainB_iff (c : UInt8) : Tok.plainB c = true ↔ (32 ≤ (c.toNat : Int) ∧ (c.toNat : Int) ≤ 126) ∨ (c.toNat : Int) = 9 := by
  simp [Tok.plainB, u8_le, u8_eq]
theorem blankB_iff (c : UInt8) : Tok.blankB c = true ↔ (c.toNat : Int) = 32 ∨ (c.toNat : Int) = 9 := by
  simp [Tok.blankB, u8_eq]

/-- What Quote answers to a text that is not too long. -/
def QuoteEnd (l : List UInt8) (e : Ending) : Prop :=
  (l.all Tok.plainB = true ∧ e = .returned (.tuple #[.string (mkS (Tok.quoteL l)), .int .i64 0])) ∨ (l.all Tok.plainB = false ∧ e = .returned (.tuple #[.string ByteArray.empty, .int .i64 3]))

end Go.Proofs.YthhhlaoiampinaaDoor
