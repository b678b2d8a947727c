/- What token's isTokenByte and IsToken compute. -/
import Derived.Test.YtpoaffhhkmochaaDoorShelf
import Derived.Test.YtpoaffhhkmochaaDoorIdx
namespace Go.Proofs.YtpoaffhhkmochaaDoor
open Go.RowKit
namespace Tok
def signs : List UInt8 := [33, 35, 36, 37, 38, 39, 42, 43, 45, 46, 94, 95, 96, 124, 126]
def alnum (c : UInt8) : Bool := (97 ≤ c && c ≤ 122) || (65 ≤ c && c ≤ 90) || (48 ≤ c && c ≤ 57)
def tokB (c : UInt8) : Bool := alnum c || signs.contains c
def isTok (s : ByteArray) : Bool := (sl s).all tokB && decide (0 < s.size)
end Tok
theorem alnum_iff (c : UInt8) : Tok.alnum c = true ↔ (97 ≤ (c.toNat : Int) ∧ (c.toNat : Int) ≤ 122) ∨ (65 ≤ (c.toNat : Int) ∧ (c.toNat : Int) ≤ 90) ∨ (48 ≤ (c.toNat : Int) ∧ (c.toNat : Int) ≤ 57) := by
  simp [Tok.alnum, u8_le]
  omega
end Go.Proofs.YtpoaffhhkmochaaDoor
