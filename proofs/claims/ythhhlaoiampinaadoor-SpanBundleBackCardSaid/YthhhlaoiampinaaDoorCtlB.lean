/- control's text of a directive. -/
import Derived.Test.YthhhlaoiampinaaDoorPiece
import Derived.Test.YthhhlaoiampinaaDoorRegion
namespace Go.Proofs.YthhhlaoiampinaaDoor
set_option maxRecDepth 20000
open Go.RowKit
abbrev Dr := ByteArray × Bool × ByteArray
def vDr (d : Dr) : Value := .agg #[.string d.1, .bool d.2.1, .string d.2.2]
theorem isToken_bel (s : ByteArray) (w : World) (hs : s.size ≤ 9223372036854775807) :
    Calls Tryd.prog 14 #[.string s] w fun e w' => e = .returned (.bool (Tok.isTok s)) ∧ Below w.heap.size w w' :=
  (isToken_any s w hs).mono fun e w' ⟨he, hw⟩ => ⟨he, hw ▸ Below.refl _ _⟩
/-- The name is in order, and there is an argument only where it says so. -/
def okD (d : Dr) : Bool := Tok.isTok d.1 && (d.1.toList == (lowT d.1).toList) && (d.2.1 || d.2.2.toList.isEmpty)
/-- The text of a directive, where it has one. -/
def textD (d : Dr) : Option ByteArray :=
  if okD d then (if d.2.1 then (if Tok.isTok d.2.2 then some (d.1 ++ ⟨#[61]⟩ ++ d.2.2) else if (sl d.2.2).length ≤ 1000 ∧ (sl d.2.2).all Tok.plainB = true then some (d.1 ++ ⟨#[61]⟩ ++ mkS (Tok.quoteL (sl d.2.2))) else none) else some d.1) else none
def TextAns (d : Dr) (e : Ending) : Prop :=
  (∃ s, textD d = some s ∧ e = .returned (.tuple #[.string s, .int .i64 0])) ∨ (textD d = none ∧ ∃ c : Int, 1 ≤ c ∧ c ≤ 3 ∧ e = .returned (.tuple #[.string ByteArray.empty, .int .i64 c]))
theorem okD_of {n a : ByteArray} {h : Bool} {b1 b2 b3 : Bool} (h1 : Tok.isTok n = b1) (h2 : (n.toList == (lowT n).toList) = b2) (h3 : (h || a.toList.isEmpty) = b3) : okD (n, h, a) = (b1 && b2 && b3) := by
  unfold okD; rw [h1, h2, h3]
theorem escs_len2 : ∀ l : List UInt8, (Tok.escs l).length ≤ 2 * l.length
  | [] => by simp [Tok.escs]
  | c :: l => by
    have ih := escs_len2 l
    have : (Tok.esc c).length ≤ 2 := by unfold Tok.esc; split <;> simp
    simp only [Tok.escs, List.flatMap_cons, List.length_append, List.length_cons] at ih ⊢; omega
end Go.Proofs.YthhhlaoiampinaaDoor
