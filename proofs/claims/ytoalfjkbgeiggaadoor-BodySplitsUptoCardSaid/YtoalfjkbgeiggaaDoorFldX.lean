/- field's Print and Parse: what they answer. -/
import Derived.Test.YtoalfjkbgeiggaaDoorFldW
import Derived.Test.YtoalfjkbgeiggaaDoorCut2
import Derived.Test.YtoalfjkbgeiggaaDoorBuilder
namespace Go.Proofs.YtoalfjkbgeiggaaDoor
set_option maxRecDepth 20000
open Go.RowKit
theorem linesF_snoc (l : List Fp) (f : Fp) : linesF (l ++ [f]) = linesF l ++ (lineF f ++ [13, 10]) := by simp [linesF]
theorem linesF_take (l : List Fp) (k : Nat) (h : k < l.length) : linesF (l.take (k + 1)) = linesF (l.take k) ++ (lineF l[k] ++ [13, 10]) := by
  rw [List.take_add_one, List.getElem?_eq_getElem h]; exact linesF_snoc _ _
theorem linesF_len : ∀ (l : List Fp), (∀ f ∈ l, GoodF f) → (linesF l).length ≤ 1034 * l.length
  | [], _ => by simp [linesF]
  | f :: l, h => by
    have h1 := lineF_len (h f (by simp))
    have h2 := linesF_len l (fun x hx => h x (by simp [hx]))
    rw [linesF_cons]
    simp only [List.length_append, List.length_cons]; omega
theorem printF_len (l : List Fp) (h : ∀ f ∈ l, GoodF f) (h30 : l.length ≤ 30) : (printF l).length ≤ 31100 := by
  have := linesF_len l h
  unfold printF
  rw [List.length_append]; simp; omega
/-- What Print answers. -/
def PrintF (l : List Fp) (e : Ending) : Prop :=
  (chkAll l = 0 ∧ (∀ f ∈ l, GoodF f) ∧ l.length ≤ 30 ∧ e = .returned (.tuple #[.string (mkS (printF l)), .int .i64 0])) ∨ (chkAll l ≠ 0 ∧ e = .returned (.tuple #[.string ByteArray.empty, .int .i64 (chkAll l)]))
end Go.Proofs.YtoalfjkbgeiggaaDoor
