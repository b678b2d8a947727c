/- Has over a list of texts. -/
import Derived.Test.YthocoplaehbncaaDoorBytes
namespace Go.Proofs.YthocoplaehbncaaDoor
open Go.RowKit
def hasS (xs : List ByteArray) (x : ByteArray) : Bool := xs.any fun y => x.toList == y.toList
theorem hasS_iff {xs : List ByteArray} {x : ByteArray} : hasS xs x = true ↔ x ∈ xs := by
  unfold hasS
  rw [List.any_eq_true]
  constructor
  · rintro ⟨y, hy, he⟩
    have : x = y := sl_inj (by rw [← ba_toList, ← ba_toList]; exact beq_iff_eq.1 he)
    rw [this]; exact hy
  · intro h; exact ⟨x, h, by simp⟩
end Go.Proofs.YthocoplaehbncaaDoor
