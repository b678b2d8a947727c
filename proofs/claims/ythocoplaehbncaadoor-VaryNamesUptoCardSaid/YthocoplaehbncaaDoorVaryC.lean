/- vary: what Match answers. -/
import Derived.Test.YthocoplaehbncaaDoorVaryB
namespace Go.Proofs.YthocoplaehbncaaDoor
set_option maxRecDepth 20000
open Go.RowKit
namespace Vy
theorem any_same {xs L : List ByteArray} (h : ∀ x, x ∈ xs ↔ x ∈ L) (p : ByteArray → Bool) : xs.any p = L.any p := by
  rw [Bool.eq_iff_iff, List.any_eq_true, List.any_eq_true]
  constructor
  · rintro ⟨x, hx, hp⟩; exact ⟨x, (h x).1 hx, hp⟩
  · rintro ⟨x, hx, hp⟩; exact ⟨x, (h x).2 hx, hp⟩
end Vy
end Go.Proofs.YthocoplaehbncaaDoor
