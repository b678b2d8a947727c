/- Rows of structs of three cells: a list that is read. -/
import Derived.Test.YthhhlaoiampinaaDoorChecked
import Derived.Test.YthhhlaoiampinaaDoorBase
namespace Go.Proofs.YthhhlaoiampinaaDoor
open Go.RowKit
theorem flat3r {α : Type} {en : α → List Value} (hen : ∀ x, (en x).length = 3) : ∀ (xs : List α) (k i : Nat) (x : α) (u : Value), xs[k]? = some x → i < 3 → (en x)[i]? = some u → (xs.flatMap en)[k * 3 + i]? = some u
  | [], k, i, x, u, h, _, _ => by simp at h
  | y :: ys, 0, i, x, u, h, hi, hu => by
    simp at h; subst h
    rw [List.flatMap_cons, Nat.zero_mul, Nat.zero_add, List.getElem?_append_left (by rw [hen]; exact hi)]; exact hu
  | y :: ys, k + 1, i, x, u, h, hi, hu => by
    rw [List.flatMap_cons, List.getElem?_append_right (by rw [hen]; omega), hen, show (k + 1) * 3 + i - 3 = k * 3 + i from by omega]
    exact flat3r hen ys k i x u (by simpa using h) hi hu
/-- The cells of an element of a list that is read, of three cells. -/
theorem SlR.three {α : Type} {en : α → List Value} {w : World} {v : Value} {xs : List α} (hen : ∀ x, (en x).length = 3) (h : SlR w en v xs) (hn : 0 < xs.length) :
    ∃ b off c, v = .slice (some ⟨b, off, none⟩) xs.length c ∧ b < w.heap.size ∧ ∀ k (hk : k < xs.length) (u0 u1 u2 : Value), (en xs[k])[0]? = some u0 → (en xs[k])[1]? = some u1 → (en xs[k])[2]? = some u2 → w.cell? ⟨b, off + k * 3, none⟩ = some u0 ∧ w.cell? ⟨b, off + k * 3 + 1, none⟩ = some u1 ∧ w.cell? ⟨b, off + k * 3 + 2, none⟩ = some u2 := by
  obtain ⟨A, c, hv, hc, hx⟩ := h
  obtain ⟨b, off, rfl, hb, hcell⟩ := hx hn
  exact ⟨b, off, c, hv, hb, fun k hk u0 u1 u2 h0 h1 h2 => ⟨hcell (k * 3 + 0) u0 (flat3r hen xs k 0 _ u0 (List.getElem?_eq_getElem hk) (by omega) h0), hcell (k * 3 + 1) u1 (flat3r hen xs k 1 _ u1 (List.getElem?_eq_getElem hk) (by omega) h1), hcell (k * 3 + 2) u2 (flat3r hen xs k 2 _ u2 (List.getElem?_eq_getElem hk) (by omega) h2)⟩⟩
end Go.Proofs.YthhhlaoiampinaaDoor
