/- strconv.FormatInt at base 16 of 1 .. 65535. -/
import Derived.Test.YtoalfjkbgeiggaaDoorHexA
import Derived.Test.YtoalfjkbgeiggaaDoorChkE
namespace Go.Proofs.YtoalfjkbgeiggaaDoor
set_option maxRecDepth 20000
open Go.RowKit
namespace Ck
/-- The digits of u ahead of those that lie. -/
def hexF : Nat → Nat → List UInt8 → List UInt8
  | 0, u, l => hd u :: l
  | k + 1, u, l => if u < 16 then hd u :: l else hexF k (u / 16) (hd (u % 16) :: l)
theorem hexF_eq {n : Nat} (h : n < 65536) : hexF 3 n [] = hexL n := by
  unfold hexL
  by_cases h1 : n < 16
  · rw [hexF, if_pos h1, if_pos h1]
  · rw [hexF, if_neg h1, if_neg h1]
    by_cases h2 : n < 256
    · rw [hexF, if_pos (by omega), if_pos h2]
    · rw [hexF, if_neg (by omega), if_neg h2]
      by_cases h3 : n < 4096
      · rw [hexF, if_pos (by omega), if_pos h3, show n / 16 / 16 = n / 256 by omega]
      · rw [hexF, if_neg (by omega), if_neg h3, hexF, show n / 16 / 16 / 16 = n / 4096 by omega, show n / 16 / 16 % 16 = n / 256 % 16 by omega]
theorem hd_at : ∀ u, u < 16 → ("0123456789abcdefghijklmnopqrstuvwxyz".toUTF8.data.toList)[u]? = some (hd u) := by decide +kernel
end Ck
open Ck
/-- A row of 65 bytes, of which the last lie. -/
def Row65 (w : World) (b : Nat) (l : List UInt8) : Prop :=
  l.length ≤ 65 ∧ (∀ j, j < 65 → ∃ v, w.cell? ⟨b, j, none⟩ = some v) ∧ (∀ j, j < 65 → w.frozen? ⟨b, j, none⟩ = false) ∧ ∀ j (h : j < l.length), w.cell? ⟨b, 65 - l.length + j, none⟩ = some (.int .u8 (l[j].toNat : Int))
theorem Row65.put {w : World} {b : Nat} {l : List UInt8} (h : Row65 w b l) (hl : l.length < 65) (x : UInt8) : Row65 (w.setCell ⟨b, 65 - l.length - 1, none⟩ (.int .u8 (x.toNat : Int))) b (x :: l) := by
  obtain ⟨h1, h2, h3, h4⟩ := h
  refine ⟨by simp only [List.length_cons]; omega, fun j hj => ?_, fun j hj => ?_, fun j hj => ?_⟩
  · by_cases e : j = 65 - l.length - 1
    · subst e
      obtain ⟨v, hv⟩ := h2 _ hj
      exact ⟨_, World.cell?_setCell_same _ _ _ hv⟩
    · obtain ⟨v, hv⟩ := h2 _ hj
      exact ⟨v, by rw [World.cell?_setCell_other _ _ _ _ (by simp only [ne_eq, Addr.mk.injEq, true_and, and_true]; omega)]; exact hv⟩
  · rw [World.frozen?_setCell]; exact h3 j hj
  · cases j with
    | zero =>
      obtain ⟨v, hv⟩ := h2 (65 - l.length - 1) (by omega)
      have := World.cell?_setCell_same w ⟨b, 65 - l.length - 1, none⟩ (.int .u8 (x.toNat : Int)) hv
      rw [show 65 - (x :: l).length + 0 = 65 - l.length - 1 by simp only [List.length_cons]; omega]
      exact this
    | succ i =>
      have hi : i < l.length := by simpa using hj
      rw [World.cell?_setCell_other _ _ _ _ (by simp only [List.length_cons, ne_eq, Addr.mk.injEq]; omega), List.getElem_cons_succ, ← h4 i hi]
      congr 2
      simp only [List.length_cons]; omega
end Go.Proofs.YtoalfjkbgeiggaaDoor
