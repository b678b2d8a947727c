/- What token's Lower computes. -/
import Derived.Test.YtemknajlmocfeaaDoorBuf
namespace Go.Proofs.YtemknajlmocfeaaDoor
open Go.RowKit
namespace Tok
def lowB (c : UInt8) : UInt8 := if 65 ≤ c ∧ c ≤ 90 then c + 32 else c
def low (l : List UInt8) : List UInt8 := l.map lowB
theorem lowB_up {c : UInt8} (h0 : 65 ≤ (c.toNat : Int)) (h1 : (c.toNat : Int) ≤ 90) : ((lowB c).toNat : Int) = (c.toNat : Int) + 32 := by
  unfold lowB
  rw [if_pos ⟨by rw [u8_le]; exact h0, by rw [u8_le]; exact h1⟩, UInt8.toNat_add]
  have : (32 : UInt8).toNat = 32 := rfl
  rw [this]; omega
theorem lowB_no {c : UInt8} (h : (c.toNat : Int) < 65 ∨ 90 < (c.toNat : Int)) : lowB c = c := by
  unfold lowB
  rw [if_neg]
  rw [u8_le, u8_le]
  have : ((65 : UInt8).toNat : Int) = 65 := rfl
  have : ((90 : UInt8).toNat : Int) = 90 := rfl
  omega
theorem lowB_low (c : UInt8) : lowB (lowB c) = lowB c := by
  by_cases h : 65 ≤ (c.toNat : Int) ∧ (c.toNat : Int) ≤ 90
  · apply lowB_no; rw [lowB_up h.1 h.2]; omega
  · rw [lowB_no (c := c) (by omega), lowB_no (c := c) (by omega)]
theorem low_low (l : List UInt8) : low (low l) = low l := by
  unfold low; rw [List.map_map]; exact List.map_congr_left (fun a _ => lowB_low a)
theorem low_len (l : List UInt8) : (low l).length = l.length := List.length_map ..
/-- When k of them are lowered. -/
def lowTo (l : List UInt8) (k : Nat) : List UInt8 := low (l.take k) ++ l.drop k
theorem lowTo_len (l : List UInt8) (k : Nat) : (lowTo l k).length = l.length := by simp [lowTo, low]; omega
theorem lowTo_at {l : List UInt8} {k : Nat} (h : k < l.length) : (lowTo l k)[k]'(by rw [lowTo_len]; exact h) = l[k] := by
  unfold lowTo
  rw [List.getElem_append_right (by simp [low]; omega)]
  simp only [List.getElem_drop]
  congr 1
  simp [low]; omega
theorem lowTo_set {l : List UInt8} {k : Nat} (h : k < l.length) : (lowTo l k).set k (lowB l[k]) = lowTo l (k + 1) := by
  unfold lowTo
  have hl : (low (l.take k)).length = k := by simp [low]; omega
  rw [List.set_append_right _ _ (by omega), hl, Nat.sub_self, List.drop_eq_getElem_cons h, List.set_cons_zero, List.take_add_one, List.getElem?_eq_getElem h]
  unfold low
  rw [List.map_append, List.append_assoc]
  rfl
theorem lowTo_keep {l : List UInt8} {k : Nat} (h : k < l.length) (he : lowB l[k] = l[k]) : lowTo l (k + 1) = lowTo l k := by
  rw [← lowTo_set h, he]
  have := lowTo_at h
  rw [← this, List.set_getElem_self]
end Tok
end Go.Proofs.YtemknajlmocfeaaDoor
