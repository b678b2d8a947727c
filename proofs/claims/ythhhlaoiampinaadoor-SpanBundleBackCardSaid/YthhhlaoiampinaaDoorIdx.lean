/- The first place of a byte. -/
import Derived.Test.YthhhlaoiampinaaDoorBytes
import Derived.Lib.Bytealg
namespace Go.Proofs.YthhhlaoiampinaaDoor
open Go.RowKit
theorem indexByte_case (l : List UInt8) (c : UInt8) : (∃ k : Nat, ∃ hk : k < l.length, Lib.indexByte l c = (k : Int) ∧ l[k] = c ∧ c ∉ l.take k) ∨ (Lib.indexByte l c = -1 ∧ c ∉ l) := by
  induction l with
  | nil => exact .inr ⟨rfl, by simp⟩
  | cons b l ih =>
    by_cases hb : b = c
    · refine .inl ⟨0, by simp, ?_, hb, by simp⟩
      simp [Lib.indexByte, hb]
    · have hb' : (b == c) = false := by simpa using hb
      rcases ih with ⟨k, hk, h1, h2, h3⟩ | ⟨h1, h2⟩
      · refine .inl ⟨k + 1, by simpa using hk, ?_, by simpa using h2, ?_⟩
        · have : ((k : Int) == -1) = false := by rw [beq_eq_false_iff_ne]; omega
          simp only [Lib.indexByte, hb', h1, this, Bool.false_eq_true, if_false]
          omega
        · simp only [List.take_succ_cons, List.mem_cons, not_or]
          exact ⟨fun e => hb e.symm, h3⟩
      · refine .inr ⟨?_, by simp only [List.mem_cons, not_or]; exact ⟨fun e => hb e.symm, h2⟩⟩
        simp [Lib.indexByte, hb', h1]
theorem indexByte_nn (l : List UInt8) (c : UInt8) : decide (0 ≤ Lib.indexByte l c) = l.contains c := by
  rcases indexByte_case l c with ⟨k, hk, h1, h2, _⟩ | ⟨h1, h2⟩
  · rw [h1, List.contains_iff_mem.2 (by rw [← h2]; exact List.getElem_mem hk)]; simp
  · rw [h1]
    have : l.contains c = false := by rw [← Bool.not_eq_true, List.contains_iff_mem]; exact h2
    rw [this]; rfl
end Go.Proofs.YthhhlaoiampinaaDoor
