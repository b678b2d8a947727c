/- What etag's Weak and Strong, slices.Contains of texts and policy.Invalidates compute; the laws TagOrder and PolicySafe. -/
import Derived.Test.YtiijgbgknolmcaaDoorChecked
import Derived.Test.YtiijgbgknolmcaaDoorBase
import Derived.Test.YtiijgbgknolmcaaDoorRegion
namespace Go.Proofs.YtiijgbgknolmcaaDoor
open Go.RowKit

theorem weak_any (wa wb : Bool) (a b : ByteArray) (w : World) :
    Calls Tryd.prog 34 #[.agg #[.bool wa, .string a], .agg #[.bool wb, .string b]] w fun e w' => e = .returned (.bool (a.toList == b.toList)) ∧ Below w.heap.size w w' := by
  go_enter Tryd.func34, Tryd.ntmps34
  go_wp2
  go_ret
  exact ⟨rfl, by go_grown⟩

theorem strong_any (wa wb : Bool) (a b : ByteArray) (w : World) :
    Calls Tryd.prog 32 #[.agg #[.bool wa, .string a], .agg #[.bool wb, .string b]] w fun e w' => e = .returned (.bool (!wa && !wb && a.toList == b.toList)) ∧ Below w.heap.size w w' := by
  cases wa <;> cases wb
  all_goals
    go_enter Tryd.func32, Tryd.ntmps32
    go_wp2
    go_ret
    exact ⟨ret_bool (by simp), by go_grown⟩

/-- slices.Index of texts: the first place, or -1. -/
def IdxAns (xs : List ByteArray) (t : ByteArray) (e : Ending) : Prop :=
  (∃ k : Nat, k < xs.length ∧ t ∈ xs ∧ e = .returned (.int .i64 k)) ∨ (t ∉ xs ∧ e = .returned (.int .i64 (-1)))
/-- Is a text in a list? -/
def hasB (xs : List ByteArray) (t : ByteArray) : Bool := xs.any (fun x => decide (x = t))
theorem hasB_true {xs : List ByteArray} {t : ByteArray} (h : t ∈ xs) : hasB xs t = true := by
  unfold hasB; rw [List.any_eq_true]; exact ⟨t, h, by simp⟩
theorem hasB_false {xs : List ByteArray} {t : ByteArray} (h : t ∉ xs) : hasB xs t = false := by
  unfold hasB; rw [List.any_eq_false]; intro x hx; simp; rintro rfl; exact h hx
theorem hasB_iff {xs : List ByteArray} {t : ByteArray} : hasB xs t = true ↔ t ∈ xs :=
  ⟨fun h => Classical.byContradiction fun hm => Bool.noConfusion (h.symm.trans (hasB_false hm)), hasB_true⟩
def invNames : List ByteArray := [⟨#[80, 85, 84]⟩, ⟨#[80, 79, 83, 84]⟩, ⟨#[68, 69, 76, 69, 84, 69]⟩, ⟨#[80, 65, 84, 67, 72]⟩]
def invB (m : ByteArray) (code : Int) : Bool := hasB invNames m && (decide (200 ≤ code) && decide (code < 400))
/-! ### TagOrder -/

end Go.Proofs.YtiijgbgknolmcaaDoor
