/- What etag's Weak and Strong, slices.Contains of texts and policy.Invalidates compute; the laws TagOrder and PolicySafe. -/
import Derived.Test.YthhhlaoiampinaaChecked
import Derived.Test.YthhhlaoiampinaaBase
import Derived.Test.YthhhlaoiampinaaRegion
namespace Go.Proofs.Ythhhlaoiampinaa
open Go.RowKit

/-- slices.Index of texts: the first place, or -1. -/
def IdxAns (xs : List ByteArray) (t : ByteArray) (e : Ending) : Prop :=
  (∃ k : Nat, k < xs.length ∧ t ∈ xs ∧ e = .returned (.int .i64 k)) ∨ (t ∉ xs ∧ e = .returned (.int .i64 (-1)))
set_option maxHeartbeats 400000 in
theorem indexStr_any (v : Value) (xs : List ByteArray) (t : ByteArray) (w : World) (h : SlR w es v xs) (hx : xs.length ≤ 140737488351232) :
    Calls Try.prog 73 #[v, .string t] w fun e w' => IdxAns xs t e ∧ w = w' := by
  obtain ⟨A, c, rfl, hc, hA⟩ := h
  go_enter Try.func73, Try.ntmps73
  go_wp2_with fail
  go_loop [8] (fun i => ∃ k : Nat, k ≤ xs.length ∧ i = .int .i64 k ∧ t ∉ xs.take k) (fun i => xs.length - (intOf i).toNat)
  case atStart => exact ⟨0, by omega, rfl, by simp⟩
  case round =>
    obtain ⟨k, hk, rfl, hN⟩ := hrel
    have HN := Lib.hid hN
    clear hN
    by_cases hlt : k < xs.length
    · obtain ⟨b, o, rfl, hb, hcell⟩ := hA (by omega)
      have c1 := hcell k (.string xs[k]) (by rw [es_map]; simp [hlt])
      clear hA hcell
      by_cases hxy : t = xs[k]
      · have ht : (t.toList == xs[k].toList) = true := by rw [← hxy]; simp
        have HM : Hid (t ∈ xs) := by show _; rw [hxy]; exact List.getElem_mem hlt
        clear hxy
        go_wp2_with fail
        go_ret
        exact ⟨.inl ⟨k, hlt, HM.out, rfl⟩, rfl⟩
      · have ht : (t.toList == xs[k].toList) = false := by
          rw [ba_toList, ba_toList]; simp only [beq_eq_false_iff_ne]
          exact fun h => hxy (sl_inj h)
        have HM : Hid (t ∉ xs.take (k + 1)) := by
          show _
          rw [List.take_add_one, List.getElem?_eq_getElem hlt]
          simp only [Option.toList_some, List.mem_append, List.mem_singleton, not_or]
          exact ⟨HN.out, hxy⟩
        clear hxy
        go_wp2_with fail
        go_round
        case rel => exact ⟨k + 1, by omega, by go_num, HM.out⟩
        case measure => simp [intOf]; omega
    · have HM : Hid (t ∉ xs) := by show _; have := HN.out; rwa [List.take_of_length_le (by omega)] at this
      go_wp2_with fail
      go_ret
      exact ⟨.inr ⟨HM.out, rfl⟩, rfl⟩

/-- Is a text in a list? -/
def hasB (xs : List ByteArray) (t : ByteArray) : Bool := xs.any (fun x => decide (x = t))
theorem hasB_true {xs : List ByteArray} {t : ByteArray} (h : t ∈ xs) : hasB xs t = true := by
  unfold hasB; rw [List.any_eq_true]; exact ⟨t, h, by simp⟩
theorem hasB_false {xs : List ByteArray} {t : ByteArray} (h : t ∉ xs) : hasB xs t = false := by
  unfold hasB; rw [List.any_eq_false]; intro x hx; simp; rintro rfl; exact h hx
theorem hasB_iff {xs : List ByteArray} {t : ByteArray} : hasB xs t = true ↔ t ∈ xs :=
  ⟨fun h => Classical.byContradiction fun hm => Bool.noConfusion (h.symm.trans (hasB_false hm)), hasB_true⟩
theorem containsStr_any (v : Value) (xs : List ByteArray) (t : ByteArray) (w : World) (h : SlR w es v xs) (hx : xs.length ≤ 140737488351232) :
    Calls Try.prog 43 #[v, .string t] w fun e w' => e = .returned (.bool (hasB xs t)) ∧ w = w' := by
  go_enter Try.func43, Try.ntmps43
  go_wp2_with fail
  refine (indexStr_any v xs t _ h hx).mono ?_
  rintro e w' ⟨ha, rfl⟩
  rcases ha with ⟨k, hk, hm, rfl⟩ | ⟨hm, rfl⟩
  · have HM := Lib.hid hm
    clear hm
    go_wp2_with fail
    go_ret
    exact ⟨ret_bool (hasB_true HM.out).symm, rfl⟩
  · have HM := Lib.hid hm
    clear hm
    go_wp2_with fail
    go_ret
    exact ⟨ret_bool (hasB_false HM.out).symm, rfl⟩

def invNames : List ByteArray := [⟨#[80, 85, 84]⟩, ⟨#[80, 79, 83, 84]⟩, ⟨#[68, 69, 76, 69, 84, 69]⟩, ⟨#[80, 65, 84, 67, 72]⟩]
def invB (m : ByteArray) (code : Int) : Bool := hasB invNames m && (decide (200 ≤ code) && decide (code < 400))
/-! ### TagOrder -/

end Go.Proofs.Ythhhlaoiampinaa
