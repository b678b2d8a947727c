/- Has over a list of texts. -/
import Derived.Test.YthocoplaehbncaaBytes
namespace Go.Proofs.Ythocoplaehbncaa
open Go.RowKit
def hasS (xs : List ByteArray) (x : ByteArray) : Bool := xs.any fun y => x.toList == y.toList
theorem hasS_iff {xs : List ByteArray} {x : ByteArray} : hasS xs x = true ↔ x ∈ xs := by
  unfold hasS
  rw [List.any_eq_true]
  constructor
  · rintro ⟨y, hy, he⟩
    have : x = y := sl_inj (by rw [← ba_toList, ← ba_toList]; exact beq_iff_eq.1 he)
    rw [this]; exact hy
  · intro h; exact ⟨x, h, by simp⟩
set_option maxHeartbeats 800000 in
theorem hasStr_any (v : Value) (xs : List ByteArray) (x : ByteArray) (w : World) (h : SlR w es v xs) (hx : xs.length ≤ 140737488351232) :
    Calls Try.prog 10 #[v, .string x] w fun e w' => e = .returned (.bool (hasS xs x)) ∧ w = w' := by
  obtain ⟨A, c, rfl, hc, hA⟩ := h
  go_enter Try.func10, Try.ntmps10
  go_wp2_with fail
  go_loop [9] (fun i => ∃ k : Nat, k ≤ xs.length ∧ i = .int .i64 k ∧ x ∉ xs.take k) (fun i => xs.length - (intOf i).toNat)
  case atStart => exact ⟨0, by omega, rfl, by simp⟩
  case round =>
    obtain ⟨k, hk, rfl, hNo⟩ := hrel
    have HE := Lib.hid hNo
    clear hNo
    by_cases hlt : k < xs.length
    · obtain ⟨b1, o1, rfl, hb1, hc1⟩ := hA (by omega)
      have c1 := hc1 k (.string xs[k]) (by rw [es_map]; simp [hlt])
      clear hA hc1
      by_cases hxy : x = xs[k]
      · have ht : (x.toList == xs[k].toList) = true := by rw [← hxy]; simp
        have HR : Hid (hasS xs x = true) := hasS_iff.2 (by rw [hxy]; exact List.getElem_mem hlt)
        clear hxy
        go_wp2_with fail
        go_ret
        exact ⟨ret_bool HR.out.symm, rfl⟩
      · have ht : (x.toList == xs[k].toList) = false := by
          rw [beq_eq_false_iff_ne]; intro e; apply hxy; apply sl_inj; rw [← ba_toList, ← ba_toList, e]
        have HS : Hid (x ∉ xs.take (k + 1)) := by
          show _ ∉ _
          rw [List.take_add_one, List.getElem?_eq_getElem hlt, List.mem_append]
          rintro (h | h)
          · exact HE.out h
          · simp at h; exact hxy h
        clear hxy
        go_wp2_with fail
        go_round
        case rel => exact ⟨k + 1, by omega, by go_num, HS.out⟩
        case measure => simp [intOf]; omega
    · obtain rfl : k = xs.length := by omega
      have HR : Hid (hasS xs x = false) := by
        cases hb : hasS xs x
        · rfl
        · exact absurd (hasS_iff.1 hb) (by have := HE.out; rwa [List.take_of_length_le (Nat.le_refl _)] at this)
      go_wp2_with fail
      go_ret
      exact ⟨ret_bool HR.out.symm, rfl⟩
end Go.Proofs.Ythocoplaehbncaa
