/- Eq over lists of texts. -/
import Derived.Test.YthhhlaoiampinaaBytes
namespace Go.Proofs.Ythhhlaoiampinaa
open Go.RowKit
def SameTexts (xs ys : List ByteArray) : Bool := decide (xs = ys)
set_option maxHeartbeats 800000 in
theorem eqStr_any (v1 v2 : Value) (xs ys : List ByteArray) (w : World) (h1 : SlR w es v1 xs) (h2 : SlR w es v2 ys) (hx : xs.length ≤ 140737488351232) (hy : ys.length ≤ 140737488351232) :
    Calls Try.prog 20 #[v1, v2] w fun e w' => e = .returned (.bool (SameTexts xs ys)) ∧ w = w' := by
  obtain ⟨A, c, rfl, hc, hA⟩ := h1
  obtain ⟨B, d, rfl, hd, hB⟩ := h2
  by_cases hl : xs.length = ys.length
  · have hL := Lib.hid hl
    have hb : (((xs.length : Nat) : Int) != ((ys.length : Nat) : Int)) = false := by simp [hl]
    clear hl
    go_enter Try.func20, Try.ntmps20
    go_wp2_with fail
    go_loop [14] (fun i => ∃ k : Nat, k ≤ xs.length ∧ i = .int .i64 k ∧ xs.take k = ys.take k) (fun i => xs.length - (intOf i).toNat)
    case atStart => exact ⟨0, by omega, rfl, rfl⟩
    case round =>
      obtain ⟨k, hk, rfl, hEq⟩ := hrel
      have HE := Lib.hid hEq
      clear hEq
      by_cases hlt : k < xs.length
      · have hlt' : k < ys.length := by rw [← hL.out]; exact hlt
        obtain ⟨b1, o1, rfl, hb1, hc1⟩ := hA (by omega)
        obtain ⟨b2, o2, rfl, hb2, hc2⟩ := hB (by omega)
        have c1 := hc1 k (.string xs[k]) (by rw [es_map]; simp [hlt])
        have c2 := hc2 k (.string ys[k]) (by rw [es_map]; simp [hlt'])
        clear hA hB hc1 hc2
        by_cases hxy : xs[k] = ys[k]
        · have ht : (!xs[k].toList == ys[k].toList) = false := by rw [hxy]; simp
          have HS : Hid (xs.take (k + 1) = ys.take (k + 1)) := by
            show _ = _
            rw [List.take_add_one, List.take_add_one, HE.out, List.getElem?_eq_getElem hlt, List.getElem?_eq_getElem hlt', hxy]
          clear hxy
          go_wp2_with fail
          go_round
          case rel => exact ⟨k + 1, by omega, by go_num, HS.out⟩
          case measure => simp [intOf]; omega
        · have ht : (!xs[k].toList == ys[k].toList) = true := by
            rw [ba_toList, ba_toList]; simp only [Bool.not_eq_true', beq_eq_false_iff_ne]
            exact fun h => hxy (sl_inj h)
          have HF : Hid (SameTexts xs ys = false) := by
            show _ = _
            unfold SameTexts; rw [decide_eq_false_iff_not]; rintro rfl; exact hxy rfl
          clear hxy
          go_wp2_with fail
          go_ret
          exact ⟨ret_bool HF.out.symm, rfl⟩
      · have HF : Hid (SameTexts xs ys = true) := by
          show _ = _
          unfold SameTexts; rw [decide_eq_true_iff]
          have := HE.out
          rw [List.take_of_length_le (by omega), List.take_of_length_le (by rw [← hL.out]; omega)] at this
          exact this
        go_wp2_with fail
        go_ret
        exact ⟨ret_bool HF.out.symm, rfl⟩
  · have hb : (((xs.length : Nat) : Int) != ((ys.length : Nat) : Int)) = true := by simp; omega
    have HF : Hid (SameTexts xs ys = false) := by
      show _ = _
      unfold SameTexts; rw [decide_eq_false_iff_not]; intro h; rw [h] at hl; exact hl rfl
    clear hl
    go_enter Try.func20, Try.ntmps20
    go_wp2_with fail
    go_ret
    exact ⟨ret_bool HF.out.symm, rfl⟩
end Go.Proofs.Ythhhlaoiampinaa
