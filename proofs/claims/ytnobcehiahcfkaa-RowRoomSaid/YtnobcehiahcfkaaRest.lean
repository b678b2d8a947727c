/- larderref.Rest. -/
import Derived.Test.YtnobcehiahcfkaaChecked
import Derived.Test.YtnobcehiahcfkaaBase
namespace Go.Proofs.Ytnobcehiahcfkaa
open Go.RowKit
def Wide (n : Int) : Prop := -9223372036854775808 ≤ n ∧ n ≤ 9223372036854775807
theorem wide_of {n : Int} (h : (Lit.int .i64 n).wf = true) : Wide n := by
  simp only [Lit.wf, Bool.and_eq_true, decide_eq_true_eq] at h
  exact ⟨h.1, h.2⟩
theorem tmod_way (n m : Int) (hm : 0 < m) : (0 ≤ n.tmod m → n.tmod m = n % m) ∧ (n.tmod m < 0 → n.tmod m + m = n % m) := by
  have h := Int.tmod_eq_emod (a := n) (b := m)
  have h0 := Int.emod_nonneg n (b := m) (by omega)
  have h1 := Int.emod_lt_of_pos n hm
  split at h
  · omega
  · rw [show (m.natAbs : Int) = m from by omega] at h; omega
set_option maxHeartbeats 400000 in
theorem rest_any (n m : Int) (w : World) (h0 : Wide n) (hm : 0 < m ∧ m ≤ 4611686018427387904) :
    Calls Try.prog 23 #[.int .i64 n, .int .i64 m] w fun e w' => e = .returned (.int .i64 (n % m)) ∧ w = w' := by
  have h := h0
  unfold Wide at h
  have ht := tmod_way n m hm.1
  have h2 := Int.emod_nonneg n (b := m) (by omega)
  have h1 := Int.emod_lt_of_pos n hm.1
  have hz : (m == 0) = false := by rw [beq_eq_false_iff_ne]; omega
  generalize hr : n % m = r at *
  have HT := Lib.hid ht
  clear ht hr
  go_enter Try.func23, Try.ntmps23
  go_wp2
  all_goals
    go_ret
    refine ⟨ret_int ?_, rfl⟩
  · rw [← HT.out.2 (by assumption)]
    have := HT.out.2 (by assumption)
    unfold wrap64; omega
  · exact HT.out.1 (by assumption)
end Go.Proofs.Ytnobcehiahcfkaa
