/- VarySame, VaryMore: the laws' walks. -/
import Derived.Test.YthocoplaehbncaaDoorVaryC
import Derived.Test.YthocoplaehbncaaDoorHasStr
namespace Go.Proofs.YthocoplaehbncaaDoor
set_option maxRecDepth 20000
open Go.RowKit
namespace Vy
theorem wt_up {l : List Fld} (h : (l.map (fun d => d.1.size + d.2.size + 2)).sum ≤ 1048576) : wt l ≤ 4398046511104 := Nat.le_trans h (by decide)
theorem nil_ok (w : World) : LOk w (.slice none 0 0) [] := ⟨SlR.nil w e_ss, by decide⟩
theorem mat_nil : matF (txt [] nVary) [] [] = (true, 0) := mat_empty [] []
end Vy
open Vy
namespace Vy
theorem wt_set (l : List Fld) (n X : ByteArray) : wt (setF l n X) ≤ wt l + n.size + X.size + 2 := by
  unfold wt
  rcases setF_shape l n with ⟨-, h⟩ | ⟨k, hk, -, -, h⟩
  · rw [h X, List.map_append, List.sum_append]; simp; omega
  · rw [h X, List.map_append, List.map_append, List.sum_append, List.sum_append]
    have h1 : ((dropF (l.drop (k + 1)) n).map (fun f => f.1.size + f.2.size + 2)).sum ≤ ((l.drop (k + 1)).map (fun f => f.1.size + f.2.size + 2)).sum := by
      unfold dropF keepN
      generalize l.drop (k + 1) = m
      induction m with
      | nil => simp
      | cons x m ih =>
        rw [List.filter_cons]
        split <;> simp only [List.map_cons, List.sum_cons] <;> omega
    have h2 : (l.map (fun f => f.1.size + f.2.size + 2)).sum = ((l.take k).map (fun f => f.1.size + f.2.size + 2)).sum + ((l.drop k).map (fun f => f.1.size + f.2.size + 2)).sum := by
      rw [← List.sum_append, ← List.map_append, List.take_append_drop]
    rw [List.drop_eq_getElem_cons hk, List.map_cons, List.sum_cons] at h2
    simp only [List.map_cons, List.map_nil, List.sum_cons, List.sum_nil]
    omega
theorem cat_size {T n : ByteArray} (hT : T.size ≤ 1048576) (hn : n.size ≤ 1048576) : (T ++ ⟨#[44]⟩).size ≤ 2097160 ∧ (T ++ ⟨#[44]⟩ ++ n).size ≤ 2097160 := by
  have e : (⟨#[44]⟩ : ByteArray).size = 1 := rfl
  exact ⟨by rw [ByteArray.size_append, e]; omega, by rw [ByteArray.size_append, ByteArray.size_append, e]; omega⟩
theorem isStar_decide (p : ByteArray) : isStar p = (p.toList == [42]) := rfl
end Vy
end Go.Proofs.YthocoplaehbncaaDoor
