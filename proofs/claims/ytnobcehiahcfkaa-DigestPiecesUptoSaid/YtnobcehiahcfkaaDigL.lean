/- digest: lines. -/
import Derived.Test.YtnobcehiahcfkaaDigC
import Derived.Laws.Tables
import Derived.Deep.Cut
namespace Go.Proofs.Ytnobcehiahcfkaa
set_option maxRecDepth 20000
open Go.RowKit
def linesL : List (List Nat) := [[0, 1, 2, 3, 4, 5, 6, 7, 8, 9, 10, 11, 12, 13, 14, 15], [14, 10, 4, 8, 9, 15, 13, 6, 1, 12, 0, 2, 11, 7, 5, 3], [11, 8, 12, 0, 5, 2, 15, 13, 10, 14, 3, 6, 7, 1, 9, 4], [7, 9, 3, 1, 13, 12, 11, 14, 2, 6, 5, 10, 4, 0, 15, 8], [9, 0, 5, 7, 2, 4, 10, 15, 14, 1, 11, 12, 6, 8, 3, 13], [2, 12, 6, 10, 0, 11, 8, 3, 4, 13, 7, 5, 15, 14, 1, 9], [12, 5, 1, 15, 14, 13, 4, 10, 0, 7, 6, 3, 9, 2, 8, 11], [13, 11, 7, 14, 12, 1, 3, 9, 5, 0, 15, 4, 8, 6, 2, 10], [6, 15, 14, 9, 11, 3, 0, 8, 12, 2, 13, 7, 1, 4, 10, 5], [10, 2, 8, 4, 7, 6, 1, 5, 15, 11, 9, 14, 3, 12, 13, 0]]
/-- The lines, one number behind the other. -/
def linesC : Array Value := (linesL.flatten.map fun x : Nat => Value.int .u8 (x : Int)).toArray
set_option maxHeartbeats 4000000 in
theorem lines_any (w : World) : Calls Try.prog 59 #[] w fun e w' => e = .returned (.agg linesC) ∧ Below w.heap.size w w' := by
  go_enter Try.func59, Try.ntmps59
  go_upto_region 1 with (fail)
  apply wp_region_lit
  iterate 11 (refine wpList_build rfl _ _ rfl (by kernel_rfl) ?_)
  refine wpList_store_row rfl _ _ _ rfl w.heap.size linesC (by kernel_rfl) (by kernel_rfl) 132 Try.zeroCells132 (heap_alloc_new w _) (by kernel_rfl) (by kernel_rfl) (by kernel_rfl) ?_
  apply wpList_nil
  rename_i K hK
  refine hK _ _ ?_
  clear hK K
  refine wp_ret ?_
  show bodyPost Try.prog Try.f59 (fun e w' => e = .returned (.agg linesC) ∧ Below w.heap.size w w') Exit.ret _ _
  refine bodyPost_ret (results_cell_row rfl _ _ w.heap.size _ _ (0, 0) _ (by kernel_rfl) (setRow_heap _ _ _ linesC _ _ (heap_alloc_new w _)) Try.underlying132 rfl (by kernel_rfl)) (by kernel_rfl) ⟨rfl, ?_⟩
  exact ⟨rfl, rfl, rfl, by simp, fun k hk => (setRow_other _ _ _ _ (by omega)).trans (Below.heap_alloc _ _ _ hk)⟩
/-- The same, the numbers under a name. -/
theorem lines_hid (w : World) : Calls Try.prog 59 #[] w fun e w' => (∃ CC : Array Value, Hid (CC = linesC) ∧ e = .returned (.agg CC)) ∧ Below w.heap.size w w' := by
  refine (lines_any w).mono ?_
  rintro e w' ⟨h, b⟩
  exact ⟨⟨linesC, rfl, h⟩, b⟩
end Go.Proofs.Ytnobcehiahcfkaa
