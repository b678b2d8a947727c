/- digest: what a block does, in plain words. -/
import Derived.Test.YtnobcehiahcfkaaDigL
import Derived.Test.YtnobcehiahcfkaaCkA
import Derived.Laws.CopyRow
import Derived.Laws.CopyOwn
namespace Go.Proofs.Ytnobcehiahcfkaa
set_option maxRecDepth 20000
open Go.RowKit
/-- The n-th loop of a code, from the outside in. -/
def lps : Code → List Code
  | .loop c => .loop c :: lps c
  | .seq a b => lps a ++ lps b
  | .block _ c => lps c
  | .scope c => lps c
  | .cond _ a b => lps a ++ lps b
  | _ => []
noncomputable def blkLoop (n : Nat) : Code := (lps (Try.f53.body.getD .skip)).getD n .skip
/-- Numbers of 32 binary places as cells. -/
def eU (l : List Int) : Array Value := (l.map (Value.int .u32)).toArray
theorem eU_size (l : List Int) : (eU l).size = l.length := by simp [eU]
theorem eU_at (l : List Int) {i : Nat} (h : i < l.length) : (eU l)[i]? = some (.int .u32 (l.getD i 0)) := by
  simp [eU, List.getElem?_eq_getElem h]
theorem eU_set (l : List Int) (i : Nat) (x : Int) : (eU l).setIfInBounds i (.int .u32 x) = eU (l.set i x) := by
  simp [eU, List.map_set]
/-- A mixing at four places. -/
def mixV (V : List Int) (p : Nat × Nat × Nat × Nat) (x y : Int) : List Int :=
  let r := mixF (V.getD p.1 0) (V.getD p.2.1 0) (V.getD p.2.2.1 0) (V.getD p.2.2.2 0) x y
  (((V.set p.1 r.1).set p.2.1 r.2.1).set p.2.2.1 r.2.2.1).set p.2.2.2 r.2.2.2
theorem mixV_len (V : List Int) (p x y) : (mixV V p x y).length = V.length := by simp [mixV]
theorem eU_mix (V : List Int) (p : Nat × Nat × Nat × Nat) (x y : Int) : eU (mixV V p x y) = mx4 (eU V) p.1 p.2.1 p.2.2.1 p.2.2.2 (mixF (V.getD p.1 0) (V.getD p.2.1 0) (V.getD p.2.2.1 0) (V.getD p.2.2.2 0) x y).1 (mixF (V.getD p.1 0) (V.getD p.2.1 0) (V.getD p.2.2.1 0) (V.getD p.2.2.2 0) x y).2.1 (mixF (V.getD p.1 0) (V.getD p.2.1 0) (V.getD p.2.2.1 0) (V.getD p.2.2.2 0) x y).2.2.1 (mixF (V.getD p.1 0) (V.getD p.2.1 0) (V.getD p.2.2.1 0) (V.getD p.2.2.2 0) x y).2.2.2 := by
  unfold mixV mx4
  rw [eU_set, eU_set, eU_set, eU_set]
def placeL : List (Nat × Nat × Nat × Nat) := [(0, 4, 8, 12), (1, 5, 9, 13), (2, 6, 10, 14), (3, 7, 11, 15), (0, 5, 10, 15), (1, 6, 11, 12), (2, 7, 8, 13), (3, 4, 9, 14)]
/-- One step of a line. -/
def stepV (L : List Nat) (M V : List Int) (i : Nat) : List Int := mixV V (placeL.getD i (0, 0, 0, 0)) (M.getD (L.getD (2 * i) 0) 0) (M.getD (L.getD (2 * i + 1) 0) 0)
def runV (L : List Nat) (M V : List Int) (k : Nat) : List Int := (List.range k).foldl (stepV L M) V
theorem runV_zero (L : List Nat) (M V : List Int) : runV L M V 0 = V := by unfold runV; rw [List.range_zero, List.foldl_nil]
theorem runV_succ (L : List Nat) (M V : List Int) (k : Nat) : runV L M V (k + 1) = stepV L M (runV L M V k) k := by
  unfold runV; rw [List.range_succ, List.foldl_append, List.foldl_cons, List.foldl_nil]
theorem runV_len (L : List Nat) (M V : List Int) (k : Nat) : (runV L M V k).length = V.length := by
  induction k with
  | zero => rw [runV_zero]
  | succ k ih => rw [runV_succ, stepV, mixV_len, ih]
def lineV (M V : List Int) (i : Nat) : List Int := runV (linesL.getD i []) M V 8
def allV (M V : List Int) (k : Nat) : List Int := (List.range k).foldl (lineV M) V
theorem allV_succ (M V : List Int) (k : Nat) : allV M V (k + 1) = lineV M (allV M V k) k := by
  unfold allV; rw [List.range_succ, List.foldl_append, List.foldl_cons, List.foldl_nil]
theorem allV_zero (M V : List Int) : allV M V 0 = V := by unfold allV; rw [List.range_zero, List.foldl_nil]
theorem allV_len (M V : List Int) (k : Nat) : (allV M V k).length = V.length := by
  induction k with
  | zero => rw [allV_zero]
  | succ k ih => rw [allV_succ, lineV, runV_len, ih]
/-- The numbers of a line as cells. -/
def eB (l : List Nat) : Array Value := (l.map fun x : Nat => Value.int .u8 (x : Int)).toArray
theorem eB_at (l : List Nat) {i : Nat} (h : i < l.length) : (eB l)[i]? = some (.int .u8 ((l.getD i 0 : Nat) : Int)) := by
  simp [eB, List.getElem?_eq_getElem h]
theorem getD_lt {l : List Nat} (h : ∀ x ∈ l, x < 16) (i : Nat) : l.getD i 0 < 16 := by
  rw [List.getD_eq_getElem?_getD]
  cases hg : l[i]? with
  | none => simp
  | some x => simpa using h x (List.mem_of_getElem? hg)
/-- The four places of a step, as cells. -/
def plcA (i : Nat) : Array Value := #[.int .i64 ((placeL.getD i (0, 0, 0, 0)).1 : Nat), .int .i64 ((placeL.getD i (0, 0, 0, 0)).2.1 : Nat), .int .i64 ((placeL.getD i (0, 0, 0, 0)).2.2.1 : Nat), .int .i64 ((placeL.getD i (0, 0, 0, 0)).2.2.2 : Nat)]
def PPs : Array Value := #[.int .i64 0, .int .i64 4, .int .i64 8, .int .i64 12, .int .i64 1, .int .i64 5, .int .i64 9, .int .i64 13, .int .i64 2, .int .i64 6, .int .i64 10, .int .i64 14, .int .i64 3, .int .i64 7, .int .i64 11, .int .i64 15, .int .i64 0, .int .i64 5, .int .i64 10, .int .i64 15, .int .i64 1, .int .i64 6, .int .i64 11, .int .i64 12, .int .i64 2, .int .i64 7, .int .i64 8, .int .i64 13, .int .i64 3, .int .i64 4, .int .i64 9, .int .i64 14]
theorem places_ix (i : Nat) (h : i < 8) (w : World) : (Instr.index 130 (.agg PPs) (.int .i64 (i : Int))).run Try.prog w = .ok (.agg (plcA i)) w := by
  have hc : i = 0 ∨ i = 1 ∨ i = 2 ∨ i = 3 ∨ i = 4 ∨ i = 5 ∨ i = 6 ∨ i = 7 := by omega
  rcases hc with rfl | rfl | rfl | rfl | rfl | rfl | rfl | rfl <;> (show _ = _; kernel_rfl)
theorem lines_ix (i : Nat) (h : i < 10) (w : World) : (Instr.index 132 (.agg linesC) (.int .i64 (i : Int))).run Try.prog w = .ok (.agg (eB (linesL.getD i []))) w := by
  have hc : i = 0 ∨ i = 1 ∨ i = 2 ∨ i = 3 ∨ i = 4 ∨ i = 5 ∨ i = 6 ∨ i = 7 ∨ i = 8 ∨ i = 9 := by omega
  rcases hc with rfl | rfl | rfl | rfl | rfl | rfl | rfl | rfl | rfl | rfl <;> (show _ = _; kernel_rfl)
theorem lines_len (i : Nat) (h : i < 10) : (linesL.getD i []).length = 16 ∧ ∀ x ∈ linesL.getD i [], x < 16 := by
  have hc : i = 0 ∨ i = 1 ∨ i = 2 ∨ i = 3 ∨ i = 4 ∨ i = 5 ∨ i = 6 ∨ i = 7 ∨ i = 8 ∨ i = 9 := by omega
  rcases hc with rfl | rfl | rfl | rfl | rfl | rfl | rfl | rfl | rfl | rfl <;> decide
end Go.Proofs.Ytnobcehiahcfkaa
