/- strings.Join of a list that is read. -/
import Derived.Test.YtoalfjkbgeiggaaDoorShelf
import Derived.Test.YtoalfjkbgeiggaaDoorBytes
import Derived.Lib.Join
namespace Go.Proofs.YtoalfjkbgeiggaaDoor
open Go.RowKit
def joinL (xs : List ByteArray) (sep : ByteArray) : List UInt8 := Lib.join (xs.map sl) (sl sep)
def joinS (xs : List ByteArray) (sep : ByteArray) : ByteArray := mkS (joinL xs sep)
theorem joinS_nil (sep : ByteArray) : joinS [] sep = ByteArray.empty := rfl
theorem join_len : ∀ (xs : List (List UInt8)) (sep : List UInt8), (Lib.join xs sep).length ≤ (xs.map (fun x => x.length + sep.length)).sum
  | [], sep => by simp [Lib.join_nil]
  | x :: xs, sep => by
    have key : ∀ r : List (List UInt8), (Lib.joinTail sep r).length = (r.map (fun x => x.length + sep.length)).sum := by
      intro r
      induction r with
      | nil => rfl
      | cons y ys ih => simp only [Lib.joinTail, List.map_cons, List.flatten_cons, List.length_append, List.sum_cons] at ih ⊢; rw [ih]; omega
    rw [Lib.join_cons, List.length_append, key, List.map_cons, List.sum_cons]
    omega
theorem joinL_len (xs : List ByteArray) (sep : ByteArray) : (joinL xs sep).length ≤ (xs.map (fun x => x.size + sep.size)).sum := by
  refine Nat.le_trans (join_len _ _) (Nat.le_of_eq ?_)
  rw [List.map_map]
  exact congrArg List.sum (List.map_congr_left (fun x _ => by simp only [Function.comp, sl_len]))
end Go.Proofs.YtoalfjkbgeiggaaDoor
