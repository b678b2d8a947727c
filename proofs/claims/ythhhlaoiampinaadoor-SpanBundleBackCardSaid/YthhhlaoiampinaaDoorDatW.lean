/- What the calendar's functions of package date compute: isLeap, monthDays, Days, Civil; and larderref.Rest. -/
import Derived.Test.YthhhlaoiampinaaDoorChecked
import Derived.Test.YthhhlaoiampinaaDoorBase
import Derived.Test.YthhhlaoiampinaaDoorDateMath
import Derived.Handy
import Derived.Lib.Hide
import Derived.WalkLawsBesides
namespace Go.Proofs.YthhhlaoiampinaaDoor
open Go.RowKit

theorem ret_iiii {k : IntKind} {a b c d a' b' c' d' : Int} (h : a = a') (g : b = b') (i : c = c') (j : d = d') : Ending.returned (.tuple #[.int k a, .int k b, .int k c, .int k d]) = .returned (.tuple #[.int k a', .int k b', .int k c', .int k d']) := by rw [h, g, i, j]
theorem tmod_neg (n m : Int) (h : 0 < m) (h1 : n.tmod m < 0) : n.tmod m + m = n % m := by
  have a := Int.lt_tmod_of_pos n h
  have e := Int.emod_eq_tmod (a := n) (b := m)
  have p := Int.emod_nonneg n (show m ≠ 0 by omega)
  split at e <;> omega
theorem tmod_nonneg (n m : Int) (h : 0 < m) (h1 : 0 ≤ n.tmod m) : n.tmod m = n % m := by
  have e := Int.emod_eq_tmod (a := n) (b := m)
  have p := Int.emod_lt_of_pos n h
  split at e <;> omega

end Go.Proofs.YthhhlaoiampinaaDoor
