/- FieldSetGet: the law's walk. -/
import Derived.Test.YthhhlaoiampinaaFieldLaws
import Derived.Test.YthhhlaoiampinaaEqFld
namespace Go.Proofs.Ythhhlaoiampinaa
open Go.RowKit
theorem joinS_one (a sep : ByteArray) : joinS [a] sep = a := by
  unfold joinS joinL; rw [List.map_singleton, Lib.join_one, mkS_sl]
theorem joinL_one (a sep : ByteArray) : (joinL [a] sep).length = a.size := by
  unfold joinL; rw [List.map_singleton, Lib.join_one, sl_len]
/-- Get, where just one field bears the name. -/
theorem get_one (v : Value) (l : List Fld) (n a : ByteArray) (w : World) (h : SlR w e_ss v l) (hl : l.length * 32 ≤ 140737488355328) (hz : Lims l) (hn : n.size ≤ 140737488351232) (hs : selF l n = [a]) (ha : a.size ≤ 140737488351232) :
    Calls Try.prog 17 #[v, .string n] w fun e w' => e = .returned (.tuple #[.string a, .bool true]) ∧ Below w.heap.size w w' := by
  refine (get_any v l n w h hl hz hn (by rw [hs, joinL_one]; exact ha)).mono ?_
  rintro e w' ⟨rfl, hb⟩
  exact ⟨by rw [hs, joinS_one]; rfl, hb⟩
theorem selF_sum (l : List Fld) (n : ByteArray) : ((selF l n).map (fun x => x.size + sep2.size)).sum ≤ (l.map (fun f => f.2.size + 2)).sum := by
  induction l with
  | nil => simp [selF]
  | cons f l ih =>
    have e : selF (f :: l) n = selF [f] n ++ selF l n := by rw [← selF_append]; rfl
    rw [e, List.map_append, List.sum_append, List.map_cons, List.sum_cons]
    have h2 : sep2.size = 2 := rfl
    have : ((selF [f] n).map (fun x => x.size + sep2.size)).sum ≤ f.2.size + 2 := by
      unfold selF
      cases hq : isN (lowS n) f <;> simp [hq, h2]
    omega
theorem selF_join (l : List Fld) (n : ByteArray) : (joinL (selF l n) sep2).length ≤ (l.map (fun f => f.2.size + 2)).sum := Nat.le_trans (joinL_len _ _) (selF_sum l n)
end Go.Proofs.Ythhhlaoiampinaa
