/- strings.Join of a list that is read. -/
import Derived.Test.YthhhlaoiampinaaDoorShelf
import Derived.Test.YthhhlaoiampinaaDoorBytes
import Derived.Lib.Join
namespace Go.Proofs.YthhhlaoiampinaaDoor
open Go.RowKit
def joinL (xs : List ByteArray) (sep : ByteArray) : List UInt8 := Lib.join (xs.map sl) (sl sep)
def joinS (xs : List ByteArray) (sep : ByteArray) : ByteArray := mkS (joinL xs sep)
theorem joinS_nil (sep : ByteArray) : joinS [] sep = ByteArray.empty := rfl
theorem join_len : ∀ (xs : List (List UInt8)) (sep : List UInt8), (Lib.join xs sep).length ≤ (xs.map (fun x => x.length + sep.length)).sum
  | [], sep => by simp [Lib.join_nil]
  | x :: xs, sep => by
    have key : ∀ r : List (List UInt8), (Lib.joinTail sep r).length = (r.map (fun x => x.length + sep.length)).sum := by
      intro r
      induction r with
      | nil => rfl
      | cons y ys ih => simp only [Lib.joinTail, List.map_cons, List.flatten_cons, List.length_append, List.sum_cons] at ih ⊢; rw [ih]; omega
    rw [Lib.join_cons, List.length_append, key, List.map_cons, List.sum_cons]
    omega
theorem joinL_len (xs : List ByteArray) (sep : ByteArray) : (joinL xs sep).length ≤ (xs.map (fun x => x.size + sep.size)).sum := by
  refine Nat.le_trans (join_len _ _) (Nat.le_of_eq ?_)
  rw [List.map_map]
  exact congrArg List.sum (List.map_congr_left (fun x _ => by simp only [Function.comp, sl_len]))
theorem join_any (v : Value) (xs : List ByteArray) (sep : ByteArray) (w : World) (h : SlR w es v xs) (hx : xs.length ≤ 140737488351232) (hlen : (joinL xs sep).length ≤ 140737488351232) :
    Calls Tryd.prog 26 #[v, .string sep] w fun e w' => e = .returned (.string (joinS xs sep)) ∧ Below w.heap.size w w' := by
  by_cases hn : 0 < xs.length
  · obtain ⟨b, o, c, rfl, hc, hb, hcell⟩ := h.texts hn
    refine (Tryd.strings_Join b o c xs sep w (fun j x hj => ?_) hb (by omega) hc (by unfold joinL at hlen; exact Nat.le_trans hlen (by decide))).mono ?_
    · obtain ⟨hj1, rfl⟩ := List.getElem?_eq_some_iff.1 hj
      exact hcell j hj1
    · rintro e w' ⟨rfl, hb'⟩
      exact ⟨rfl, hb'⟩
  · have : xs = [] := List.eq_nil_of_length_eq_zero (by omega)
    subst this
    obtain ⟨A, c, rfl, hc, -⟩ := h
    refine (Tryd.strings_Join_none A c sep w).mono ?_
    rintro e w' ⟨rfl, rfl⟩
    exact ⟨rfl, Below.refl _ _⟩
end Go.Proofs.YthhhlaoiampinaaDoor
