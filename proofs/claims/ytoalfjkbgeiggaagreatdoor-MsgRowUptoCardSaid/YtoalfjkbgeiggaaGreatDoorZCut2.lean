/- strings.Cut at a carriage return and a line feed. -/
import Derived.Test.YtoalfjkbgeiggaaGreatDoorZip3
import Derived.Test.YtoalfjkbgeiggaaGreatDoorZShelf
import Derived.Lib.IndexMore
namespace Go.Proofs.YtoalfjkbgeiggaaGreatDoor
open Go.RowKit
theorem cutL2_no {x y : UInt8} {l : List UInt8} (h : ¬ (x = 13 ∧ y = 10)) : cutL2 (x :: y :: l) = (cutL2 (y :: l)).map (fun p => (x :: p.1, p.2)) := by
  show (if _ then _ else _) = _
  exact if_neg h
theorem cutL2_yes {x y : UInt8} {l : List UInt8} (h : x = 13 ∧ y = 10) : cutL2 (x :: y :: l) = some ([], l) := by
  show (if _ then _ else _) = _
  exact if_pos h
theorem index_crlf : ∀ l : List UInt8, Lib.index l [13, 10] = match cutL2 l with | some (a, _) => (a.length : Int) | none => -1
  | [] => rfl
  | [x] => by
    have : ([13, 10] : List UInt8).isPrefixOf [x] = false := by simp [List.isPrefixOf]
    unfold Lib.index
    rw [this]
    simp [Lib.index, cutL2]
  | x :: y :: l => by
    have ih := index_crlf (y :: l)
    unfold Lib.index
    by_cases h : x = 13 ∧ y = 10
    · have : ([13, 10] : List UInt8).isPrefixOf (x :: y :: l) = true := by rw [h.1, h.2]; simp [List.isPrefixOf]
      rw [this, if_pos rfl]
      rw [cutL2_yes h]
      rfl
    · have : ([13, 10] : List UInt8).isPrefixOf (x :: y :: l) = false := by
        simp only [List.isPrefixOf, Bool.and_true, Bool.and_eq_false_iff, beq_eq_false_iff_ne]
        by_cases hx : x = 13
        · exact .inr (fun e => h ⟨hx, e.symm⟩)
        · exact .inl (fun e => hx e.symm)
      rw [this, ih, cutL2_no h]
      cases cutL2 (y :: l) with
      | none => rfl
      | some p =>
        obtain ⟨a, r⟩ := p
        simp only [Option.map_some, List.length_cons]
        rw [if_neg (by simp), if_neg (by simp)]
        show ((a.length : Int) + 1) = (((x :: a).length : Nat) : Int)
        rw [List.length_cons]; rfl
/-- What Cut answers there. -/
def Cut2 (s : ByteArray) (e : Ending) : Prop :=
  (∃ a r, cutL2 (sl s) = some (a, r) ∧ e = .returned (.tuple #[.string (mkS a), .string (mkS r), .bool true])) ∨ (cutL2 (sl s) = none ∧ e = .returned (.tuple #[.string s, .string ByteArray.empty, .bool false]))
theorem cut2_any (s : ByteArray) (w : World) (hs : s.size < 4294967281) (hm : ∃ m, w.cell? ⟨3, 0, none⟩ = some (.int .i64 m)) :
    Calls Tryz.prog 48 #[.string s, .string ⟨#[13, 10]⟩] w fun e w' => Cut2 s e ∧ Below w.heap.size w w' := by
  obtain ⟨m, hm⟩ := hm
  refine (Tryz.strings_Cut s ⟨#[13, 10]⟩ m w hs hm).mono fun e w' ⟨he, n, hw⟩ => ⟨?_, hw ▸ below_drewN (Below.refl _ _) _⟩
  rw [he, show s.data.toList = sl s from rfl, show (⟨#[13, 10]⟩ : ByteArray).data.toList = [13, 10] from rfl]
  have hi := index_crlf (sl s)
  unfold Lib.cut Cut2
  cases hc : cutL2 (sl s) with
  | none =>
    rw [hc] at hi
    dsimp only at hi
    rw [hi, if_neg (show ¬ (0 : Int) ≤ -1 by decide)]
    exact .inr ⟨rfl, by rw [show (⟨(sl s).toArray⟩ : ByteArray) = s from mkS_sl s]; rfl⟩
  | some p =>
    obtain ⟨a, r⟩ := p
    rw [hc] at hi
    dsimp only at hi
    have ht := cutL2_text hc
    rw [hi, if_pos (Int.natCast_nonneg a.length)]
    refine .inl ⟨a, r, rfl, ?_⟩
    have e1 : (sl s).take ((a.length : Int)).toNat = a := by rw [ht]; simp
    have e2 : (sl s).drop (((a.length : Int)).toNat + ([13, 10] : List UInt8).length) = r := by
      rw [ht, Int.toNat_natCast, List.drop_append, List.drop_of_length_le (by omega), Nat.add_sub_cancel_left]; rfl
    rw [e1, e2]
    rfl
end Go.Proofs.YtoalfjkbgeiggaaGreatDoor
