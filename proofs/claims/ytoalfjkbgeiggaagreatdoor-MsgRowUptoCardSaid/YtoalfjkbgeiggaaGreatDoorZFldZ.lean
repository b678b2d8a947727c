/- FieldBack, FieldAgain, FieldShort: the laws' walks. -/
import Derived.Test.YtoalfjkbgeiggaaGreatDoorZFldY
import Derived.Test.YtoalfjkbgeiggaaGreatDoorZip6
import Derived.Test.YtoalfjkbgeiggaaGreatDoorZRest
namespace Go.Proofs.YtoalfjkbgeiggaaGreatDoor
set_option maxRecDepth 20000
open Go.RowKit
def HasMax (w : World) : Prop := (∃ m, w.cell? ⟨3, 0, none⟩ = some (.int .i64 m)) ∧ 3 < w.heap.size
theorem HasMax.below {w w' : World} (h : HasMax w) (hb : Below w.heap.size w w') : HasMax w' :=
  ⟨h.1.elim fun m hm => ⟨m, (hb.cell h.2).trans hm⟩, Nat.lt_of_lt_of_le h.2 hb.size⟩
theorem chk_empty : chkAll [(ByteArray.empty, ByteArray.empty)] = 3 := by
  have h : Tok.isTok ByteArray.empty = false := by decide
  unfold chkAll chkL chkF
  rw [if_neg (by simp), h]
  simp
theorem parse_empty (w : World) (hm : HasMax w) : Calls Tryz.prog 33 #[.string ⟨#[]⟩] w fun e w' => e = .returned (.tuple #[.slice none 0 0, .int .i64 0, .int .i64 8]) ∧ Below w.heap.size w w' := by
  refine (parseF_any ⟨#[]⟩ w (by decide) hm.1 hm.2).mono fun e w' ⟨hp, hb⟩ => ⟨?_, hb⟩
  have h8 : parseF (⟨#[]⟩ : ByteArray).size 0 (sl ⟨#[]⟩) = .error 8 := rfl
  rcases hp with ⟨l', r', v3, q1, _⟩ | ⟨c, q1, rfl⟩
  · rw [h8] at q1; cases q1
  · rw [h8] at q1; injection q1 with q1; subst q1; rfl
end Go.Proofs.YtoalfjkbgeiggaaGreatDoor
