/- Eq over lists of api.Field. -/
import Derived.Test.YtoalfjkbgeiggaaDoorRows2
import Derived.Test.YtoalfjkbgeiggaaDoorRegion
import Derived.Laws.StructEq
namespace Go.Proofs.YtoalfjkbgeiggaaDoor
open Go.RowKit
theorem eqGuardFld : (Tryd.prog).eqGuardType (Tryd.prog).depth 88 = false := by kernel_rfl
theorem neqFld (a0 b0 : ByteArray) (a1 b1 : ByteArray) (w : World) : (binOp .neq 88 (.agg #[.string a0, .string a1]) (.agg #[.string b0, .string b1])).run Tryd.prog w = .ok (.bool (!((a0.toList == b0.toList) && (a1.toList == b1.toList)))) w := by
  rw [run_neq_struct, run_equalIn_agg w 9999 88 _ _ (by kernel_rfl) (by kernel_rfl)]
  simp only [Program.fieldsOf, Tryd.underlying88]
  have hus := Tryd.underlying9
  cases h0 : (a0.toList == b0.toList) <;> cases h1 : (a1.toList == b1.toList) <;> go_simp
abbrev ElFld := ByteArray × ByteArray
def sameFld (x y : ElFld) : Bool := (x.1.toList == y.1.toList) && (x.2.toList == y.2.toList)
theorem sameFld_eq (x y : ElFld) : sameFld x y = decide (x = y) := by
  rw [Bool.eq_iff_iff, decide_eq_true_iff]
  obtain ⟨a0, a1⟩ := x
  obtain ⟨b0, b1⟩ := y
  simp only [sameFld, Bool.and_eq_true, beq_iff_eq, Prod.mk.injEq, ba_toList]
  constructor
  · rintro ⟨h0, h1⟩; exact ⟨sl_inj h0, sl_inj h1⟩
  · rintro ⟨rfl, rfl⟩; exact ⟨rfl, rfl⟩
end Go.Proofs.YtoalfjkbgeiggaaDoor
