/- strconv.FormatInt at base 16: what its helpers answer. -/
import Derived.Test.YtoalfjkbgeiggaaDoorBase
import Derived.Test.YtoalfjkbgeiggaaDoorRegion
import Derived.Test.YtoalfjkbgeiggaaDoorChecked
import Derived.Test.YtoalfjkbgeiggaaDoorShelf
import Derived.Handy
import Derived.WalkLawsBesides
import Derived.Lib.ConvBytes
import Derived.Lib.Walk
import Derived.IntWalk
namespace Go.Proofs.YtoalfjkbgeiggaaDoor
set_option maxRecDepth 20000
open Go.RowKit
/-- What strconv's formatBits reads of math/bits' table. -/
def HasTz (w : World) : Prop := w.cell? ⟨4, 15, none⟩ = some (.int .u8 4)
theorem pow2_any (w : World) :
    Calls Tryd.prog 37 #[.int .i64 16] w fun e w' => e = .returned (.bool true) ∧ w = w' := by
  go_enter Tryd.func37, Tryd.ntmps37
  go_wp2_with fail
  go_ret
  exact ⟨rfl, rfl⟩
theorem tz64_any (w : World) (h : HasTz w) :
    Calls Tryd.prog 49 #[.int .u64 16] w fun e w' => e = .returned (.int .i64 4) ∧ w = w' := by
  unfold HasTz at h
  have hq : IntKind.u64.wrap (bits BinOp.and IntKind.u64 16 (IntKind.u64.wrap (-16)) * 285870213051353865) / 288230376151711744 = 15 := by decide +kernel
  go_enter Tryd.func49, Tryd.ntmps49
  go_wp2_with fail
  go_ret
  exact ⟨rfl, rfl⟩
theorem tz_any (w : World) (h : HasTz w) :
    Calls Tryd.prog 38 #[.int .u64 16] w fun e w' => e = .returned (.int .i64 4) ∧ w = w' := by
  go_enter Tryd.func38, Tryd.ntmps38
  go_wp2_with fail
  refine (tz64_any _ h).mono ?_
  rintro e w' ⟨rfl, rfl⟩
  go_wp2_with fail
  go_ret
  exact ⟨rfl, rfl⟩
end Go.Proofs.YtoalfjkbgeiggaaDoor
