/- date's two and Print: what they answer. -/
import Derived.Test.YthhhlaoiampinaaDoorDatW
import Derived.Test.YthhhlaoiampinaaDoorDatP
import Derived.Test.YthhhlaoiampinaaDoorShelf
import Derived.Test.YthhhlaoiampinaaDoorRegion
import Derived.WalkSmall
import Derived.IntWalk
namespace Go.Proofs.YthhhlaoiampinaaDoor
set_option maxRecDepth 20000
open Go.RowKit
/-- The library's table of powers of ten lies where its row says. -/
def HasP10 (w : World) : Prop := Lib.TabIs Tryd.prog w "internal/strconv.uint64pow10" .u64 Lib.pow10Tab ∧ 6 < w.heap.size
theorem HasP10.below {B : Nat} {w w' : World} (h : HasP10 w) (hB : B = w.heap.size) (hb : Below B w w') : HasP10 w' := by
  subst hB
  exact ⟨var?_below hb (g := 6) (by kernel_rfl) h.2 h.1, Nat.lt_of_lt_of_le h.2 hb.size⟩
theorem HasP10.drew {w : World} (h : HasP10 w) : HasP10 w.drew := ⟨h.1, h.2⟩
theorem below_grow_ (B : Nat) (w : World) (hB : B ≤ w.heap.size) (k : Nat) (os : Array Obj) : Below B w (Sort.grow (w.drewN k) os) :=
  ⟨rfl, rfl, rfl, by show _ ≤ ((w.drewN k).heap ++ os).size; rw [Array.size_append]; exact Nat.le_add_right _ _, fun i hi => by
    show (w.heap ++ os)[i]? = w.heap[i]?
    rw [Array.getElem?_append_left (Nat.lt_of_lt_of_le hi hB)]⟩
theorem itoa_year (y : Nat) (w : World) (h0 : 1000 ≤ y) (h1 : y < 10000) (hp : HasP10 w) :
    Calls Tryd.prog 25 #[.int .i64 y] w fun e w' => e = .returned (.string (mkS (Dt.d4 y))) ∧ Below w.heap.size w w' := by
  refine (Tryd.strconv_Itoa (y : Int) (by omega) (by omega) w hp.1).mono fun e w' ⟨he, k, os, hw⟩ => ⟨?_, ?_⟩
  · rw [he]
    unfold Lib.itoa
    rw [if_neg (by omega), Int.toNat_natCast, Dt.dec4 y h0 h1]; rfl
  · rw [hw]; exact below_grow_ _ w (Nat.le_refl _) k os
end Go.Proofs.YthhhlaoiampinaaDoor
