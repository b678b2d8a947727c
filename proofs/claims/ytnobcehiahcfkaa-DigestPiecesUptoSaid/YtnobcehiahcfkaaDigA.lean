/- digest: RotateLeft32; mix. -/
import Derived.Test.YtnobcehiahcfkaaBytes
import Derived.Test.YtnobcehiahcfkaaRegionL
import Derived.Laws.BitsAllLaws
import Derived.BigQuiet
import Derived.Deep.QuietTactic
namespace Go.Proofs.Ytnobcehiahcfkaa
set_option maxRecDepth 20000
open Go.RowKit
/-- Turned to the right by so many binary places that b is 2 to that many, and a what it lacks to 32. -/
def rotF (a b x : Int) : Int := bits .or .u32 (x * a % 4294967296) (x / b)
set_option maxHeartbeats 1000000 in
theorem rotl_16 (x : Int) (w : World) :
    Calls Try.prog 63 #[.int .u32 x, .int .i64 (-16)] w fun e w' => e = .returned (.int .u32 (rotF 65536 65536 x)) ∧ w' = w := by
  have hA : bits .and .u64 (IntKind.u64.wrap (-16)) 31 = 16 := by decide +kernel
  go_enter Try.func63, Try.ntmps63
  go_wp2_with fail
  go_ret
  exact ⟨rfl, rfl⟩
set_option maxHeartbeats 1000000 in
theorem rotl_12 (x : Int) (w : World) :
    Calls Try.prog 63 #[.int .u32 x, .int .i64 (-12)] w fun e w' => e = .returned (.int .u32 (rotF 1048576 4096 x)) ∧ w' = w := by
  have hA : bits .and .u64 (IntKind.u64.wrap (-12)) 31 = 20 := by decide +kernel
  go_enter Try.func63, Try.ntmps63
  go_wp2_with fail
  go_ret
  exact ⟨rfl, rfl⟩
set_option maxHeartbeats 1000000 in
theorem rotl_8 (x : Int) (w : World) :
    Calls Try.prog 63 #[.int .u32 x, .int .i64 (-8)] w fun e w' => e = .returned (.int .u32 (rotF 16777216 256 x)) ∧ w' = w := by
  have hA : bits .and .u64 (IntKind.u64.wrap (-8)) 31 = 24 := by decide +kernel
  go_enter Try.func63, Try.ntmps63
  go_wp2_with fail
  go_ret
  exact ⟨rfl, rfl⟩
set_option maxHeartbeats 1000000 in
theorem rotl_7 (x : Int) (w : World) :
    Calls Try.prog 63 #[.int .u32 x, .int .i64 (-7)] w fun e w' => e = .returned (.int .u32 (rotF 33554432 128 x)) ∧ w' = w := by
  have hA : bits .and .u64 (IntKind.u64.wrap (-7)) 31 = 25 := by decide +kernel
  go_enter Try.func63, Try.ntmps63
  go_wp2_with fail
  go_ret
  exact ⟨rfl, rfl⟩
def mx4 (vs : Array Value) (i0 i1 i2 i3 : Nat) (a b c d : Int) : Array Value := (((vs.setIfInBounds i0 (.int .u32 a)).setIfInBounds i1 (.int .u32 b)).setIfInBounds i2 (.int .u32 c)).setIfInBounds i3 (.int .u32 d)
/-- Four places that are not the same, of so many. -/
structure Four (n i0 i1 i2 i3 : Nat) : Prop where
  h0 : i0 < n
  h1 : i1 < n
  h2 : i2 < n
  h3 : i3 < n
  n01 : i0 ≠ i1
  n02 : i0 ≠ i2
  n03 : i0 ≠ i3
  n12 : i1 ≠ i2
  n13 : i1 ≠ i3
  n23 : i2 ≠ i3
theorem setIf_same (xs : Array Value) (i : Nat) (a b : Value) : (xs.setIfInBounds i a).setIfInBounds i b = xs.setIfInBounds i b := by
  apply Array.ext_getElem?; intro j; simp only [Array.getElem?_setIfInBounds, Array.size_setIfInBounds]; split <;> rfl
theorem setIf_comm (xs : Array Value) {i j : Nat} (h : i ≠ j) (a b : Value) : (xs.setIfInBounds i a).setIfInBounds j b = (xs.setIfInBounds j b).setIfInBounds i a := by
  apply Array.ext_getElem?; intro k; simp only [Array.getElem?_setIfInBounds, Array.size_setIfInBounds]
  by_cases h1 : i = k
  · subst h1
    rw [if_neg (fun e => h e.symm), if_pos rfl, if_pos rfl]
  · rw [if_neg h1, if_neg h1]
section
variable {vs : Array Value} {i0 i1 i2 i3 : Nat} {a b c d : Int}
theorem mx4_a (h : Four vs.size i0 i1 i2 i3) : (mx4 vs i0 i1 i2 i3 a b c d)[i0]? = some (.int .u32 a) := by
  obtain ⟨h0, h1, h2, h3, n01, n02, n03, n12, n13, n23⟩ := h
  unfold mx4; grind
theorem mx4_b (h : Four vs.size i0 i1 i2 i3) : (mx4 vs i0 i1 i2 i3 a b c d)[i1]? = some (.int .u32 b) := by
  obtain ⟨h0, h1, h2, h3, n01, n02, n03, n12, n13, n23⟩ := h
  unfold mx4; grind
theorem mx4_c (h : Four vs.size i0 i1 i2 i3) : (mx4 vs i0 i1 i2 i3 a b c d)[i2]? = some (.int .u32 c) := by
  obtain ⟨h0, h1, h2, h3, n01, n02, n03, n12, n13, n23⟩ := h
  unfold mx4; grind
theorem mx4_d (h : Four vs.size i0 i1 i2 i3) : (mx4 vs i0 i1 i2 i3 a b c d)[i3]? = some (.int .u32 d) := by
  obtain ⟨h0, h1, h2, h3, n01, n02, n03, n12, n13, n23⟩ := h
  unfold mx4; grind
theorem mx4_setA (h : Four vs.size i0 i1 i2 i3) (u : Int) : (mx4 vs i0 i1 i2 i3 a b c d).setIfInBounds i0 (.int .u32 u) = mx4 vs i0 i1 i2 i3 u b c d := by
  unfold mx4; rw [setIf_comm _ h.n03.symm, setIf_comm _ h.n02.symm, setIf_comm _ h.n01.symm, setIf_same]
theorem mx4_setB (h : Four vs.size i0 i1 i2 i3) (u : Int) : (mx4 vs i0 i1 i2 i3 a b c d).setIfInBounds i1 (.int .u32 u) = mx4 vs i0 i1 i2 i3 a u c d := by
  unfold mx4; rw [setIf_comm _ h.n13.symm, setIf_comm _ h.n12.symm, setIf_same]
theorem mx4_setC (h : Four vs.size i0 i1 i2 i3) (u : Int) : (mx4 vs i0 i1 i2 i3 a b c d).setIfInBounds i2 (.int .u32 u) = mx4 vs i0 i1 i2 i3 a b u d := by
  unfold mx4; rw [setIf_comm _ h.n23.symm, setIf_same]
theorem mx4_setD (u : Int) : (mx4 vs i0 i1 i2 i3 a b c d).setIfInBounds i3 (.int .u32 u) = mx4 vs i0 i1 i2 i3 a b c u := by
  unfold mx4; rw [setIf_same]
theorem mx4_self (h0 : vs[i0]? = some (.int .u32 a)) (h1 : vs[i1]? = some (.int .u32 b)) (h2 : vs[i2]? = some (.int .u32 c)) (h3 : vs[i3]? = some (.int .u32 d)) : mx4 vs i0 i1 i2 i3 a b c d = vs := by
  unfold mx4; apply Array.ext_getElem?; intro j; grind
end
theorem set_grown (W : World) (b i : Nat) (v : Value) : W.grownBy (W.setCell ⟨b, i, none⟩ v) (some b) :=
  ⟨rfl, rfl, rfl, by simp [World.setCell], fun k _ hne => Below.heap_setCell _ _ _ _ (fun e => hne (by rw [e]))⟩
/-- Of a world that has grown from w0, but for block g, in which the four lie so. -/
structure Mx (w0 w : World) (g : Nat) (t : TypeId) (vs : Array Value) (i0 i1 i2 i3 : Nat) (a b c d : Int) : Prop where
  blk : Blk w g t (mx4 vs i0 i1 i2 i3 a b c d)
  four : Four vs.size i0 i1 i2 i3
  gr : w0.grownBy w (some g)
section
variable {w0 w : World} {g : Nat} {t : TypeId} {vs : Array Value} {i0 i1 i2 i3 : Nat} {a b c d : Int}
theorem Mx.ata (h : Mx w0 w g t vs i0 i1 i2 i3 a b c d) : w.cell? ⟨g, i0, none⟩ = some (.int .u32 a) := (h.blk.cell i0).trans (mx4_a h.four)
theorem Mx.atb (h : Mx w0 w g t vs i0 i1 i2 i3 a b c d) : w.cell? ⟨g, i1, none⟩ = some (.int .u32 b) := (h.blk.cell i1).trans (mx4_b h.four)
theorem Mx.atc (h : Mx w0 w g t vs i0 i1 i2 i3 a b c d) : w.cell? ⟨g, i2, none⟩ = some (.int .u32 c) := (h.blk.cell i2).trans (mx4_c h.four)
theorem Mx.atd (h : Mx w0 w g t vs i0 i1 i2 i3 a b c d) : w.cell? ⟨g, i3, none⟩ = some (.int .u32 d) := (h.blk.cell i3).trans (mx4_d h.four)
theorem grow_set {w0 w : World} {g : Nat} (h : w0.grownBy w (some g)) (i : Nat) (v : Value) : w0.grownBy (w.setCell ⟨g, i, none⟩ v) (some g) :=
  ⟨h.os, h.tape, h.output, by have := h.size; simpa [World.setCell] using this, fun k hk hne => (Below.heap_setCell _ _ _ _ (fun e => hne (by rw [e]))).trans (h.block k hk hne)⟩
theorem Mx.drew (h : Mx w0 w g t vs i0 i1 i2 i3 a b c d) : Mx w0 w.drew g t vs i0 i1 i2 i3 a b c d := ⟨h.blk, h.four, ⟨h.gr.os, h.gr.tape, h.gr.output, h.gr.size, h.gr.block⟩⟩
theorem Mx.drewN (h : Mx w0 w g t vs i0 i1 i2 i3 a b c d) (n : Nat) : Mx w0 (w.drewN n) g t vs i0 i1 i2 i3 a b c d := ⟨h.blk, h.four, ⟨h.gr.os, h.gr.tape, h.gr.output, h.gr.size, h.gr.block⟩⟩
theorem Mx.setA (h : Mx w0 w g t vs i0 i1 i2 i3 a b c d) (u : Int) : Mx w0 (w.setCell ⟨g, i0, none⟩ (.int .u32 u)) g t vs i0 i1 i2 i3 u b c d :=
  ⟨by rw [← mx4_setA h.four]; exact h.blk.set_ i0 _, h.four, grow_set h.gr i0 _⟩
theorem Mx.setB (h : Mx w0 w g t vs i0 i1 i2 i3 a b c d) (u : Int) : Mx w0 (w.setCell ⟨g, i1, none⟩ (.int .u32 u)) g t vs i0 i1 i2 i3 a u c d :=
  ⟨by rw [← mx4_setB h.four]; exact h.blk.set_ i1 _, h.four, grow_set h.gr i1 _⟩
theorem Mx.setC (h : Mx w0 w g t vs i0 i1 i2 i3 a b c d) (u : Int) : Mx w0 (w.setCell ⟨g, i2, none⟩ (.int .u32 u)) g t vs i0 i1 i2 i3 a b u d :=
  ⟨by rw [← mx4_setC h.four]; exact h.blk.set_ i2 _, h.four, grow_set h.gr i2 _⟩
theorem Mx.setD (h : Mx w0 w g t vs i0 i1 i2 i3 a b c d) (u : Int) : Mx w0 (w.setCell ⟨g, i3, none⟩ (.int .u32 u)) g t vs i0 i1 i2 i3 a b c u :=
  ⟨by rw [← mx4_setD]; exact h.blk.set_ i3 _, h.four, grow_set h.gr i3 _⟩
end
/-- One mixing of the four. -/
def mixF (a b c d x y : Int) : Int × Int × Int × Int :=
  let a1 := IntKind.u32.wrap (a + IntKind.u32.wrap (b + x))
  let d1 := rotF 65536 65536 (bits .xor .u32 d a1)
  let c1 := IntKind.u32.wrap (c + d1)
  let b1 := rotF 1048576 4096 (bits .xor .u32 b c1)
  let a2 := IntKind.u32.wrap (a1 + IntKind.u32.wrap (b1 + y))
  let d2 := rotF 16777216 256 (bits .xor .u32 d1 a2)
  let c2 := IntKind.u32.wrap (c1 + d2)
  let b2 := rotF 33554432 128 (bits .xor .u32 b1 c2)
  (a2, b2, c2, d2)
end Go.Proofs.Ytnobcehiahcfkaa
