/- digest: mix, the walk. -/
import Derived.Test.YthhhlaoiampinaaY2
import Derived.Laws.Tables
import Derived.Deep.Cut
import Derived.Test.YthhhlaoiampinaaY0
import Derived.Test.YthhhlaoiampinaaChecked
import Derived.Deep.RegionHeld
import Derived.Laws.CopyRow
import Derived.Laws.Closers25b
import Derived.RangeFuncIn
import Derived.RangeFuncRecord
namespace Go.Proofs.Ythhhlaoiampinaa
set_option maxRecDepth 20000
open Go.RowKit
set_option maxHeartbeats 4000000 in
theorem mix_any (g i0 i1 i2 i3 : Nat) (vs : Array Value) (a b c d x y : Int) (w : World) (h4 : Four vs.size i0 i1 i2 i3) (hn : vs.size = 16) (hB : Blk w g 191 vs) (h0 : vs[i0]? = some (.int .u32 a)) (h1 : vs[i1]? = some (.int .u32 b)) (h2 : vs[i2]? = some (.int .u32 c)) (h3 : vs[i3]? = some (.int .u32 d)) :
    Calls Try.prog 124 #[.pointer (some ⟨g, 0, none⟩), .agg #[.int .i64 i0, .int .i64 i1, .int .i64 i2, .int .i64 i3], .int .u32 x, .int .u32 y] w fun e w' => e = .returned (.tuple #[]) ∧ Mx w w' g 191 vs i0 i1 i2 i3 (mixF a b c d x y).1 (mixF a b c d x y).2.1 (mixF a b c d x y).2.2.1 (mixF a b c d x y).2.2.2 := by
  have hX := Blk.new w 193 #[.int .i64 i0, .int .i64 i1, .int .i64 i2, .int .i64 i3]
  have hM : Mx w (w.alloc (.cells #[.int .i64 i0, .int .i64 i1, .int .i64 i2, .int .i64 i3] 193)) g 191 vs i0 i1 i2 i3 a b c d :=
    ⟨by rw [mx4_self h0 h1 h2 h3]; exact hB.alloc _, h4, World.grownBy_alloc _ _ _⟩
  have e0 := hX.cell 0
  have e1 := hX.cell 1
  have e2 := hX.cell 2
  have e3 := hX.cell 3
  obtain ⟨q0, q1, q2, q3, -⟩ := id h4
  have l0 : (i0 : Int) < 16 := by omega
  have l1 : (i1 : Int) < 16 := by omega
  have l2 : (i2 : Int) < 16 := by omega
  have l3 : (i3 : Int) < 16 := by omega
  clear h0 h1 h2 h3 hB hn q0 q1 q2 q3
  go_enter Try.func124, Try.ntmps124
  go_wp2_with fail
  go_quiet (fail)
  have hM1 := hM.drewN nq
  clear hX e0 e1 e2 e3 l0 l1 l2 l3 hM
  generalize (w.alloc (.cells #[.int .i64 i0, .int .i64 i1, .int .i64 i2, .int .i64 i3] 193)).drewN nq = W1 at hM1 ⊢
  go_wp2_with fail
  have cA := hM1.drew.ata
  have cB := hM1.drew.atb
  have cC := hM1.drew.atc
  have cD := hM1.drew.atd
  have fX := hM1.drew.blk.frozen i0
  refine wp_region_last [(true, 0), (true, 1), (true, 2), (true, 3), (true, 4), (true, 5), (true, 6), (true, 7), (true, 8), (true, 9), (false, 10)] 10 (fun w' => w' = W1.drew) (by kernel_rfl) (by kernel_rfl) (by kernel_rfl) (fun _ _ _ _ _ h => h) (by kernel_rfl) (by kernel_rfl) ?_ ?_
  · rfl
  iterate 10 (first | (apply seqL_skip; (focus (simp only [List.getElem?_toArray, List.getElem?_cons_succ, List.getElem?_cons_zero]; rfl)); (focus rfl); simp only [Act.put, List.setIfInBounds_toArray, List.set_cons_zero, List.set_cons_succ]) | (apply seqL_take; (focus (simp only [List.getElem?_toArray, List.getElem?_cons_succ, List.getElem?_cons_zero]; rfl)); (focus rfl); (focus (intro w' hS; subst hS; first | (go_simp; rfl) | (go_simp; done))); simp only [Act.put, List.setIfInBounds_toArray, List.set_cons_zero, List.set_cons_succ]))
  apply seqL_eff
  (focus (simp only [List.getElem?_toArray, List.getElem?_cons_succ, List.getElem?_cons_zero]; rfl))
  (focus rfl)
  intro K hK
  go_simp
  refine hK _ _ ⟨fun h => absurd rfl h, ?_⟩
  clear hK K
  refine seqL_nil ?_
  have hM2 := (hM1.setA (IntKind.u32.wrap (a + IntKind.u32.wrap (b + x)))).drew
  clear cA cB cC cD fX hM1
  generalize (W1.setCell ⟨g, i0, none⟩ (.int .u32 (IntKind.u32.wrap (a + IntKind.u32.wrap (b + x))))).drew = W2 at hM2 ⊢
  obtain ⟨a1, ha1⟩ : ∃ z, z = IntKind.u32.wrap (a + IntKind.u32.wrap (b + x)) := ⟨_, rfl⟩
  rw [← ha1] at hM2 ⊢
  have Ha1 := Lib.hid ha1
  clear ha1
  go_wp2_with fail
  have cA := hM2.drew.ata
  have cB := hM2.drew.atb
  have cC := hM2.drew.atc
  have cD := hM2.drew.atd
  have fX := hM2.drew.blk.frozen i3
  refine wp_region_last [(true, 0), (true, 1), (true, 2), (true, 3), (true, 4), (true, 5), (true, 6), (true, 7), (false, 8), (true, 9), (false, 10)] 10 (fun w' => w' = W2.drew) (by kernel_rfl) (by kernel_rfl) (by kernel_rfl) (fun _ _ _ _ _ h => h) (by kernel_rfl) (by kernel_rfl) ?_ ?_
  · rfl
  iterate 8 (first | (apply seqL_skip; (focus (simp only [List.getElem?_toArray, List.getElem?_cons_succ, List.getElem?_cons_zero]; rfl)); (focus rfl); simp only [Act.put, List.setIfInBounds_toArray, List.set_cons_zero, List.set_cons_succ]) | (apply seqL_take; (focus (simp only [List.getElem?_toArray, List.getElem?_cons_succ, List.getElem?_cons_zero]; rfl)); (focus rfl); (focus (intro w' hS; subst hS; first | (go_simp; rfl) | (go_simp; done))); simp only [Act.put, List.setIfInBounds_toArray, List.set_cons_zero, List.set_cons_succ]))
  apply seqL_eff
  (focus (simp only [List.getElem?_toArray, List.getElem?_cons_succ, List.getElem?_cons_zero]; rfl))
  (focus rfl)
  intro K hK
  go_simp
  refine (rotl_16 _ _).mono ?_
  rintro e w1 ⟨rfl, rfl⟩
  refine hK _ _ ⟨fun _ => rfl, ?_⟩
  clear hK K
  iterate 1 (first | (apply seqL_skip; (focus (simp only [List.getElem?_toArray, List.getElem?_cons_succ, List.getElem?_cons_zero]; rfl)); (focus rfl); simp only [Act.put, List.setIfInBounds_toArray, List.set_cons_zero, List.set_cons_succ]) | (apply seqL_take; (focus (simp only [List.getElem?_toArray, List.getElem?_cons_succ, List.getElem?_cons_zero]; rfl)); (focus rfl); (focus (intro w' hS; subst hS; first | (go_simp; rfl) | (go_simp; done))); simp only [Act.put, List.setIfInBounds_toArray, List.set_cons_zero, List.set_cons_succ]))
  apply seqL_eff
  (focus (simp only [List.getElem?_toArray, List.getElem?_cons_succ, List.getElem?_cons_zero]; rfl))
  (focus rfl)
  intro K hK
  go_simp
  refine hK _ _ ⟨fun h => absurd rfl h, ?_⟩
  clear hK K
  refine seqL_nil ?_
  have hM3 := (hM2.setD (rotF 65536 65536 (bits .xor .u32 d a1))).drew
  clear cA cB cC cD fX hM2
  generalize (W2.setCell ⟨g, i3, none⟩ (.int .u32 (rotF 65536 65536 (bits .xor .u32 d a1)))).drew = W3 at hM3 ⊢
  obtain ⟨d1, hd1⟩ : ∃ z, z = rotF 65536 65536 (bits .xor .u32 d a1) := ⟨_, rfl⟩
  rw [← hd1] at hM3 ⊢
  have Hd1 := Lib.hid hd1
  clear hd1
  go_wp2_with fail
  have cA := hM3.drew.ata
  have cB := hM3.drew.atb
  have cC := hM3.drew.atc
  have cD := hM3.drew.atd
  have fX := hM3.drew.blk.frozen i2
  refine wp_region_last [(true, 0), (true, 1), (true, 2), (true, 3), (true, 4), (true, 5), (true, 6), (true, 7), (false, 8)] 8 (fun w' => w' = W3.drew) (by kernel_rfl) (by kernel_rfl) (by kernel_rfl) (fun _ _ _ _ _ h => h) (by kernel_rfl) (by kernel_rfl) ?_ ?_
  · rfl
  iterate 8 (first | (apply seqL_skip; (focus (simp only [List.getElem?_toArray, List.getElem?_cons_succ, List.getElem?_cons_zero]; rfl)); (focus rfl); simp only [Act.put, List.setIfInBounds_toArray, List.set_cons_zero, List.set_cons_succ]) | (apply seqL_take; (focus (simp only [List.getElem?_toArray, List.getElem?_cons_succ, List.getElem?_cons_zero]; rfl)); (focus rfl); (focus (intro w' hS; subst hS; first | (go_simp; rfl) | (go_simp; done))); simp only [Act.put, List.setIfInBounds_toArray, List.set_cons_zero, List.set_cons_succ]))
  apply seqL_eff
  (focus (simp only [List.getElem?_toArray, List.getElem?_cons_succ, List.getElem?_cons_zero]; rfl))
  (focus rfl)
  intro K hK
  go_simp
  refine hK _ _ ⟨fun h => absurd rfl h, ?_⟩
  clear hK K
  refine seqL_nil ?_
  have hM4 := (hM3.setC (IntKind.u32.wrap (c + d1))).drew
  clear cA cB cC cD fX hM3
  generalize (W3.setCell ⟨g, i2, none⟩ (.int .u32 (IntKind.u32.wrap (c + d1)))).drew = W4 at hM4 ⊢
  obtain ⟨c1, hc1⟩ : ∃ z, z = IntKind.u32.wrap (c + d1) := ⟨_, rfl⟩
  rw [← hc1] at hM4 ⊢
  have Hc1 := Lib.hid hc1
  clear hc1
  go_wp2_with fail
  have cA := hM4.drew.ata
  have cB := hM4.drew.atb
  have cC := hM4.drew.atc
  have cD := hM4.drew.atd
  have fX := hM4.drew.blk.frozen i1
  refine wp_region_last [(true, 0), (true, 1), (true, 2), (true, 3), (true, 4), (true, 5), (true, 6), (true, 7), (false, 8), (true, 9), (false, 10)] 10 (fun w' => w' = W4.drew) (by kernel_rfl) (by kernel_rfl) (by kernel_rfl) (fun _ _ _ _ _ h => h) (by kernel_rfl) (by kernel_rfl) ?_ ?_
  · rfl
  iterate 8 (first | (apply seqL_skip; (focus (simp only [List.getElem?_toArray, List.getElem?_cons_succ, List.getElem?_cons_zero]; rfl)); (focus rfl); simp only [Act.put, List.setIfInBounds_toArray, List.set_cons_zero, List.set_cons_succ]) | (apply seqL_take; (focus (simp only [List.getElem?_toArray, List.getElem?_cons_succ, List.getElem?_cons_zero]; rfl)); (focus rfl); (focus (intro w' hS; subst hS; first | (go_simp; rfl) | (go_simp; done))); simp only [Act.put, List.setIfInBounds_toArray, List.set_cons_zero, List.set_cons_succ]))
  apply seqL_eff
  (focus (simp only [List.getElem?_toArray, List.getElem?_cons_succ, List.getElem?_cons_zero]; rfl))
  (focus rfl)
  intro K hK
  go_simp
  refine (rotl_12 _ _).mono ?_
  rintro e w1 ⟨rfl, rfl⟩
  refine hK _ _ ⟨fun _ => rfl, ?_⟩
  clear hK K
  iterate 1 (first | (apply seqL_skip; (focus (simp only [List.getElem?_toArray, List.getElem?_cons_succ, List.getElem?_cons_zero]; rfl)); (focus rfl); simp only [Act.put, List.setIfInBounds_toArray, List.set_cons_zero, List.set_cons_succ]) | (apply seqL_take; (focus (simp only [List.getElem?_toArray, List.getElem?_cons_succ, List.getElem?_cons_zero]; rfl)); (focus rfl); (focus (intro w' hS; subst hS; first | (go_simp; rfl) | (go_simp; done))); simp only [Act.put, List.setIfInBounds_toArray, List.set_cons_zero, List.set_cons_succ]))
  apply seqL_eff
  (focus (simp only [List.getElem?_toArray, List.getElem?_cons_succ, List.getElem?_cons_zero]; rfl))
  (focus rfl)
  intro K hK
  go_simp
  refine hK _ _ ⟨fun h => absurd rfl h, ?_⟩
  clear hK K
  refine seqL_nil ?_
  have hM5 := (hM4.setB (rotF 1048576 4096 (bits .xor .u32 b c1))).drew
  clear cA cB cC cD fX hM4
  generalize (W4.setCell ⟨g, i1, none⟩ (.int .u32 (rotF 1048576 4096 (bits .xor .u32 b c1)))).drew = W5 at hM5 ⊢
  obtain ⟨b1, hb1⟩ : ∃ z, z = rotF 1048576 4096 (bits .xor .u32 b c1) := ⟨_, rfl⟩
  rw [← hb1] at hM5 ⊢
  have Hb1 := Lib.hid hb1
  clear hb1
  go_wp2_with fail
  have cA := hM5.drew.ata
  have cB := hM5.drew.atb
  have cC := hM5.drew.atc
  have cD := hM5.drew.atd
  have fX := hM5.drew.blk.frozen i0
  refine wp_region_last [(true, 0), (true, 1), (true, 2), (true, 3), (true, 4), (true, 5), (true, 6), (true, 7), (true, 8), (true, 9), (false, 10)] 10 (fun w' => w' = W5.drew) (by kernel_rfl) (by kernel_rfl) (by kernel_rfl) (fun _ _ _ _ _ h => h) (by kernel_rfl) (by kernel_rfl) ?_ ?_
  · rfl
  iterate 10 (first | (apply seqL_skip; (focus (simp only [List.getElem?_toArray, List.getElem?_cons_succ, List.getElem?_cons_zero]; rfl)); (focus rfl); simp only [Act.put, List.setIfInBounds_toArray, List.set_cons_zero, List.set_cons_succ]) | (apply seqL_take; (focus (simp only [List.getElem?_toArray, List.getElem?_cons_succ, List.getElem?_cons_zero]; rfl)); (focus rfl); (focus (intro w' hS; subst hS; first | (go_simp; rfl) | (go_simp; done))); simp only [Act.put, List.setIfInBounds_toArray, List.set_cons_zero, List.set_cons_succ]))
  apply seqL_eff
  (focus (simp only [List.getElem?_toArray, List.getElem?_cons_succ, List.getElem?_cons_zero]; rfl))
  (focus rfl)
  intro K hK
  go_simp
  refine hK _ _ ⟨fun h => absurd rfl h, ?_⟩
  clear hK K
  refine seqL_nil ?_
  have hM6 := (hM5.setA (IntKind.u32.wrap (a1 + IntKind.u32.wrap (b1 + y)))).drew
  clear cA cB cC cD fX hM5
  generalize (W5.setCell ⟨g, i0, none⟩ (.int .u32 (IntKind.u32.wrap (a1 + IntKind.u32.wrap (b1 + y))))).drew = W6 at hM6 ⊢
  obtain ⟨a2, ha2⟩ : ∃ z, z = IntKind.u32.wrap (a1 + IntKind.u32.wrap (b1 + y)) := ⟨_, rfl⟩
  rw [← ha2] at hM6 ⊢
  have Ha2 := Lib.hid ha2
  clear ha2
  go_wp2_with fail
  have cA := hM6.drew.ata
  have cB := hM6.drew.atb
  have cC := hM6.drew.atc
  have cD := hM6.drew.atd
  have fX := hM6.drew.blk.frozen i3
  refine wp_region_last [(true, 0), (true, 1), (true, 2), (true, 3), (true, 4), (true, 5), (true, 6), (true, 7), (false, 8), (true, 9), (false, 10)] 10 (fun w' => w' = W6.drew) (by kernel_rfl) (by kernel_rfl) (by kernel_rfl) (fun _ _ _ _ _ h => h) (by kernel_rfl) (by kernel_rfl) ?_ ?_
  · rfl
  iterate 8 (first | (apply seqL_skip; (focus (simp only [List.getElem?_toArray, List.getElem?_cons_succ, List.getElem?_cons_zero]; rfl)); (focus rfl); simp only [Act.put, List.setIfInBounds_toArray, List.set_cons_zero, List.set_cons_succ]) | (apply seqL_take; (focus (simp only [List.getElem?_toArray, List.getElem?_cons_succ, List.getElem?_cons_zero]; rfl)); (focus rfl); (focus (intro w' hS; subst hS; first | (go_simp; rfl) | (go_simp; done))); simp only [Act.put, List.setIfInBounds_toArray, List.set_cons_zero, List.set_cons_succ]))
  apply seqL_eff
  (focus (simp only [List.getElem?_toArray, List.getElem?_cons_succ, List.getElem?_cons_zero]; rfl))
  (focus rfl)
  intro K hK
  go_simp
  refine (rotl_8 _ _).mono ?_
  rintro e w1 ⟨rfl, rfl⟩
  refine hK _ _ ⟨fun _ => rfl, ?_⟩
  clear hK K
  iterate 1 (first | (apply seqL_skip; (focus (simp only [List.getElem?_toArray, List.getElem?_cons_succ, List.getElem?_cons_zero]; rfl)); (focus rfl); simp only [Act.put, List.setIfInBounds_toArray, List.set_cons_zero, List.set_cons_succ]) | (apply seqL_take; (focus (simp only [List.getElem?_toArray, List.getElem?_cons_succ, List.getElem?_cons_zero]; rfl)); (focus rfl); (focus (intro w' hS; subst hS; first | (go_simp; rfl) | (go_simp; done))); simp only [Act.put, List.setIfInBounds_toArray, List.set_cons_zero, List.set_cons_succ]))
  apply seqL_eff
  (focus (simp only [List.getElem?_toArray, List.getElem?_cons_succ, List.getElem?_cons_zero]; rfl))
  (focus rfl)
  intro K hK
  go_simp
  refine hK _ _ ⟨fun h => absurd rfl h, ?_⟩
  clear hK K
  refine seqL_nil ?_
  have hM7 := (hM6.setD (rotF 16777216 256 (bits .xor .u32 d1 a2))).drew
  clear cA cB cC cD fX hM6
  generalize (W6.setCell ⟨g, i3, none⟩ (.int .u32 (rotF 16777216 256 (bits .xor .u32 d1 a2)))).drew = W7 at hM7 ⊢
  obtain ⟨d2, hd2⟩ : ∃ z, z = rotF 16777216 256 (bits .xor .u32 d1 a2) := ⟨_, rfl⟩
  rw [← hd2] at hM7 ⊢
  have Hd2 := Lib.hid hd2
  clear hd2
  go_wp2_with fail
  have cA := hM7.drew.ata
  have cB := hM7.drew.atb
  have cC := hM7.drew.atc
  have cD := hM7.drew.atd
  have fX := hM7.drew.blk.frozen i2
  refine wp_region_last [(true, 0), (true, 1), (true, 2), (true, 3), (true, 4), (true, 5), (true, 6), (true, 7), (false, 8)] 8 (fun w' => w' = W7.drew) (by kernel_rfl) (by kernel_rfl) (by kernel_rfl) (fun _ _ _ _ _ h => h) (by kernel_rfl) (by kernel_rfl) ?_ ?_
  · rfl
  iterate 8 (first | (apply seqL_skip; (focus (simp only [List.getElem?_toArray, List.getElem?_cons_succ, List.getElem?_cons_zero]; rfl)); (focus rfl); simp only [Act.put, List.setIfInBounds_toArray, List.set_cons_zero, List.set_cons_succ]) | (apply seqL_take; (focus (simp only [List.getElem?_toArray, List.getElem?_cons_succ, List.getElem?_cons_zero]; rfl)); (focus rfl); (focus (intro w' hS; subst hS; first | (go_simp; rfl) | (go_simp; done))); simp only [Act.put, List.setIfInBounds_toArray, List.set_cons_zero, List.set_cons_succ]))
  apply seqL_eff
  (focus (simp only [List.getElem?_toArray, List.getElem?_cons_succ, List.getElem?_cons_zero]; rfl))
  (focus rfl)
  intro K hK
  go_simp
  refine hK _ _ ⟨fun h => absurd rfl h, ?_⟩
  clear hK K
  refine seqL_nil ?_
  have hM8 := (hM7.setC (IntKind.u32.wrap (c1 + d2))).drew
  clear cA cB cC cD fX hM7
  generalize (W7.setCell ⟨g, i2, none⟩ (.int .u32 (IntKind.u32.wrap (c1 + d2)))).drew = W8 at hM8 ⊢
  obtain ⟨c2, hc2⟩ : ∃ z, z = IntKind.u32.wrap (c1 + d2) := ⟨_, rfl⟩
  rw [← hc2] at hM8 ⊢
  have Hc2 := Lib.hid hc2
  clear hc2
  go_wp2_with fail
  have cA := hM8.drew.ata
  have cB := hM8.drew.atb
  have cC := hM8.drew.atc
  have cD := hM8.drew.atd
  have fX := hM8.drew.blk.frozen i1
  refine wp_region_last [(true, 0), (true, 1), (true, 2), (true, 3), (true, 4), (true, 5), (true, 6), (true, 7), (false, 8), (true, 9), (false, 10)] 10 (fun w' => w' = W8.drew) (by kernel_rfl) (by kernel_rfl) (by kernel_rfl) (fun _ _ _ _ _ h => h) (by kernel_rfl) (by kernel_rfl) ?_ ?_
  · rfl
  iterate 8 (first | (apply seqL_skip; (focus (simp only [List.getElem?_toArray, List.getElem?_cons_succ, List.getElem?_cons_zero]; rfl)); (focus rfl); simp only [Act.put, List.setIfInBounds_toArray, List.set_cons_zero, List.set_cons_succ]) | (apply seqL_take; (focus (simp only [List.getElem?_toArray, List.getElem?_cons_succ, List.getElem?_cons_zero]; rfl)); (focus rfl); (focus (intro w' hS; subst hS; first | (go_simp; rfl) | (go_simp; done))); simp only [Act.put, List.setIfInBounds_toArray, List.set_cons_zero, List.set_cons_succ]))
  apply seqL_eff
  (focus (simp only [List.getElem?_toArray, List.getElem?_cons_succ, List.getElem?_cons_zero]; rfl))
  (focus rfl)
  intro K hK
  go_simp
  refine (rotl_7 _ _).mono ?_
  rintro e w1 ⟨rfl, rfl⟩
  refine hK _ _ ⟨fun _ => rfl, ?_⟩
  clear hK K
  iterate 1 (first | (apply seqL_skip; (focus (simp only [List.getElem?_toArray, List.getElem?_cons_succ, List.getElem?_cons_zero]; rfl)); (focus rfl); simp only [Act.put, List.setIfInBounds_toArray, List.set_cons_zero, List.set_cons_succ]) | (apply seqL_take; (focus (simp only [List.getElem?_toArray, List.getElem?_cons_succ, List.getElem?_cons_zero]; rfl)); (focus rfl); (focus (intro w' hS; subst hS; first | (go_simp; rfl) | (go_simp; done))); simp only [Act.put, List.setIfInBounds_toArray, List.set_cons_zero, List.set_cons_succ]))
  apply seqL_eff
  (focus (simp only [List.getElem?_toArray, List.getElem?_cons_succ, List.getElem?_cons_zero]; rfl))
  (focus rfl)
  intro K hK
  go_simp
  refine hK _ _ ⟨fun h => absurd rfl h, ?_⟩
  clear hK K
  refine seqL_nil ?_
  have hM9 := (hM8.setB (rotF 33554432 128 (bits .xor .u32 b1 c2))).drew
  clear cA cB cC cD fX hM8
  generalize (W8.setCell ⟨g, i1, none⟩ (.int .u32 (rotF 33554432 128 (bits .xor .u32 b1 c2)))).drew = W9 at hM9 ⊢
  obtain ⟨b2, hb2⟩ : ∃ z, z = rotF 33554432 128 (bits .xor .u32 b1 c2) := ⟨_, rfl⟩
  rw [← hb2] at hM9 ⊢
  have Hb2 := Lib.hid hb2
  clear hb2
  go_wp2_with fail
  go_end0
  have eb2 := Hb2.out
  subst eb2
  have ec2 := Hc2.out
  subst ec2
  have ed2 := Hd2.out
  subst ed2
  have ea2 := Ha2.out
  subst ea2
  have eb1 := Hb1.out
  subst eb1
  have ec1 := Hc1.out
  subst ec1
  have ed1 := Hd1.out
  subst ed1
  have ea1 := Ha1.out
  subst ea1
  exact ⟨rfl, hM9⟩
end Go.Proofs.Ythhhlaoiampinaa
namespace Go.Proofs.Ythhhlaoiampinaa
set_option maxRecDepth 20000
open Go.RowKit
def ivs : List Int := [1779033703, 3144134277, 1013904242, 2773480762, 1359893119, 2600822924, 528734635, 1541459225]
def u32s (l : List Int) : Array Value := (l.map (Value.int .u32)).toArray
set_option maxHeartbeats 4000000 in
theorem iv_any (w : World) : Calls Try.prog 109 #[] w fun e w' => e = .returned (.agg #[.int .u32 1779033703, .int .u32 3144134277, .int .u32 1013904242, .int .u32 2773480762, .int .u32 1359893119, .int .u32 2600822924, .int .u32 528734635, .int .u32 1541459225]) ∧ Below w.heap.size w w' := by
  go_enter Try.func109, Try.ntmps109
  go_wp2_with fail
  exact bodyPost_ret (results_cell_row rfl _ _ w.heap.size _ _ (0, 0) _ rfl (Blk.new w _ _) Try.underlying171 rfl (by kernel_rfl)) rfl ⟨rfl, (Below.refl _ w).alloc (Nat.le_refl _) _⟩
end Go.Proofs.Ythhhlaoiampinaa
namespace Go.Proofs.Ythhhlaoiampinaa
set_option maxRecDepth 20000
open Go.RowKit
def linesL : List (List Nat) := [[0, 1, 2, 3, 4, 5, 6, 7, 8, 9, 10, 11, 12, 13, 14, 15], [14, 10, 4, 8, 9, 15, 13, 6, 1, 12, 0, 2, 11, 7, 5, 3], [11, 8, 12, 0, 5, 2, 15, 13, 10, 14, 3, 6, 7, 1, 9, 4], [7, 9, 3, 1, 13, 12, 11, 14, 2, 6, 5, 10, 4, 0, 15, 8], [9, 0, 5, 7, 2, 4, 10, 15, 14, 1, 11, 12, 6, 8, 3, 13], [2, 12, 6, 10, 0, 11, 8, 3, 4, 13, 7, 5, 15, 14, 1, 9], [12, 5, 1, 15, 14, 13, 4, 10, 0, 7, 6, 3, 9, 2, 8, 11], [13, 11, 7, 14, 12, 1, 3, 9, 5, 0, 15, 4, 8, 6, 2, 10], [6, 15, 14, 9, 11, 3, 0, 8, 12, 2, 13, 7, 1, 4, 10, 5], [10, 2, 8, 4, 7, 6, 1, 5, 15, 11, 9, 14, 3, 12, 13, 0]]
/-- The lines, one number behind the other. -/
def linesC : Array Value := (linesL.flatten.map fun x : Nat => Value.int .u8 (x : Int)).toArray
set_option maxHeartbeats 4000000 in
theorem lines_any (w : World) : Calls Try.prog 123 #[] w fun e w' => e = .returned (.agg linesC) ∧ Below w.heap.size w w' := by
  go_enter Try.func123, Try.ntmps123
  go_upto_region 1 with (fail)
  apply wp_region_lit
  iterate 11 (refine wpList_build rfl _ _ rfl (by kernel_rfl) ?_)
  refine wpList_store_row rfl _ _ _ rfl w.heap.size linesC (by kernel_rfl) (by kernel_rfl) 196 Try.zeroCells196 (heap_alloc_new w _) (by kernel_rfl) (by kernel_rfl) (by kernel_rfl) ?_
  apply wpList_nil
  rename_i K hK
  refine hK _ _ ?_
  clear hK K
  refine wp_ret ?_
  show bodyPost Try.prog Try.f123 (fun e w' => e = .returned (.agg linesC) ∧ Below w.heap.size w w') Exit.ret _ _
  refine bodyPost_ret (results_cell_row rfl _ _ w.heap.size _ _ (0, 0) _ (by kernel_rfl) (setRow_heap _ _ _ linesC _ _ (heap_alloc_new w _)) Try.underlying196 rfl (by kernel_rfl)) (by kernel_rfl) ⟨rfl, ?_⟩
  exact ⟨rfl, rfl, rfl, by simp, fun k hk => (setRow_other _ _ _ _ (by omega)).trans (Below.heap_alloc _ _ _ hk)⟩
/-- The same, the numbers under a name. -/
theorem lines_hid (w : World) : Calls Try.prog 123 #[] w fun e w' => (∃ CC : Array Value, Hid (CC = linesC) ∧ e = .returned (.agg CC)) ∧ Below w.heap.size w w' := by
  refine (lines_any w).mono ?_
  rintro e w' ⟨h, b⟩
  exact ⟨⟨linesC, rfl, h⟩, b⟩
end Go.Proofs.Ythhhlaoiampinaa
namespace Go.Proofs.Ythhhlaoiampinaa
namespace Pc
variable (g : UInt8 → Nat)
/-- The sum behind one more byte. -/
def nx (S : Nat) (c : UInt8) : Nat := (S * 2 + g c) % 4294967296
/-- Is a piece of n bytes at its end here? -/
def ends (S n : Nat) : Bool := decide (16 ≤ n) && (S / 134217728 == 0 || decide (128 ≤ n))
def cuts : Nat → List UInt8 → List UInt8 → List (List UInt8) × Nat × List UInt8
  | S, r, [] => ([], S, r)
  | S, r, c :: s => if ends (nx g S c) (r ++ [c]).length then ((r ++ [c]) :: (cuts (nx g S c) [] s).1, (cuts (nx g S c) [] s).2) else cuts (nx g S c) (r ++ [c]) s
def tl (r : List UInt8) : List (List UInt8) := if r = [] then [] else [r]
def cut (s : List UInt8) : List (List UInt8) := (cuts g 0 [] s).1 ++ tl (cuts g 0 [] s).2.2

theorem cuts_append : ∀ (S : Nat) (r s t : List UInt8), cuts g S r (s ++ t) = ((cuts g S r s).1 ++ (cuts g (cuts g S r s).2.1 (cuts g S r s).2.2 t).1, (cuts g (cuts g S r s).2.1 (cuts g S r s).2.2 t).2)
  | S, r, [], t => by simp [cuts]
  | S, r, c :: s, t => by
    rw [List.cons_append, cuts, cuts]
    split
    · rw [cuts_append]; simp
    · rw [cuts_append]
theorem cuts_snoc (S : Nat) (r s : List UInt8) (c : UInt8) : cuts g S r (s ++ [c]) = if ends (nx g (cuts g S r s).2.1 c) ((cuts g S r s).2.2 ++ [c]).length then ((cuts g S r s).1 ++ [(cuts g S r s).2.2 ++ [c]], nx g (cuts g S r s).2.1 c, []) else ((cuts g S r s).1, nx g (cuts g S r s).2.1 c, (cuts g S r s).2.2 ++ [c]) := by
  rw [cuts_append]
  simp only [cuts]
  split <;> simp
theorem cuts_flat : ∀ (S : Nat) (r s : List UInt8), (cuts g S r s).1.flatten ++ (cuts g S r s).2.2 = r ++ s
  | S, r, [] => by simp [cuts]
  | S, r, c :: s => by
    rw [cuts]
    split
    · have := cuts_flat (nx g S c) [] s
      simp only [List.flatten_cons, List.append_assoc, this]; simp
    · rw [cuts_flat]; simp
theorem cuts_sizes : ∀ (S : Nat) (r s : List UInt8), r.length < 128 → (∀ p ∈ (cuts g S r s).1, 16 ≤ p.length ∧ p.length ≤ 128) ∧ (cuts g S r s).2.2.length < 128
  | S, r, [], h => by simp [cuts, h]
  | S, r, c :: s, h => by
    rw [cuts]
    split
    case isTrue he =>
      have := cuts_sizes (nx g S c) [] s (by decide)
      refine ⟨fun p hp => ?_, this.2⟩
      rcases List.mem_cons.1 hp with rfl | hp
      · simp only [ends, Bool.and_eq_true, decide_eq_true_eq] at he
        refine ⟨he.1, by simp; omega⟩
      · exact this.1 p hp
    case isFalse he =>
      refine cuts_sizes _ _ s ?_
      simp only [ends, Bool.and_eq_true, decide_eq_true_eq, Bool.or_eq_true, not_and, not_or, Nat.not_le] at he
      simp only [List.length_append, List.length_cons, List.length_nil] at he ⊢
      by_cases h16 : 16 ≤ r.length + (0 + 1)
      · exact (he h16).2
      · omega
theorem cuts_sum : ∀ (S : Nat) (r s : List UInt8), S < 4294967296 → (cuts g S r s).2.1 < 4294967296
  | S, r, [], h => by simp [cuts, h]
  | S, r, c :: s, h => by
    rw [cuts]
    split
    · exact cuts_sum _ _ s (Nat.mod_lt _ (by decide))
    · exact cuts_sum _ _ s (Nat.mod_lt _ (by decide))
theorem tl_flat (r : List UInt8) : (tl r).flatten = r := by unfold tl; split <;> simp_all
/-- All pieces together are the text. -/
theorem cut_flat (s : List UInt8) : (cut g s).flatten = s := by
  rw [cut, List.flatten_append, tl_flat, cuts_flat]; rfl
/-- None is empty or longer than 128; only the last one may be shorter than 16. -/
theorem cut_sizes (s : List UInt8) (i : Nat) (h : i < (cut g s).length) : 0 < (cut g s)[i].length ∧ (cut g s)[i].length ≤ 128 ∧ (i + 1 < (cut g s).length → 16 ≤ (cut g s)[i].length) := by
  obtain ⟨h1, h2⟩ := cuts_sizes g 0 [] s (by decide)
  unfold cut at h ⊢
  rcases Nat.lt_or_ge i (cuts g 0 [] s).1.length with hi | hi
  · rw [List.getElem_append_left hi]
    have := h1 _ (List.getElem_mem hi)
    omega
  · rw [List.getElem_append_right hi]
    have hm : (tl (cuts g 0 [] s).2.2)[i - (cuts g 0 [] s).1.length]'(by simp at h; omega) ∈ tl (cuts g 0 [] s).2.2 := List.getElem_mem _
    have hl : (tl (cuts g 0 [] s).2.2).length ≤ 1 := by unfold tl; split <;> simp
    have hn : 0 < ((tl (cuts g 0 [] s).2.2)[i - (cuts g 0 [] s).1.length]'(by simp at h; omega)).length ∧ ((tl (cuts g 0 [] s).2.2)[i - (cuts g 0 [] s).1.length]'(by simp at h; omega)).length < 128 := by
      generalize (tl (cuts g 0 [] s).2.2)[i - (cuts g 0 [] s).1.length]'(by simp at h; omega) = p at hm
      unfold tl at hm
      split at hm
      · cases hm
      · rcases List.mem_singleton.1 hm with rfl
        exact ⟨List.length_pos_iff.2 ‹_›, h2⟩
    refine ⟨hn.1, by omega, fun h' => ?_⟩
    simp only [List.length_append] at h'
    omega

/-! ### Where pieces end. -/
def edges : Nat → List (List UInt8) → List Nat
  | _, [] => []
  | n, p :: l => (n + p.length) :: edges (n + p.length) l
theorem edges_append : ∀ (n : Nat) (l m : List (List UInt8)), edges n (l ++ m) = edges n l ++ edges (n + l.flatten.length) m
  | n, [], m => by simp [edges]
  | n, p :: l, m => by
    rw [List.cons_append, edges, edges, edges_append]
    simp [Nat.add_assoc]
theorem edges_len : ∀ (n : Nat) (l : List (List UInt8)), (edges n l).length = l.length
  | _, [] => rfl
  | n, p :: l => by simp [edges, edges_len]
/-- The bytes of some pieces. -/
theorem edges_snoc (l : List (List UInt8)) (p : List UInt8) : edges 0 (l ++ [p]) = edges 0 l ++ [l.flatten.length + p.length] := by
  rw [edges_append]; simp [edges]
/-- Where the pieces of a text end. -/
def ed (s : List UInt8) : List Nat := edges 0 (cut g s)
/-- ChunkGrows. -/
theorem grows (s t : List UInt8) : (ed g s).length = 0 ∨ ((ed g s).length ≤ (ed g (s ++ t)).length ∧ (ed g s).take ((ed g s).length - 1) = (ed g (s ++ t)).take ((ed g s).length - 1)) := by
  obtain ⟨P, S, r, hq⟩ : ∃ P S r, cuts g 0 [] s = (P, S, r) := ⟨_, _, _, rfl⟩
  obtain ⟨Q, S', r', hq'⟩ : ∃ Q S' r', cuts g S r t = (Q, S', r') := ⟨_, _, _, rfl⟩
  have hf := cuts_flat g S r t
  rw [hq'] at hf
  have e1 : cut g s = P ++ tl r := by rw [cut, hq]
  have e2 : cut g (s ++ t) = P ++ (Q ++ tl r') := by rw [cut, cuts_append, hq]; simp only; rw [hq']; simp
  simp only [ed, e1, e2, edges_append, List.length_append, edges_len]
  by_cases hr : r = []
  · subst hr
    rcases Nat.eq_zero_or_pos P.length with h0 | h0
    · exact .inl (by simp [tl, h0])
    · refine .inr ⟨by simp [tl], ?_⟩
      simp only [tl, ↓reduceIte, List.length_nil, Nat.add_zero]
      rw [List.take_append_of_le_length (by rw [edges_len]; omega), List.take_append_of_le_length (by rw [edges_len]; omega)]
  · have ht : (tl r).length = 1 := by simp [tl, hr]
    have hn : 1 ≤ Q.length + (tl r').length := by
      rcases Nat.eq_zero_or_pos (Q.length + (tl r').length) with h0 | h0
      · exfalso
        have hQ : Q = [] := List.eq_nil_of_length_eq_zero (by omega)
        have hR : tl r' = [] := List.eq_nil_of_length_eq_zero (by omega)
        have hr' : r' = [] := by have := tl_flat r'; rw [hR] at this; exact this.symm
        subst hQ hr'
        simp at hf
        exact hr hf.1
      · exact h0
    refine .inr ⟨by omega, ?_⟩
    rw [ht, Nat.add_sub_cancel, List.take_append_of_le_length (by rw [edges_len]; omega), List.take_append_of_le_length (by rw [edges_len]; omega)]

/-! ### Pieces by place alone. -/
def E : Nat → Nat → Nat → List UInt8 → List Nat
  | p, _, n, [] => if n = 0 then [] else [p]
  | p, S, n, c :: u => if ends (nx g S c) (n + 1) then (p + 1) :: E (p + 1) (nx g S c) 0 u else E (p + 1) (nx g S c) (n + 1) u
theorem edges_E : ∀ (p S : Nat) (r u : List UInt8), edges p ((cuts g S r u).1 ++ tl (cuts g S r u).2.2) = E g (p + r.length) S r.length u
  | p, S, r, [] => by
    simp only [cuts, E, List.nil_append, tl]
    by_cases hr : r = []
    · simp [hr, edges]
    · simp [hr, edges]
  | p, S, r, c :: u => by
    rw [cuts, E]
    have hl : (r ++ [c]).length = r.length + 1 := by simp
    rw [hl]
    split
    · rw [List.cons_append, edges, edges_E]
      simp [Nat.add_assoc]
    · rw [edges_E, hl, Nat.add_assoc]
theorem ed_E (s : List UInt8) : ed g s = E g 0 0 0 s := by
  have := edges_E g 0 0 [] s
  simpa [ed, cut] using this
def sums (S : Nat) (u : List UInt8) : Nat := u.foldl (nx g) S
theorem E_drop : ∀ (u : List UInt8) (p S n i q : Nat), (E g p S n u)[i]? = some q → p ≤ q ∧ q ≤ p + u.length ∧ (E g p S n u).drop i = q :: E g q (sums g S (u.take (q - p))) 0 (u.drop (q - p))
  | [], p, S, n, i, q, h => by
    simp only [E] at h ⊢
    split at h
    · simp at h
    · rename_i hn
      cases i with
      | zero =>
        simp at h
        subst h
        simp [hn, E]
      | succ i => simp at h
  | c :: u, p, S, n, i, q, h => by
    rw [E] at h ⊢
    split at h
    · rename_i he
      rw [if_pos he]
      cases i with
      | zero =>
        simp at h
        subst h
        simp [sums]
      | succ i =>
        rw [List.getElem?_cons_succ] at h
        obtain ⟨h1, h2, h3⟩ := E_drop u _ _ _ i q h
        refine ⟨by omega, by simp; omega, ?_⟩
        rw [List.drop_succ_cons, h3]
        have e : q - p = (q - (p + 1)) + 1 := by omega
        rw [e, List.take_succ_cons, List.drop_succ_cons]
        simp [sums]
    · rename_i he
      rw [if_neg he]
      obtain ⟨h1, h2, h3⟩ := E_drop u _ _ _ i q h
      refine ⟨by omega, by simp; omega, ?_⟩
      rw [h3]
      have e : q - p = (q - (p + 1)) + 1 := by omega
      rw [e, List.take_succ_cons, List.drop_succ_cons]
      simp [sums]
theorem E_shift (d : Nat) : ∀ (u : List UInt8) (p S n : Nat), E g (p + d) S n u = (E g p S n u).map (· + d)
  | [], p, S, n => by simp only [E]; split <;> simp
  | c :: u, p, S, n => by
    simp only [E]
    rw [show p + d + 1 = p + 1 + d by omega, E_shift d u, E_shift d u]
    split <;> simp
theorem sums_lin : ∀ (u : List UInt8) (S : Nat), sums g S u % 4294967296 = (S * 2 ^ u.length + sums g 0 u) % 4294967296
  | [], S => by simp [sums]
  | c :: u, S => by
    show sums g (nx g S c) u % _ = (S * 2 ^ (u.length + 1) + sums g (nx g 0 c) u) % _
    have h1 := sums_lin u (nx g S c)
    have h2 := sums_lin u (nx g 0 c)
    rw [h1, Nat.add_mod, Nat.add_mod (S * 2 ^ (u.length + 1)), h2]
    have e1 : (nx g S c * 2 ^ u.length) % 4294967296 = ((S * 2 + g c) * 2 ^ u.length) % 4294967296 := by
      unfold nx; rw [Nat.mul_mod, Nat.mod_mod, ← Nat.mul_mod]
    have e2 : (nx g 0 c * 2 ^ u.length) % 4294967296 = (g c * 2 ^ u.length) % 4294967296 := by
      unfold nx; rw [Nat.zero_mul, Nat.zero_add, Nat.mul_mod, Nat.mod_mod, ← Nat.mul_mod]
    have e3 : (S * 2 + g c) * 2 ^ u.length = S * 2 ^ (u.length + 1) + g c * 2 ^ u.length := by
      rw [Nat.add_mul, Nat.mul_assoc, Nat.pow_succ, Nat.mul_comm (2 ^ u.length) 2]
    rw [← Nat.add_mod, ← Nat.add_mod, Nat.add_mod, e1, ← Nat.add_mod, e3]
    generalize S * 2 ^ (u.length + 1) = A
    generalize hB : g c * 2 ^ u.length = B at *
    generalize nx g 0 c * 2 ^ u.length = B' at *
    omega
theorem sums_lt : ∀ (u : List UInt8) (S : Nat), S < 4294967296 → sums g S u < 4294967296
  | [], _, h => h
  | c :: u, S, _ => sums_lt u (nx g S c) (Nat.mod_lt _ (by decide))
theorem sums_32 (u : List UInt8) (h : 32 ≤ u.length) (S T : Nat) (hS : S < 4294967296) (hT : T < 4294967296) : sums g S u = sums g T u := by
  have k : ∀ S, S < 4294967296 → sums g S u = sums g 0 u % 4294967296 := fun S hS => by
    have h1 := sums_lin g u S
    rw [Nat.mod_eq_of_lt (sums_lt g u S hS)] at h1
    rw [h1]
    have : u.length = 32 + (u.length - 32) := by omega
    rw [this, Nat.pow_add, ← Nat.mul_assoc, Nat.mul_comm S, Nat.mul_assoc]
    have : (2 : Nat) ^ 32 = 4294967296 := by decide
    rw [this, Nat.mul_add_mod]
  rw [k S hS, k T hT]
/-- What follows a place at least 32 bytes into what two texts have in common. -/
theorem meet (a s : List UInt8) (i q : Nat) (h : (ed g (a ++ s))[i]? = some q) (hq : a.length + 32 ≤ q) :
    ∃ T, T = E g (q - a.length) (sums g 0 (s.take (q - a.length))) 0 (s.drop (q - a.length)) ∧ (ed g (a ++ s)).drop i = q :: T.map (· + a.length) := by
  rw [ed_E] at h ⊢
  obtain ⟨_, h2, h3⟩ := E_drop g _ _ _ _ i q h
  refine ⟨_, rfl, ?_⟩
  simp only [List.length_append, Nat.zero_add, Nat.sub_zero] at h2 h3
  rw [h3, ← E_shift, List.take_append, List.drop_append, List.take_of_length_le (by omega), List.drop_of_length_le (by omega), List.nil_append]
  have e : sums g 0 (a ++ s.take (q - a.length)) = sums g 0 (s.take (q - a.length)) := by
    have : sums g 0 (a ++ s.take (q - a.length)) = sums g (sums g 0 a) (s.take (q - a.length)) := by simp [sums]
    rw [this]
    exact sums_32 g _ (by simp; omega) _ _ (sums_lt g a 0 (by decide)) (by decide)
  rw [e, Nat.sub_add_cancel (by omega)]
/-- ChunkMeets. -/
theorem meets (a b s : List UInt8) (i k p q : Nat) (hp : (ed g (a ++ s))[i]? = some p) (hq : (ed g (b ++ s))[k]? = some q) (he : (p : Int) - a.length = (q : Int) - b.length) (h32 : (32 : Int) ≤ (p : Int) - a.length) :
    (ed g (a ++ s)).length - i = (ed g (b ++ s)).length - k ∧ ∀ j, j < (ed g (a ++ s)).length - i → ∃ u v, (ed g (a ++ s))[i + j]? = some u ∧ (ed g (b ++ s))[k + j]? = some v ∧ (u : Int) - a.length = (v : Int) - b.length := by
  obtain ⟨T, hT, hx⟩ := meet g a s i p hp (by omega)
  obtain ⟨T', hT', hy⟩ := meet g b s k q hq (by omega)
  have e : p - a.length = q - b.length := by omega
  rw [e, ← hT'] at hT
  subst hT
  have lx := congrArg List.length hx
  have ly := congrArg List.length hy
  simp only [List.length_drop, List.length_cons, List.length_map] at lx ly
  refine ⟨by omega, fun j hj => ?_⟩
  rw [← List.getElem?_drop, ← List.getElem?_drop, hx, hy]
  cases j with
  | zero => exact ⟨p, q, rfl, rfl, he⟩
  | succ j =>
    have hj' : j < T.length := by omega
    refine ⟨T[j] + a.length, T[j] + b.length, ?_, ?_, by omega⟩
    · simp [hj']
    · simp [hj']
end Pc
end Go.Proofs.Ythhhlaoiampinaa
namespace Go.Proofs.Ythhhlaoiampinaa
open Go.RowKit
theorem flat2 {α : Type} {en : α → List Value} (hen : ∀ x, (en x).length = 2) : ∀ (xs : List α) (k i : Nat) (x : α) (u : Value), xs[k]? = some x → i < 2 → (en x)[i]? = some u → (xs.flatMap en)[k * 2 + i]? = some u
  | [], k, i, x, u, h, _, _ => by simp at h
  | y :: ys, 0, i, x, u, h, hi, hu => by
    simp at h; subst h
    rw [List.flatMap_cons, Nat.zero_mul, Nat.zero_add, List.getElem?_append_left (by rw [hen]; exact hi)]; exact hu
  | y :: ys, k + 1, i, x, u, h, hi, hu => by
    rw [List.flatMap_cons, List.getElem?_append_right (by rw [hen]; omega), hen, show (k + 1) * 2 + i - 2 = k * 2 + i from by omega]
    exact flat2 hen ys k i x u (by simpa using h) hi hu
/-- The cells of an element of a list that is read, of two cells. -/
theorem SlR.two {α : Type} {en : α → List Value} {w : World} {v : Value} {xs : List α} (hen : ∀ x, (en x).length = 2) (h : SlR w en v xs) (hn : 0 < xs.length) :
    ∃ b off c, v = .slice (some ⟨b, off, none⟩) xs.length c ∧ b < w.heap.size ∧ ∀ k (hk : k < xs.length) (u0 u1 : Value), (en xs[k])[0]? = some u0 → (en xs[k])[1]? = some u1 → w.cell? ⟨b, off + k * 2, none⟩ = some u0 ∧ w.cell? ⟨b, off + k * 2 + 1, none⟩ = some u1 := by
  obtain ⟨A, c, hv, hc, hx⟩ := h
  obtain ⟨b, off, rfl, hb, hcell⟩ := hx hn
  exact ⟨b, off, c, hv, hb, fun k hk u0 u1 h0 h1 => ⟨hcell (k * 2 + 0) u0 (flat2 hen xs k 0 _ u0 (List.getElem?_eq_getElem hk) (by omega) h0), hcell (k * 2 + 1) u1 (flat2 hen xs k 1 _ u1 (List.getElem?_eq_getElem hk) (by omega) h1)⟩⟩
section
variable {α : Type} {w : World} {base : Nat} {e : TypeId} {en : α → List Value} {g cap n : Nat} {xs : List α}
/-- What one's own row with a block is. -/
theorem Owns.row {size : Nat} (h : Owns w base e size en (.slice (some ⟨g, 0, none⟩) n cap) xs) : base ≤ g ∧ n = xs.length ∧ n ≤ cap ∧ cap ≤ maxLen ∧ ∃ cur, Blk w g e cur ∧ cur.size = cap * size ∧ cur.toList.take (n * size) = xs.flatMap en := by
  obtain ⟨h1, h2⟩ := h
  rcases h2 with ⟨h3, _⟩ | ⟨g', cap', cur, hv, hb, hh, hn, hm, hs, ht⟩
  · cases h3
  · injection hv with e1 e2 e3
    injection e1 with e1
    injection e1 with e1
    subst e1 e2 e3
    exact ⟨hb, rfl, hn, hm, cur, hh, hs, ht⟩
theorem Owns.of_row {size : Nat} {cur : Array Value} (hen : ∀ x, (en x).length = size) (hb : base ≤ g) (hn : xs.length ≤ cap) (hm : cap ≤ maxLen) (hh : Blk w g e cur) (hs : cur.size = cap * size) (ht : cur.toList.take (xs.length * size) = xs.flatMap en) :
    Owns w base e size en (.slice (some ⟨g, 0, none⟩) xs.length cap) xs :=
  ⟨flat_len hen xs, .inr ⟨g, cap, cur, rfl, hb, hh, hn, hm, hs, ht⟩⟩
/-- The first k elements. -/
theorem Owns.pre {size : Nat} (hen : ∀ x, (en x).length = size) (h : Owns w base e size en (.slice (some ⟨g, 0, none⟩) n cap) xs) (k : Nat) (hk : k ≤ xs.length) : Owns w base e size en (.slice (some ⟨g, 0, none⟩) k cap) (xs.take k) := by
  obtain ⟨hb, rfl, hn, hm, cur, hh, hs, ht⟩ := h.row
  have hl : (xs.take k).length = k := by simp; omega
  have := Owns.of_row (w := w) (e := e) (xs := xs.take k) (cap := cap) hen hb (by omega) hm hh hs (by
    have h1 : cur.toList.take (k * size) = (xs.flatMap en).take (k * size) := by
      rw [← ht, List.take_take, Nat.min_eq_left (Nat.mul_le_mul_right _ hk)]
    rw [hl, h1]
    conv => lhs; rw [← List.take_append_drop k xs, List.flatMap_append]
    rw [List.take_append_of_le_length (by rw [flat_len hen, hl]; exact Nat.le_refl _), List.take_of_length_le (by rw [flat_len hen, hl]; exact Nat.le_refl _)])
  rwa [hl] at this
theorem flat2_set (hen : ∀ x, (en x).length = 2) : ∀ (xs : List α) (i : Nat) (x : α) (u0 u1 : Value), en x = [u0, u1] → i < xs.length → ((xs.flatMap en).set (i * 2) u0).set (i * 2 + 1) u1 = (xs.set i x).flatMap en
  | [], i, x, u0, u1, _, h => by simp at h
  | y :: ys, 0, x, u0, u1, hx, _ => by
    have hy := hen y
    obtain ⟨a, b, hab⟩ : ∃ a b, en y = [a, b] := by
      match hq : en y, hy with
      | [a, b], _ => exact ⟨a, b, rfl⟩
    simp [List.flatMap_cons, hab, hx]
  | y :: ys, i + 1, x, u0, u1, hx, h => by
    have hy := hen y
    obtain ⟨a, b, hab⟩ : ∃ a b, en y = [a, b] := by
      match hq : en y, hy with
      | [a, b], _ => exact ⟨a, b, rfl⟩
    have := flat2_set hen ys i x u0 u1 hx (by simpa using h)
    rw [show (i + 1) * 2 = i * 2 + 1 + 1 from by omega]
    simp only [List.flatMap_cons, hab, List.cons_append, List.nil_append, List.set_cons_succ, this]
/-- An element stored. -/
theorem Owns.put2 (hen : ∀ x, (en x).length = 2) (h : Owns w base e 2 en (.slice (some ⟨g, 0, none⟩) n cap) xs) (i : Nat) (hi : i < xs.length) (x : α) (u0 u1 : Value) (hx : en x = [u0, u1]) :
    Owns ((w.setCell ⟨g, i * 2, none⟩ u0).setCell ⟨g, i * 2 + 1, none⟩ u1) base e 2 en (.slice (some ⟨g, 0, none⟩) n cap) (xs.set i x) := by
  obtain ⟨hb, rfl, hn, hm, cur, hh, hs, ht⟩ := h.row
  have := Owns.of_row (w := (w.setCell ⟨g, i * 2, none⟩ u0).setCell ⟨g, i * 2 + 1, none⟩ u1) (e := e) (xs := xs.set i x) (cap := cap) hen hb (by rw [List.length_set]; exact hn) hm ((hh.set_ (i * 2) u0).set_ (i * 2 + 1) u1) (by simpa using hs) (by
    rw [← flat2_set hen xs i x u0 u1 hx hi, ← ht]
    simp only [Array.toList_setIfInBounds, List.length_set]
    rw [List.take_set, List.take_set])
  rwa [List.length_set] at this
theorem zeroCells_get (zc : Array Value) (n : Nat) : (Builtin.zeroCells zc n).size = n * zc.size ∧ ∀ v ∈ (Builtin.zeroCells zc n).toList, 0 < zc.size → v ∈ zc.toList := by
  refine ⟨by simp [Builtin.zeroCells], fun v hv h0 => ?_⟩
  simp only [Builtin.zeroCells, Array.toList_map, List.mem_map] at hv
  obtain ⟨i, _, rfl⟩ := hv
  have hlt : i % zc.size < zc.size := Nat.mod_lt _ h0
  rw [getElem!_pos zc (i % zc.size) hlt]
  simp
/-- clear of the rest of one's own row. -/
theorem wpList_clear_owns {P : Program} {size : Nat} {ops : Array Oper} {rest : List Oper} {o : Oper} {a : Act} {Q : Exit → Act → World → Prop} (hgd : o.guard = none) (x : Operand) (t : TypeId)
    (ho : o.op = .call { callee := .builtin .clear, args := #[x], argTypes := #[t] }) (z : Value) (ht : P.underlying t = some (.slice e)) (hv : ∀ w, (zeroValue e).run P w = .ok z w) (hz : z.cells.size = size) (h0 : 0 < size) (h1 : ∀ v ∈ z.cells.toList, v.oneCell' = true)
    (hen : ∀ y, (en y).length = size) (hown : Owns w base e size en (.slice (some ⟨g, 0, none⟩) n cap) xs) (k m c : Nat) (hk : k + m = xs.length) (hx : a.eval x = .slice (some ⟨g, k * size, none⟩) m c)
    (h : ∀ w', Owns w' base e size en (.slice (some ⟨g, 0, none⟩) k cap) (xs.take k) → w.grownBy w' (some g) → wpList P ops Q rest (a.put o.dst (.tuple #[])) w') : wpList P ops Q (o :: rest) a w := by
  refine wpList_plain hgd fun K hK => ?_
  obtain ⟨hb, rfl, hn, hm, cur, hh, hs, hcur⟩ := hown.row
  obtain ⟨hzs, hz1⟩ := zeroCells_get z.cells m
  have hrun : ∃ w', (Builtin.clear_ #[t] o.type #[.slice (some ⟨g, k * size, none⟩) m c]).run P w = .ok (.tuple #[]) w' ∧ Owns w' base e size en (.slice (some ⟨g, 0, none⟩) k cap) (xs.take k) ∧ w.grownBy w' (some g) := by
    rcases Nat.eq_zero_or_pos m with rfl | hm0
    · refine ⟨w, by simp [Builtin.clear_, run_underlying ht], ?_, World.grownBy.refl w _⟩
      exact hown.pre hen k (by omega)
    · have hlen : k * size + m * size ≤ cur.size := by rw [hs, ← Nat.add_mul]; exact Nat.mul_le_mul_right _ (by omega)
      have hst := run_storeCells_at (P := P) g (k * size) e (Builtin.zeroCells z.cells m).toList 0 cur w hh (by simp only [Array.length_toList, hzs, hz]; omega) (fun v hv => h1 v (hz1 v hv (by omega)))
      refine ⟨w.setRow g (cur.toList.take (k * size + 0) ++ (Builtin.zeroCells z.cells m).toList ++ cur.toList.drop (k * size + 0 + (Builtin.zeroCells z.cells m).toList.length)).toArray, ?_, ?_, ?_⟩
      · obtain ⟨m', rfl⟩ : ∃ m', m = m' + 1 := ⟨m - 1, by omega⟩
        simp only [Builtin.clear_, List.getElem?_toArray, List.getElem?_cons_zero, Sem.run_bind, Sem.run_pure, Result.andThen_ok, run_underlying ht, hv, hst]
      · have hl : (xs.take k).length = k := by simp; omega
        have := Owns.of_row (w := w.setRow g (cur.toList.take (k * size + 0) ++ (Builtin.zeroCells z.cells m).toList ++ cur.toList.drop (k * size + 0 + (Builtin.zeroCells z.cells m).toList.length)).toArray) (e := e) (xs := xs.take k) (cap := cap) hen hb (by omega) hm (setRow_heap w g cur _ e (0, 0) hh) (by
            simp only [List.size_toArray, List.length_append, List.length_take, List.length_drop, Array.length_toList, hzs, hz]; omega) (by
            rw [hl]
            simp only [Nat.add_zero, List.append_assoc]
            have hpre := hown.pre hen k (by omega)
            obtain ⟨_, _, _, _, cur2, hh2, _, hcur2⟩ := hpre.row
            obtain rfl : cur2 = cur := by
              have := hh2.symm.trans hh
              injection this with this; injection this
            rw [List.take_append_of_le_length (by simp only [List.length_take, Array.length_toList]; omega), List.take_take, Nat.min_self, hcur2])
        rwa [hl] at this
      · exact ⟨rfl, rfl, rfl, by simp [World.setRow], fun j _ hj => setRow_other w g j _ (fun e => hj (by rw [e]))⟩
  obtain ⟨w', hr, h2, h3⟩ := hrun
  unfold Oper.wp execOp
  simp only [ho, resolve, invoke, builtin, Sem.run_bind, Sem.run_pure, Result.andThen_ok, List.map_toArray, List.map_cons, List.map_nil, hx, hr]
  exact hK _ _ (h w' h2 h3)
end
/-- A block of another type is not the row's. -/
theorem Owns.ne_blk {α : Type} {w : World} {base : Nat} {e t : TypeId} {size g : Nat} {en : α → List Value} {v : Value} {xs : List α} {cs : Array Value} (h : Owns w base e size en v xs) (hb : Blk w g t cs) (ht : t ≠ e) : v.ownBlock ≠ some g := by
  intro hv
  rcases h.form with ⟨rfl, _⟩ | ⟨g', cc, rfl⟩
  · cases hv
  · obtain rfl : g' = g := by simpa [Value.ownBlock] using hv
    obtain ⟨_, _, _, _, cur, hh, _, _⟩ := h.row
    have := hh.symm.trans hb
    injection this with this
    injection this with _ h2
    exact ht h2.symm
/-- A store into another block. -/
theorem Owns.setFar {α : Type} {w : World} {base : Nat} {e : TypeId} {size : Nat} {en : α → List Value} {v : Value} {xs : List α} (h : Owns w base e size en v xs) (p : Addr) (u : Value) (hne : v.ownBlock ≠ some p.block) : Owns (w.setCell p u) base e size en v xs := by
  refine World.ownsRow.kept h (row := some p.block) ⟨rfl, rfl, rfl, by simp, fun k hk hr => Below.heap_setCell w p u k (fun e => hr (by rw [e]))⟩ ?_
  cases hv : v.ownBlock with
  | none => exact .inl rfl
  | some k => exact .inr (by rw [← hv]; exact hne)
end Go.Proofs.Ythhhlaoiampinaa
namespace Go.Proofs.Ythhhlaoiampinaa
open Go.RowKit
/-- Lists of two types lie in two blocks. -/
theorem Owns.apart {α β : Type} {w : World} {b1 b2 : Nat} {e1 e2 : TypeId} {s1 s2 : Nat} {en1 : α → List Value} {en2 : β → List Value} {v1 v2 : Value} {xs1 : List α} {xs2 : List β} (h1 : Owns w b1 e1 s1 en1 v1 xs1) (h2 : Owns w b2 e2 s2 en2 v2 xs2) (he : e1 ≠ e2) : v1.ownBlock = none ∨ v1.ownBlock ≠ v2.ownBlock := by
  rcases h1.form with ⟨rfl, _⟩ | ⟨g, cc, rfl⟩
  · exact .inl rfl
  · right
    obtain ⟨_, _, _, _, cur, hh, _, _⟩ := h1.row
    have := h2.ne_blk hh he
    exact fun e => this (by rw [← e]; rfl)
theorem Owns.grownOther {α : Type} {w w' : World} {b : Nat} {e : TypeId} {s : Nat} {en : α → List Value} {v : Value} {xs : List α} {row : Option Nat} (h : Owns w b e s en v xs) (hg : w.grownBy w' row) (hne : v.ownBlock = none ∨ v.ownBlock ≠ row) : Owns w' b e s en v xs := World.ownsRow.kept h hg hne
theorem SlR.grown {α : Type} {w w' : World} {en : α → List Value} {b o n c : Nat} {xs : List α} {row : Option Nat} (h : SlR w en (.slice (some ⟨b, o, none⟩) n c) xs) (hg : w.grownBy w' row) (hne : some b ≠ row) : SlR w' en (.slice (some ⟨b, o, none⟩) n c) xs := by
  obtain ⟨A, c', hv, hc, hx⟩ := h
  refine ⟨A, c', hv, hc, fun hn => ?_⟩
  obtain ⟨b', off, hA, hb, hcell⟩ := hx hn
  obtain ⟨rfl, rfl⟩ : b = b' ∧ o = off := by
    subst hA; injection hv with h1 h2 h3; injection h1 with h1; injection h1 with h1 h2; exact ⟨h1, h2⟩
  exact ⟨b, o, hA, Nat.lt_of_lt_of_le hb hg.size, fun j u hu => hg.cell (hcell j u hu) hne⟩
/-- What a region keeps: all below, and two cells of a block. -/
structure KS (W : World) (g : Nat) (x y : Value) (w : World) : Prop where
  bel : Below W.heap.size W w
  lt : g < w.heap.size
  c0 : w.cell? ⟨g, 0, none⟩ = some x
  c1 : w.cell? ⟨g, 1, none⟩ = some y
theorem KS.alloc {W : World} {g : Nat} {x y : Value} {w : World} (h : KS W g x y w) (o : Obj) : KS W g x y (w.alloc o) := by
  have hb : Below w.heap.size w (w.alloc o) := (Below.refl _ _).alloc (Nat.le_refl _) _
  exact ⟨h.bel.trans (hb.mono h.bel.size), Nat.lt_of_lt_of_le h.lt hb.size, (hb.cell h.lt).trans h.c0, (hb.cell h.lt).trans h.c1⟩
theorem KS.grown {W : World} {g : Nat} {x y : Value} {w w' : World} {row : Option Nat} (h : KS W g x y w) (hg : w.grownBy w' row) (hr : ∀ k, row = some k → W.heap.size ≤ k) (hne : some g ≠ row) : KS W g x y w' :=
  ⟨h.bel.grown hg h.bel.size hr, Nat.lt_of_lt_of_le h.lt hg.size, hg.cell h.c0 hne, hg.cell h.c1 hne⟩
theorem KS.drew {W : World} {g : Nat} {x y : Value} {w : World} (h : KS W g x y w) : KS W g x y w.drew := ⟨h.bel.drew, h.lt, h.c0, h.c1⟩
end Go.Proofs.Ythhhlaoiampinaa
namespace Go.Proofs.Ythhhlaoiampinaa
open Go.RowKit
def gearA (c : Int) : Int := (c + 1) % 4294967296 * 2654435761 % 4294967296
def gearB (c : Int) : Int := bits BinOp.xor IntKind.u32 (gearA c) (gearA c / 32768) * 2246822519 % 4294967296
def gearI (c : Int) : Int := bits BinOp.xor IntKind.u32 (gearB c) (gearB c / 8192)
def gear (c : UInt8) : Nat := (gearI c.toNat).toNat
theorem gear_int (c : UInt8) : ((gear c : Nat) : Int) = gearI c.toNat := Int.toNat_of_nonneg (bits_lo_u32 _ _ _)
theorem gear_lt (c : UInt8) : gear c < 4294967296 := by
  have h1 := gear_int c
  have h2 : gearI c.toNat ≤ 4294967295 := bits_hi_u32 _ _ _
  omega
set_option maxHeartbeats 1000000 in
theorem gear_any (c : UInt8) (w : World) :
    Calls Try.prog 107 #[bv c] w fun e w' => e = .returned (.int .u32 (gear c)) ∧ w' = w := by
  rw [gear_int]
  unfold bv
  go_enter Try.func107, Try.ntmps107
  go_wp2_with fail
  go_ret
  exact ⟨rfl, rfl⟩

/-! ### What steps on the cutter alone leave. -/
/-- Block k is cells of one of the cutter's two types. -/
def IsT (W : World) (k : Nat) : Prop := ∃ cs t m, W.heap[k]? = some (.cells cs t m) ∧ (t = 138 ∨ t = 5)
/-- From W to W': below n1 only blocks of the cutter's types, from n0 on, may have turned. -/
structure KT (n0 n1 : Nat) (W W' : World) : Prop where
  os : W'.os = W.os
  tape : W'.tape = W.tape
  output : W'.output = W.output
  size : W.heap.size ≤ W'.heap.size
  block : ∀ k, k < n1 → (k < n0 ∨ ¬ IsT W k) → W'.heap[k]? = W.heap[k]?
section
variable {n0 n1 : Nat} {A B C : World}
theorem KT.refl (n0 n1 : Nat) (W : World) : KT n0 n1 W W := ⟨rfl, rfl, rfl, Nat.le_refl _, fun _ _ _ => rfl⟩
theorem KT.trans (h : KT n0 n1 A B) (g : KT n0 n1 B C) : KT n0 n1 A C :=
  ⟨g.os.trans h.os, g.tape.trans h.tape, g.output.trans h.output, Nat.le_trans h.size g.size, fun k hk hp => by
    have e := h.block k hk hp
    refine (g.block k hk ?_).trans e
    rcases hp with hp | hp
    · exact .inl hp
    · refine .inr fun ht => hp ?_
      obtain ⟨cs, t, m, h1, h2⟩ := ht
      exact ⟨cs, t, m, e ▸ h1, h2⟩⟩
theorem KT.grown {row : Option Nat} (h : KT n0 n1 A B) (hn : n1 ≤ B.heap.size) (hg : B.grownBy C row) (hrow : ∀ k, row = some k → n1 ≤ k ∨ (n0 ≤ k ∧ IsT B k)) : KT n0 n1 A C := by
  refine h.trans ⟨hg.os, hg.tape, hg.output, hg.size, fun k hk hp => hg.block k (by omega) fun e => ?_⟩
  rcases hrow k e.symm with h1 | ⟨h1, h2⟩
  · omega
  · rcases hp with hp | hp
    · omega
    · exact hp h2
theorem KT.alloc (h : KT n0 n1 A B) (hn : n1 ≤ B.heap.size) (o : Obj) : KT n0 n1 A (B.alloc o) := h.grown hn (World.grownBy_alloc B o none) (fun _ e => by cases e)
theorem KT.drew (h : KT n0 n1 A B) : KT n0 n1 A B.drew := ⟨h.os, h.tape, h.output, h.size, h.block⟩
theorem KT.below (h : KT n0 n1 A B) (hn : n0 ≤ n1) : Below n0 A B := ⟨h.os, h.tape, h.output, h.size, fun k hk => h.block k (by omega) (.inl hk)⟩
end
theorem grownBy_set (W : World) (b i : Nat) (v : Value) : W.grownBy (W.setCell ⟨b, i, none⟩ v) (some b) :=
  ⟨rfl, rfl, rfl, by simp, fun k _ hk => Below.heap_setCell _ _ _ k (fun e => hk (by rw [e]))⟩
theorem grownBy_put (W : World) (l : Nat) (o : Obj) : W.grownBy (W.putObj l o) (some l) :=
  ⟨rfl, rfl, rfl, by simp, fun k _ hk => World.putObj_heap_other (fun e => hk (by rw [e]))⟩
theorem Owns.isT {α : Type} {w : World} {b s : Nat} {en : α → List Value} {v : Value} {xs : List α} (h : Owns w b 5 s en v xs) : ∀ k, v.ownBlock = some k → b ≤ k ∧ IsT w k := by
  intro k hk
  rcases h.form with ⟨rfl, _⟩ | ⟨g, cc, rfl⟩
  · cases hk
  · obtain ⟨hb, _, _, _, cur, hh, _, _⟩ := h.row
    obtain rfl : g = k := by simpa [Value.ownBlock] using hk
    exact ⟨hb, cur, _, _, hh, .inr rfl⟩
theorem Owns.notT {α : Type} {w : World} {b s : Nat} {en : α → List Value} {v : Value} {xs : List α} (h : Owns w b 9 s en v xs) : ∀ k, v.ownBlock = some k → b ≤ k ∧ ¬ IsT w k := by
  intro k hk
  rcases h.form with ⟨rfl, _⟩ | ⟨g, cc, rfl⟩
  · cases hk
  · obtain ⟨hb, _, _, _, cur, hh, _, _⟩ := h.row
    obtain rfl : g = k := by simpa [Value.ownBlock] using hk
    refine ⟨hb, ?_⟩
    rintro ⟨cs, t, m, h1, h2⟩
    unfold Blk at hh
    rw [hh] at h1
    injection h1 with h1
    injection h1 with _ h1 _
    subst h1
    rcases h2 with h2 | h2 <;> exact absurd h2 (by decide)
theorem Blk.isT {w : World} {g : Nat} {cs : Array Value} (h : Blk w g 138 cs) : IsT w g := ⟨cs, _, _, h, .inl rfl⟩
theorem Blk.notT {w : World} {g : Nat} {t : TypeId} {cs : Array Value} (h : Blk w g t cs) (ht : t ≠ 138 ∧ t ≠ 5) : ¬ IsT w g := by
  rintro ⟨cs, t', m, h1, h2⟩
  unfold Blk at h
  rw [h] at h1
  injection h1 with h1
  injection h1 with _ h1 _
  subst h1
  rcases h2 with h2 | h2
  · exact ht.1 h2
  · exact ht.2 h2
theorem obj_notT {w : World} {g : Nat} {o : Obj} (h : w.heap[g]? = some o) (ho : ∀ cs t m, o ≠ .cells cs t m) : ¬ IsT w g := by
  rintro ⟨cs, t', m, h1, h2⟩
  rw [h] at h1
  injection h1 with h1
  exact ho _ _ _ h1
theorem Blk.kept {w w' : World} {g : Nat} {t : TypeId} {cs : Array Value} {row : Option Nat} (h : Blk w g t cs) (hg : w.grownBy w' row) (hne : some g ≠ row) : Blk w' g t cs := (hg.block g h.lt hne).trans h

/-- The cutter in block c, from base n0 on: its sum, what it keeps. -/
def Cutter (w : World) (n0 c : Nat) (S : Nat) (r : List UInt8) : Prop := ∃ v, Blk w c 138 #[.int .u32 S, v] ∧ Owns w n0 5 1 eb v r
theorem Cutter.kept {w w' : World} {n0 c S : Nat} {r : List UInt8} {row : Option Nat} (h : Cutter w n0 c S r) (hg : w.grownBy w' row) (hrow : ∀ k, row = some k → ¬ IsT w k) : Cutter w' n0 c S r := by
  obtain ⟨v, h1, h2⟩ := h
  refine ⟨v, h1.kept hg (fun e => hrow c e.symm h1.isT), h2.grownOther hg ?_⟩
  cases hv : v.ownBlock with
  | none => exact .inl rfl
  | some k => exact .inr fun e => hrow k e.symm (h2.isT k hv).2
theorem Cutter.kt {w w' : World} {n0 n1 c S : Nat} {r : List UInt8} (h : Cutter w n0 c S r) (hn : w.heap.size ≤ n1) (hg : Below n1 w w') : Cutter w' n0 c S r := by
  obtain ⟨v, h1, h2⟩ := h
  exact ⟨v, (hg.block c (Nat.lt_of_lt_of_le h1.lt hn)).trans h1, h2.below (hg.mono hn)⟩
end Go.Proofs.Ythhhlaoiampinaa
