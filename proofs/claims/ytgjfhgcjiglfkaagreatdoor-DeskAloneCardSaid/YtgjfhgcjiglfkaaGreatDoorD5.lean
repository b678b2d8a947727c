import Derived.Test.YtgjfhgcjiglfkaaGreatDoorD4
import Derived.Laws.Tables
import Derived.Deep.Cut
import Derived.Test.YtgjfhgcjiglfkaaGreatDoorD0
import Derived.Test.YtgjfhgcjiglfkaaGreatDoorD2
import Derived.Laws.Closers25b
import Derived.RangeFuncIn
import Derived.RangeFuncRecord
import Derived.Laws.CopyRow
import Derived.Laws.CopyOwn
set_option linter.unusedVariables false
set_option linter.unusedSimpArgs false
namespace Go.Proofs.YtgjfhgcjiglfkaaGreatDoor
set_option maxRecDepth 20000
open Go.RowKit
set_option maxHeartbeats 4000000 in
theorem mix_any (g i0 i1 i2 i3 : Nat) (vs : Array Value) (a b c d x y : Int) (w : World) (h4 : Four vs.size i0 i1 i2 i3) (hn : vs.size = 16) (hB : Blk w g 366 vs) (h0 : vs[i0]? = some (.int .u32 a)) (h1 : vs[i1]? = some (.int .u32 b)) (h2 : vs[i2]? = some (.int .u32 c)) (h3 : vs[i3]? = some (.int .u32 d)) :
    Calls Tryz.prog 298 #[.pointer (some ⟨g, 0, none⟩), .agg #[.int .i64 i0, .int .i64 i1, .int .i64 i2, .int .i64 i3], .int .u32 x, .int .u32 y] w fun e w' => e = .returned (.tuple #[]) ∧ Mx w w' g 366 vs i0 i1 i2 i3 (mixF a b c d x y).1 (mixF a b c d x y).2.1 (mixF a b c d x y).2.2.1 (mixF a b c d x y).2.2.2 := by
  have hX := Blk.new w 368 #[.int .i64 i0, .int .i64 i1, .int .i64 i2, .int .i64 i3]
  have hM : Mx w (w.alloc (.cells #[.int .i64 i0, .int .i64 i1, .int .i64 i2, .int .i64 i3] 368)) g 366 vs i0 i1 i2 i3 a b c d :=
    ⟨by rw [mx4_self h0 h1 h2 h3]; exact hB.alloc _, h4, World.grownBy_alloc _ _ _⟩
  have e0 := hX.cell 0
  have e1 := hX.cell 1
  have e2 := hX.cell 2
  have e3 := hX.cell 3
  obtain ⟨q0, q1, q2, q3, -⟩ := id h4
  have l0 : (i0 : Int) < 16 := by omega
  have l1 : (i1 : Int) < 16 := by omega
  have l2 : (i2 : Int) < 16 := by omega
  have l3 : (i3 : Int) < 16 := by omega
  clear h0 h1 h2 h3 hB hn q0 q1 q2 q3
  go_enter Tryz.func298, Tryz.ntmps298
  go_wp2_with fail
  go_quiet (fail)
  have hM1 := hM.drewN nq
  clear hX e0 e1 e2 e3 l0 l1 l2 l3 hM
  generalize (w.alloc (.cells #[.int .i64 i0, .int .i64 i1, .int .i64 i2, .int .i64 i3] 368)).drewN nq = W1 at hM1 ⊢
  go_wp2_with fail
  have cA := hM1.drew.ata
  have cB := hM1.drew.atb
  have cC := hM1.drew.atc
  have cD := hM1.drew.atd
  have fX := hM1.drew.blk.frozen i0
  refine wp_region_last [(true, 0), (true, 1), (true, 2), (true, 3), (true, 4), (true, 5), (true, 6), (true, 7), (true, 8), (true, 9), (false, 10)] 10 (fun w' => w' = W1.drew) (by kernel_rfl) (by kernel_rfl) (by kernel_rfl) (fun _ _ _ _ _ h => h) (by kernel_rfl) (by kernel_rfl) ?_ ?_
  · rfl
  iterate 10 (first | (apply seqL_skip; (focus (simp only [List.getElem?_toArray, List.getElem?_cons_succ, List.getElem?_cons_zero]; rfl)); (focus rfl); simp only [Act.put, List.setIfInBounds_toArray, List.set_cons_zero, List.set_cons_succ]) | (apply seqL_take; (focus (simp only [List.getElem?_toArray, List.getElem?_cons_succ, List.getElem?_cons_zero]; rfl)); (focus rfl); (focus (intro w' hS; subst hS; first | (go_simp; rfl) | (go_simp; done))); simp only [Act.put, List.setIfInBounds_toArray, List.set_cons_zero, List.set_cons_succ]))
  apply seqL_eff
  (focus (simp only [List.getElem?_toArray, List.getElem?_cons_succ, List.getElem?_cons_zero]; rfl))
  (focus rfl)
  intro K hK
  go_simp
  refine hK _ _ ⟨fun h => absurd rfl h, ?_⟩
  clear hK K
  refine seqL_nil ?_
  have hM2 := (hM1.setA (IntKind.u32.wrap (a + IntKind.u32.wrap (b + x)))).drew
  clear cA cB cC cD fX hM1
  generalize (W1.setCell ⟨g, i0, none⟩ (.int .u32 (IntKind.u32.wrap (a + IntKind.u32.wrap (b + x))))).drew = W2 at hM2 ⊢
  obtain ⟨a1, ha1⟩ : ∃ z, z = IntKind.u32.wrap (a + IntKind.u32.wrap (b + x)) := ⟨_, rfl⟩
  rw [← ha1] at hM2 ⊢
  have Ha1 := Lib.hid ha1
  clear ha1
  go_wp2_with fail
  have cA := hM2.drew.ata
  have cB := hM2.drew.atb
  have cC := hM2.drew.atc
  have cD := hM2.drew.atd
  have fX := hM2.drew.blk.frozen i3
  refine wp_region_last [(true, 0), (true, 1), (true, 2), (true, 3), (true, 4), (true, 5), (true, 6), (true, 7), (false, 8), (true, 9), (false, 10)] 10 (fun w' => w' = W2.drew) (by kernel_rfl) (by kernel_rfl) (by kernel_rfl) (fun _ _ _ _ _ h => h) (by kernel_rfl) (by kernel_rfl) ?_ ?_
  · rfl
  iterate 8 (first | (apply seqL_skip; (focus (simp only [List.getElem?_toArray, List.getElem?_cons_succ, List.getElem?_cons_zero]; rfl)); (focus rfl); simp only [Act.put, List.setIfInBounds_toArray, List.set_cons_zero, List.set_cons_succ]) | (apply seqL_take; (focus (simp only [List.getElem?_toArray, List.getElem?_cons_succ, List.getElem?_cons_zero]; rfl)); (focus rfl); (focus (intro w' hS; subst hS; first | (go_simp; rfl) | (go_simp; done))); simp only [Act.put, List.setIfInBounds_toArray, List.set_cons_zero, List.set_cons_succ]))
  apply seqL_eff
  (focus (simp only [List.getElem?_toArray, List.getElem?_cons_succ, List.getElem?_cons_zero]; rfl))
  (focus rfl)
  intro K hK
  go_simp
  refine (rotl_16 _ _).mono ?_
  rintro e w1 ⟨rfl, rfl⟩
  refine hK _ _ ⟨fun _ => rfl, ?_⟩
  clear hK K
  iterate 1 (first | (apply seqL_skip; (focus (simp only [List.getElem?_toArray, List.getElem?_cons_succ, List.getElem?_cons_zero]; rfl)); (focus rfl); simp only [Act.put, List.setIfInBounds_toArray, List.set_cons_zero, List.set_cons_succ]) | (apply seqL_take; (focus (simp only [List.getElem?_toArray, List.getElem?_cons_succ, List.getElem?_cons_zero]; rfl)); (focus rfl); (focus (intro w' hS; subst hS; first | (go_simp; rfl) | (go_simp; done))); simp only [Act.put, List.setIfInBounds_toArray, List.set_cons_zero, List.set_cons_succ]))
  apply seqL_eff
  (focus (simp only [List.getElem?_toArray, List.getElem?_cons_succ, List.getElem?_cons_zero]; rfl))
  (focus rfl)
  intro K hK
  go_simp
  refine hK _ _ ⟨fun h => absurd rfl h, ?_⟩
  clear hK K
  refine seqL_nil ?_
  have hM3 := (hM2.setD (rotF 65536 65536 (bits .xor .u32 d a1))).drew
  clear cA cB cC cD fX hM2
  generalize (W2.setCell ⟨g, i3, none⟩ (.int .u32 (rotF 65536 65536 (bits .xor .u32 d a1)))).drew = W3 at hM3 ⊢
  obtain ⟨d1, hd1⟩ : ∃ z, z = rotF 65536 65536 (bits .xor .u32 d a1) := ⟨_, rfl⟩
  rw [← hd1] at hM3 ⊢
  have Hd1 := Lib.hid hd1
  clear hd1
  go_wp2_with fail
  have cA := hM3.drew.ata
  have cB := hM3.drew.atb
  have cC := hM3.drew.atc
  have cD := hM3.drew.atd
  have fX := hM3.drew.blk.frozen i2
  refine wp_region_last [(true, 0), (true, 1), (true, 2), (true, 3), (true, 4), (true, 5), (true, 6), (true, 7), (false, 8)] 8 (fun w' => w' = W3.drew) (by kernel_rfl) (by kernel_rfl) (by kernel_rfl) (fun _ _ _ _ _ h => h) (by kernel_rfl) (by kernel_rfl) ?_ ?_
  · rfl
  iterate 8 (first | (apply seqL_skip; (focus (simp only [List.getElem?_toArray, List.getElem?_cons_succ, List.getElem?_cons_zero]; rfl)); (focus rfl); simp only [Act.put, List.setIfInBounds_toArray, List.set_cons_zero, List.set_cons_succ]) | (apply seqL_take; (focus (simp only [List.getElem?_toArray, List.getElem?_cons_succ, List.getElem?_cons_zero]; rfl)); (focus rfl); (focus (intro w' hS; subst hS; first | (go_simp; rfl) | (go_simp; done))); simp only [Act.put, List.setIfInBounds_toArray, List.set_cons_zero, List.set_cons_succ]))
  apply seqL_eff
  (focus (simp only [List.getElem?_toArray, List.getElem?_cons_succ, List.getElem?_cons_zero]; rfl))
  (focus rfl)
  intro K hK
  go_simp
  refine hK _ _ ⟨fun h => absurd rfl h, ?_⟩
  clear hK K
  refine seqL_nil ?_
  have hM4 := (hM3.setC (IntKind.u32.wrap (c + d1))).drew
  clear cA cB cC cD fX hM3
  generalize (W3.setCell ⟨g, i2, none⟩ (.int .u32 (IntKind.u32.wrap (c + d1)))).drew = W4 at hM4 ⊢
  obtain ⟨c1, hc1⟩ : ∃ z, z = IntKind.u32.wrap (c + d1) := ⟨_, rfl⟩
  rw [← hc1] at hM4 ⊢
  have Hc1 := Lib.hid hc1
  clear hc1
  go_wp2_with fail
  have cA := hM4.drew.ata
  have cB := hM4.drew.atb
  have cC := hM4.drew.atc
  have cD := hM4.drew.atd
  have fX := hM4.drew.blk.frozen i1
  refine wp_region_last [(true, 0), (true, 1), (true, 2), (true, 3), (true, 4), (true, 5), (true, 6), (true, 7), (false, 8), (true, 9), (false, 10)] 10 (fun w' => w' = W4.drew) (by kernel_rfl) (by kernel_rfl) (by kernel_rfl) (fun _ _ _ _ _ h => h) (by kernel_rfl) (by kernel_rfl) ?_ ?_
  · rfl
  iterate 8 (first | (apply seqL_skip; (focus (simp only [List.getElem?_toArray, List.getElem?_cons_succ, List.getElem?_cons_zero]; rfl)); (focus rfl); simp only [Act.put, List.setIfInBounds_toArray, List.set_cons_zero, List.set_cons_succ]) | (apply seqL_take; (focus (simp only [List.getElem?_toArray, List.getElem?_cons_succ, List.getElem?_cons_zero]; rfl)); (focus rfl); (focus (intro w' hS; subst hS; first | (go_simp; rfl) | (go_simp; done))); simp only [Act.put, List.setIfInBounds_toArray, List.set_cons_zero, List.set_cons_succ]))
  apply seqL_eff
  (focus (simp only [List.getElem?_toArray, List.getElem?_cons_succ, List.getElem?_cons_zero]; rfl))
  (focus rfl)
  intro K hK
  go_simp
  refine (rotl_12 _ _).mono ?_
  rintro e w1 ⟨rfl, rfl⟩
  refine hK _ _ ⟨fun _ => rfl, ?_⟩
  clear hK K
  iterate 1 (first | (apply seqL_skip; (focus (simp only [List.getElem?_toArray, List.getElem?_cons_succ, List.getElem?_cons_zero]; rfl)); (focus rfl); simp only [Act.put, List.setIfInBounds_toArray, List.set_cons_zero, List.set_cons_succ]) | (apply seqL_take; (focus (simp only [List.getElem?_toArray, List.getElem?_cons_succ, List.getElem?_cons_zero]; rfl)); (focus rfl); (focus (intro w' hS; subst hS; first | (go_simp; rfl) | (go_simp; done))); simp only [Act.put, List.setIfInBounds_toArray, List.set_cons_zero, List.set_cons_succ]))
  apply seqL_eff
  (focus (simp only [List.getElem?_toArray, List.getElem?_cons_succ, List.getElem?_cons_zero]; rfl))
  (focus rfl)
  intro K hK
  go_simp
  refine hK _ _ ⟨fun h => absurd rfl h, ?_⟩
  clear hK K
  refine seqL_nil ?_
  have hM5 := (hM4.setB (rotF 1048576 4096 (bits .xor .u32 b c1))).drew
  clear cA cB cC cD fX hM4
  generalize (W4.setCell ⟨g, i1, none⟩ (.int .u32 (rotF 1048576 4096 (bits .xor .u32 b c1)))).drew = W5 at hM5 ⊢
  obtain ⟨b1, hb1⟩ : ∃ z, z = rotF 1048576 4096 (bits .xor .u32 b c1) := ⟨_, rfl⟩
  rw [← hb1] at hM5 ⊢
  have Hb1 := Lib.hid hb1
  clear hb1
  go_wp2_with fail
  have cA := hM5.drew.ata
  have cB := hM5.drew.atb
  have cC := hM5.drew.atc
  have cD := hM5.drew.atd
  have fX := hM5.drew.blk.frozen i0
  refine wp_region_last [(true, 0), (true, 1), (true, 2), (true, 3), (true, 4), (true, 5), (true, 6), (true, 7), (true, 8), (true, 9), (false, 10)] 10 (fun w' => w' = W5.drew) (by kernel_rfl) (by kernel_rfl) (by kernel_rfl) (fun _ _ _ _ _ h => h) (by kernel_rfl) (by kernel_rfl) ?_ ?_
  · rfl
  iterate 10 (first | (apply seqL_skip; (focus (simp only [List.getElem?_toArray, List.getElem?_cons_succ, List.getElem?_cons_zero]; rfl)); (focus rfl); simp only [Act.put, List.setIfInBounds_toArray, List.set_cons_zero, List.set_cons_succ]) | (apply seqL_take; (focus (simp only [List.getElem?_toArray, List.getElem?_cons_succ, List.getElem?_cons_zero]; rfl)); (focus rfl); (focus (intro w' hS; subst hS; first | (go_simp; rfl) | (go_simp; done))); simp only [Act.put, List.setIfInBounds_toArray, List.set_cons_zero, List.set_cons_succ]))
  apply seqL_eff
  (focus (simp only [List.getElem?_toArray, List.getElem?_cons_succ, List.getElem?_cons_zero]; rfl))
  (focus rfl)
  intro K hK
  go_simp
  refine hK _ _ ⟨fun h => absurd rfl h, ?_⟩
  clear hK K
  refine seqL_nil ?_
  have hM6 := (hM5.setA (IntKind.u32.wrap (a1 + IntKind.u32.wrap (b1 + y)))).drew
  clear cA cB cC cD fX hM5
  generalize (W5.setCell ⟨g, i0, none⟩ (.int .u32 (IntKind.u32.wrap (a1 + IntKind.u32.wrap (b1 + y))))).drew = W6 at hM6 ⊢
  obtain ⟨a2, ha2⟩ : ∃ z, z = IntKind.u32.wrap (a1 + IntKind.u32.wrap (b1 + y)) := ⟨_, rfl⟩
  rw [← ha2] at hM6 ⊢
  have Ha2 := Lib.hid ha2
  clear ha2
  go_wp2_with fail
  have cA := hM6.drew.ata
  have cB := hM6.drew.atb
  have cC := hM6.drew.atc
  have cD := hM6.drew.atd
  have fX := hM6.drew.blk.frozen i3
  refine wp_region_last [(true, 0), (true, 1), (true, 2), (true, 3), (true, 4), (true, 5), (true, 6), (true, 7), (false, 8), (true, 9), (false, 10)] 10 (fun w' => w' = W6.drew) (by kernel_rfl) (by kernel_rfl) (by kernel_rfl) (fun _ _ _ _ _ h => h) (by kernel_rfl) (by kernel_rfl) ?_ ?_
  · rfl
  iterate 8 (first | (apply seqL_skip; (focus (simp only [List.getElem?_toArray, List.getElem?_cons_succ, List.getElem?_cons_zero]; rfl)); (focus rfl); simp only [Act.put, List.setIfInBounds_toArray, List.set_cons_zero, List.set_cons_succ]) | (apply seqL_take; (focus (simp only [List.getElem?_toArray, List.getElem?_cons_succ, List.getElem?_cons_zero]; rfl)); (focus rfl); (focus (intro w' hS; subst hS; first | (go_simp; rfl) | (go_simp; done))); simp only [Act.put, List.setIfInBounds_toArray, List.set_cons_zero, List.set_cons_succ]))
  apply seqL_eff
  (focus (simp only [List.getElem?_toArray, List.getElem?_cons_succ, List.getElem?_cons_zero]; rfl))
  (focus rfl)
  intro K hK
  go_simp
  refine (rotl_8 _ _).mono ?_
  rintro e w1 ⟨rfl, rfl⟩
  refine hK _ _ ⟨fun _ => rfl, ?_⟩
  clear hK K
  iterate 1 (first | (apply seqL_skip; (focus (simp only [List.getElem?_toArray, List.getElem?_cons_succ, List.getElem?_cons_zero]; rfl)); (focus rfl); simp only [Act.put, List.setIfInBounds_toArray, List.set_cons_zero, List.set_cons_succ]) | (apply seqL_take; (focus (simp only [List.getElem?_toArray, List.getElem?_cons_succ, List.getElem?_cons_zero]; rfl)); (focus rfl); (focus (intro w' hS; subst hS; first | (go_simp; rfl) | (go_simp; done))); simp only [Act.put, List.setIfInBounds_toArray, List.set_cons_zero, List.set_cons_succ]))
  apply seqL_eff
  (focus (simp only [List.getElem?_toArray, List.getElem?_cons_succ, List.getElem?_cons_zero]; rfl))
  (focus rfl)
  intro K hK
  go_simp
  refine hK _ _ ⟨fun h => absurd rfl h, ?_⟩
  clear hK K
  refine seqL_nil ?_
  have hM7 := (hM6.setD (rotF 16777216 256 (bits .xor .u32 d1 a2))).drew
  clear cA cB cC cD fX hM6
  generalize (W6.setCell ⟨g, i3, none⟩ (.int .u32 (rotF 16777216 256 (bits .xor .u32 d1 a2)))).drew = W7 at hM7 ⊢
  obtain ⟨d2, hd2⟩ : ∃ z, z = rotF 16777216 256 (bits .xor .u32 d1 a2) := ⟨_, rfl⟩
  rw [← hd2] at hM7 ⊢
  have Hd2 := Lib.hid hd2
  clear hd2
  go_wp2_with fail
  have cA := hM7.drew.ata
  have cB := hM7.drew.atb
  have cC := hM7.drew.atc
  have cD := hM7.drew.atd
  have fX := hM7.drew.blk.frozen i2
  refine wp_region_last [(true, 0), (true, 1), (true, 2), (true, 3), (true, 4), (true, 5), (true, 6), (true, 7), (false, 8)] 8 (fun w' => w' = W7.drew) (by kernel_rfl) (by kernel_rfl) (by kernel_rfl) (fun _ _ _ _ _ h => h) (by kernel_rfl) (by kernel_rfl) ?_ ?_
  · rfl
  iterate 8 (first | (apply seqL_skip; (focus (simp only [List.getElem?_toArray, List.getElem?_cons_succ, List.getElem?_cons_zero]; rfl)); (focus rfl); simp only [Act.put, List.setIfInBounds_toArray, List.set_cons_zero, List.set_cons_succ]) | (apply seqL_take; (focus (simp only [List.getElem?_toArray, List.getElem?_cons_succ, List.getElem?_cons_zero]; rfl)); (focus rfl); (focus (intro w' hS; subst hS; first | (go_simp; rfl) | (go_simp; done))); simp only [Act.put, List.setIfInBounds_toArray, List.set_cons_zero, List.set_cons_succ]))
  apply seqL_eff
  (focus (simp only [List.getElem?_toArray, List.getElem?_cons_succ, List.getElem?_cons_zero]; rfl))
  (focus rfl)
  intro K hK
  go_simp
  refine hK _ _ ⟨fun h => absurd rfl h, ?_⟩
  clear hK K
  refine seqL_nil ?_
  have hM8 := (hM7.setC (IntKind.u32.wrap (c1 + d2))).drew
  clear cA cB cC cD fX hM7
  generalize (W7.setCell ⟨g, i2, none⟩ (.int .u32 (IntKind.u32.wrap (c1 + d2)))).drew = W8 at hM8 ⊢
  obtain ⟨c2, hc2⟩ : ∃ z, z = IntKind.u32.wrap (c1 + d2) := ⟨_, rfl⟩
  rw [← hc2] at hM8 ⊢
  have Hc2 := Lib.hid hc2
  clear hc2
  go_wp2_with fail
  have cA := hM8.drew.ata
  have cB := hM8.drew.atb
  have cC := hM8.drew.atc
  have cD := hM8.drew.atd
  have fX := hM8.drew.blk.frozen i1
  refine wp_region_last [(true, 0), (true, 1), (true, 2), (true, 3), (true, 4), (true, 5), (true, 6), (true, 7), (false, 8), (true, 9), (false, 10)] 10 (fun w' => w' = W8.drew) (by kernel_rfl) (by kernel_rfl) (by kernel_rfl) (fun _ _ _ _ _ h => h) (by kernel_rfl) (by kernel_rfl) ?_ ?_
  · rfl
  iterate 8 (first | (apply seqL_skip; (focus (simp only [List.getElem?_toArray, List.getElem?_cons_succ, List.getElem?_cons_zero]; rfl)); (focus rfl); simp only [Act.put, List.setIfInBounds_toArray, List.set_cons_zero, List.set_cons_succ]) | (apply seqL_take; (focus (simp only [List.getElem?_toArray, List.getElem?_cons_succ, List.getElem?_cons_zero]; rfl)); (focus rfl); (focus (intro w' hS; subst hS; first | (go_simp; rfl) | (go_simp; done))); simp only [Act.put, List.setIfInBounds_toArray, List.set_cons_zero, List.set_cons_succ]))
  apply seqL_eff
  (focus (simp only [List.getElem?_toArray, List.getElem?_cons_succ, List.getElem?_cons_zero]; rfl))
  (focus rfl)
  intro K hK
  go_simp
  refine (rotl_7 _ _).mono ?_
  rintro e w1 ⟨rfl, rfl⟩
  refine hK _ _ ⟨fun _ => rfl, ?_⟩
  clear hK K
  iterate 1 (first | (apply seqL_skip; (focus (simp only [List.getElem?_toArray, List.getElem?_cons_succ, List.getElem?_cons_zero]; rfl)); (focus rfl); simp only [Act.put, List.setIfInBounds_toArray, List.set_cons_zero, List.set_cons_succ]) | (apply seqL_take; (focus (simp only [List.getElem?_toArray, List.getElem?_cons_succ, List.getElem?_cons_zero]; rfl)); (focus rfl); (focus (intro w' hS; subst hS; first | (go_simp; rfl) | (go_simp; done))); simp only [Act.put, List.setIfInBounds_toArray, List.set_cons_zero, List.set_cons_succ]))
  apply seqL_eff
  (focus (simp only [List.getElem?_toArray, List.getElem?_cons_succ, List.getElem?_cons_zero]; rfl))
  (focus rfl)
  intro K hK
  go_simp
  refine hK _ _ ⟨fun h => absurd rfl h, ?_⟩
  clear hK K
  refine seqL_nil ?_
  have hM9 := (hM8.setB (rotF 33554432 128 (bits .xor .u32 b1 c2))).drew
  clear cA cB cC cD fX hM8
  generalize (W8.setCell ⟨g, i1, none⟩ (.int .u32 (rotF 33554432 128 (bits .xor .u32 b1 c2)))).drew = W9 at hM9 ⊢
  obtain ⟨b2, hb2⟩ : ∃ z, z = rotF 33554432 128 (bits .xor .u32 b1 c2) := ⟨_, rfl⟩
  rw [← hb2] at hM9 ⊢
  have Hb2 := Lib.hid hb2
  clear hb2
  go_wp2_with fail
  go_end0
  have eb2 := Hb2.out
  subst eb2
  have ec2 := Hc2.out
  subst ec2
  have ed2 := Hd2.out
  subst ed2
  have ea2 := Ha2.out
  subst ea2
  have eb1 := Hb1.out
  subst eb1
  have ec1 := Hc1.out
  subst ec1
  have ed1 := Hd1.out
  subst ed1
  have ea1 := Ha1.out
  subst ea1
  exact ⟨rfl, hM9⟩
set_option maxRecDepth 20000
set_option maxHeartbeats 4000000 in
theorem iv_any (w : World) : Calls Tryz.prog 261 #[] w fun e w' => e = .returned (.agg #[.int .u32 1779033703, .int .u32 3144134277, .int .u32 1013904242, .int .u32 2773480762, .int .u32 1359893119, .int .u32 2600822924, .int .u32 528734635, .int .u32 1541459225]) ∧ Below w.heap.size w w' := by
  go_enter Tryz.func261, Tryz.ntmps261
  go_wp2_with fail
  exact bodyPost_ret (results_cell_row rfl _ _ w.heap.size _ _ (0, 0) _ rfl (Blk.new w _ _) Tryz.underlying329 rfl (by kernel_rfl)) rfl ⟨rfl, (Below.refl _ w).alloc (Nat.le_refl _) _⟩
set_option maxRecDepth 20000
def linesL : List (List Nat) := [[0, 1, 2, 3, 4, 5, 6, 7, 8, 9, 10, 11, 12, 13, 14, 15], [14, 10, 4, 8, 9, 15, 13, 6, 1, 12, 0, 2, 11, 7, 5, 3], [11, 8, 12, 0, 5, 2, 15, 13, 10, 14, 3, 6, 7, 1, 9, 4], [7, 9, 3, 1, 13, 12, 11, 14, 2, 6, 5, 10, 4, 0, 15, 8], [9, 0, 5, 7, 2, 4, 10, 15, 14, 1, 11, 12, 6, 8, 3, 13], [2, 12, 6, 10, 0, 11, 8, 3, 4, 13, 7, 5, 15, 14, 1, 9], [12, 5, 1, 15, 14, 13, 4, 10, 0, 7, 6, 3, 9, 2, 8, 11], [13, 11, 7, 14, 12, 1, 3, 9, 5, 0, 15, 4, 8, 6, 2, 10], [6, 15, 14, 9, 11, 3, 0, 8, 12, 2, 13, 7, 1, 4, 10, 5], [10, 2, 8, 4, 7, 6, 1, 5, 15, 11, 9, 14, 3, 12, 13, 0]]
def linesC : Array Value := (linesL.flatten.map fun x : Nat => Value.int .u8 (x : Int)).toArray
set_option maxHeartbeats 4000000 in
theorem lines_any (w : World) : Calls Tryz.prog 297 #[] w fun e w' => e = .returned (.agg linesC) ∧ Below w.heap.size w w' := by
  go_enter Tryz.func297, Tryz.ntmps297
  go_upto_region 1 with (fail)
  apply wp_region_lit
  iterate 11 (refine wpList_build rfl _ _ rfl (by kernel_rfl) ?_)
  refine wpList_store_row rfl _ _ _ rfl w.heap.size linesC (by kernel_rfl) (by kernel_rfl) 371 Tryz.zeroCells371 (heap_alloc_new w _) (by kernel_rfl) (by kernel_rfl) (by kernel_rfl) ?_
  apply wpList_nil
  rename_i K hK
  refine hK _ _ ?_
  clear hK K
  refine wp_ret ?_
  show bodyPost Tryz.prog Tryz.f297 (fun e w' => e = .returned (.agg linesC) ∧ Below w.heap.size w w') Exit.ret _ _
  refine bodyPost_ret (results_cell_row rfl _ _ w.heap.size _ _ (0, 0) _ (by kernel_rfl) (setRow_heap _ _ _ linesC _ _ (heap_alloc_new w _)) Tryz.underlying371 rfl (by kernel_rfl)) (by kernel_rfl) ⟨rfl, ?_⟩
  exact ⟨rfl, rfl, rfl, by simp, fun k hk => (setRow_other _ _ _ _ (by omega)).trans (Below.heap_alloc _ _ _ hk)⟩
theorem lines_hid (w : World) : Calls Tryz.prog 297 #[] w fun e w' => (∃ CC : Array Value, Hid (CC = linesC) ∧ e = .returned (.agg CC)) ∧ Below w.heap.size w w' := by
  refine (lines_any w).mono ?_
  rintro e w' ⟨h, b⟩
  exact ⟨⟨linesC, rfl, h⟩, b⟩
end Go.Proofs.YtgjfhgcjiglfkaaGreatDoor
namespace Go.Proofs.YtgjfhgcjiglfkaaGreatDoor
namespace Pc
variable (g : UInt8 → Nat)
def nx (S : Nat) (c : UInt8) : Nat := (S * 2 + g c) % 4294967296
def ends (S n : Nat) : Bool := decide (16 ≤ n) && (S / 134217728 == 0 || decide (128 ≤ n))
def cuts : Nat → List UInt8 → List UInt8 → List (List UInt8) × Nat × List UInt8
  | S, r, [] => ([], S, r)
  | S, r, c :: s => if ends (nx g S c) (r ++ [c]).length then ((r ++ [c]) :: (cuts (nx g S c) [] s).1, (cuts (nx g S c) [] s).2) else cuts (nx g S c) (r ++ [c]) s
def tl (r : List UInt8) : List (List UInt8) := if r = [] then [] else [r]
def cut (s : List UInt8) : List (List UInt8) := (cuts g 0 [] s).1 ++ tl (cuts g 0 [] s).2.2
theorem cuts_append : ∀ (S : Nat) (r s t : List UInt8), cuts g S r (s ++ t) = ((cuts g S r s).1 ++ (cuts g (cuts g S r s).2.1 (cuts g S r s).2.2 t).1, (cuts g (cuts g S r s).2.1 (cuts g S r s).2.2 t).2)
  | S, r, [], t => by simp [cuts]
  | S, r, c :: s, t => by
    rw [List.cons_append, cuts, cuts]
    split
    · rw [cuts_append]; simp
    · rw [cuts_append]
theorem cuts_snoc (S : Nat) (r s : List UInt8) (c : UInt8) : cuts g S r (s ++ [c]) = if ends (nx g (cuts g S r s).2.1 c) ((cuts g S r s).2.2 ++ [c]).length then ((cuts g S r s).1 ++ [(cuts g S r s).2.2 ++ [c]], nx g (cuts g S r s).2.1 c, []) else ((cuts g S r s).1, nx g (cuts g S r s).2.1 c, (cuts g S r s).2.2 ++ [c]) := by
  rw [cuts_append]
  simp only [cuts]
  split <;> simp
theorem cuts_flat : ∀ (S : Nat) (r s : List UInt8), (cuts g S r s).1.flatten ++ (cuts g S r s).2.2 = r ++ s
  | S, r, [] => by simp [cuts]
  | S, r, c :: s => by
    rw [cuts]
    split
    · have := cuts_flat (nx g S c) [] s
      simp only [List.flatten_cons, List.append_assoc, this]; simp
    · rw [cuts_flat]; simp
theorem cuts_sizes : ∀ (S : Nat) (r s : List UInt8), r.length < 128 → (∀ p ∈ (cuts g S r s).1, 16 ≤ p.length ∧ p.length ≤ 128) ∧ (cuts g S r s).2.2.length < 128
  | S, r, [], h => by simp [cuts, h]
  | S, r, c :: s, h => by
    rw [cuts]
    split
    case isTrue he =>
      have := cuts_sizes (nx g S c) [] s (by decide)
      refine ⟨fun p hp => ?_, this.2⟩
      rcases List.mem_cons.1 hp with rfl | hp
      · simp only [ends, Bool.and_eq_true, decide_eq_true_eq] at he
        refine ⟨he.1, by simp; omega⟩
      · exact this.1 p hp
    case isFalse he =>
      refine cuts_sizes _ _ s ?_
      simp only [ends, Bool.and_eq_true, decide_eq_true_eq, Bool.or_eq_true, not_and, not_or, Nat.not_le] at he
      simp only [List.length_append, List.length_cons, List.length_nil] at he ⊢
      by_cases h16 : 16 ≤ r.length + (0 + 1)
      · exact (he h16).2
      · omega
theorem cuts_sum : ∀ (S : Nat) (r s : List UInt8), S < 4294967296 → (cuts g S r s).2.1 < 4294967296
  | S, r, [], h => by simp [cuts, h]
  | S, r, c :: s, h => by
    rw [cuts]
    split
    · exact cuts_sum _ _ s (Nat.mod_lt _ (by decide))
    · exact cuts_sum _ _ s (Nat.mod_lt _ (by decide))
theorem tl_flat (r : List UInt8) : (tl r).flatten = r := by unfold tl; split <;> simp_all
theorem cut_flat (s : List UInt8) : (cut g s).flatten = s := by
  rw [cut, List.flatten_append, tl_flat, cuts_flat]; rfl
theorem cut_sizes (s : List UInt8) (i : Nat) (h : i < (cut g s).length) : 0 < (cut g s)[i].length ∧ (cut g s)[i].length ≤ 128 ∧ (i + 1 < (cut g s).length → 16 ≤ (cut g s)[i].length) := by
  obtain ⟨h1, h2⟩ := cuts_sizes g 0 [] s (by decide)
  unfold cut at h ⊢
  rcases Nat.lt_or_ge i (cuts g 0 [] s).1.length with hi | hi
  · rw [List.getElem_append_left hi]
    have := h1 _ (List.getElem_mem hi)
    omega
  · rw [List.getElem_append_right hi]
    have hm : (tl (cuts g 0 [] s).2.2)[i - (cuts g 0 [] s).1.length]'(by simp at h; omega) ∈ tl (cuts g 0 [] s).2.2 := List.getElem_mem _
    have hl : (tl (cuts g 0 [] s).2.2).length ≤ 1 := by unfold tl; split <;> simp
    have hn : 0 < ((tl (cuts g 0 [] s).2.2)[i - (cuts g 0 [] s).1.length]'(by simp at h; omega)).length ∧ ((tl (cuts g 0 [] s).2.2)[i - (cuts g 0 [] s).1.length]'(by simp at h; omega)).length < 128 := by
      generalize (tl (cuts g 0 [] s).2.2)[i - (cuts g 0 [] s).1.length]'(by simp at h; omega) = p at hm
      unfold tl at hm
      split at hm
      · cases hm
      · rcases List.mem_singleton.1 hm with rfl
        exact ⟨List.length_pos_iff.2 ‹_›, h2⟩
    refine ⟨hn.1, by omega, fun h' => ?_⟩
    simp only [List.length_append] at h'
    omega
def E : Nat → Nat → Nat → List UInt8 → List Nat
  | p, _, n, [] => if n = 0 then [] else [p]
  | p, S, n, c :: u => if ends (nx g S c) (n + 1) then (p + 1) :: E (p + 1) (nx g S c) 0 u else E (p + 1) (nx g S c) (n + 1) u
end Pc
open Go.RowKit
theorem Owns.grownOther {α : Type} {w w' : World} {b : Nat} {e : TypeId} {s : Nat} {en : α → List Value} {v : Value} {xs : List α} {row : Option Nat} (h : Owns w b e s en v xs) (hg : w.grownBy w' row) (hne : v.ownBlock = none ∨ v.ownBlock ≠ row) : Owns w' b e s en v xs := World.ownsRow.kept h hg hne
def gearA (c : Int) : Int := (c + 1) % 4294967296 * 2654435761 % 4294967296
def gearB (c : Int) : Int := bits BinOp.xor IntKind.u32 (gearA c) (gearA c / 32768) * 2246822519 % 4294967296
def gearI (c : Int) : Int := bits BinOp.xor IntKind.u32 (gearB c) (gearB c / 8192)
def gear (c : UInt8) : Nat := (gearI c.toNat).toNat
theorem gear_int (c : UInt8) : ((gear c : Nat) : Int) = gearI c.toNat := Int.toNat_of_nonneg (bits_lo_u32 _ _ _)
set_option maxHeartbeats 1000000 in
theorem gear_any (c : UInt8) (w : World) :
    Calls Tryz.prog 296 #[bv c] w fun e w' => e = .returned (.int .u32 (gear c)) ∧ w' = w := by
  rw [gear_int]
  unfold bv
  go_enter Tryz.func296, Tryz.ntmps296
  go_wp2_with fail
  go_ret
  exact ⟨rfl, rfl⟩
def IsT (W : World) (k : Nat) : Prop := ∃ cs t m, W.heap[k]? = some (.cells cs t m) ∧ (t = 326 ∨ t = 5)
structure KT (n0 n1 : Nat) (W W' : World) : Prop where
  os : W'.os = W.os
  tape : W'.tape = W.tape
  output : W'.output = W.output
  size : W.heap.size ≤ W'.heap.size
  block : ∀ k, k < n1 → (k < n0 ∨ ¬ IsT W k) → W'.heap[k]? = W.heap[k]?
section
variable {n0 n1 : Nat} {A B C : World}
theorem KT.refl (n0 n1 : Nat) (W : World) : KT n0 n1 W W := ⟨rfl, rfl, rfl, Nat.le_refl _, fun _ _ _ => rfl⟩
theorem KT.trans (h : KT n0 n1 A B) (g : KT n0 n1 B C) : KT n0 n1 A C :=
  ⟨g.os.trans h.os, g.tape.trans h.tape, g.output.trans h.output, Nat.le_trans h.size g.size, fun k hk hp => by
    have e := h.block k hk hp
    refine (g.block k hk ?_).trans e
    rcases hp with hp | hp
    · exact .inl hp
    · refine .inr fun ht => hp ?_
      obtain ⟨cs, t, m, h1, h2⟩ := ht
      exact ⟨cs, t, m, e ▸ h1, h2⟩⟩
theorem KT.grown {row : Option Nat} (h : KT n0 n1 A B) (hn : n1 ≤ B.heap.size) (hg : B.grownBy C row) (hrow : ∀ k, row = some k → n1 ≤ k ∨ (n0 ≤ k ∧ IsT B k)) : KT n0 n1 A C := by
  refine h.trans ⟨hg.os, hg.tape, hg.output, hg.size, fun k hk hp => hg.block k (by omega) fun e => ?_⟩
  rcases hrow k e.symm with h1 | ⟨h1, h2⟩
  · omega
  · rcases hp with hp | hp
    · omega
    · exact hp h2
theorem KT.alloc (h : KT n0 n1 A B) (hn : n1 ≤ B.heap.size) (o : Obj) : KT n0 n1 A (B.alloc o) := h.grown hn (World.grownBy_alloc B o none) (fun _ e => by cases e)
theorem KT.drew (h : KT n0 n1 A B) : KT n0 n1 A B.drew := ⟨h.os, h.tape, h.output, h.size, h.block⟩
theorem KT.below (h : KT n0 n1 A B) (hn : n0 ≤ n1) : Below n0 A B := ⟨h.os, h.tape, h.output, h.size, fun k hk => h.block k (by omega) (.inl hk)⟩
end
theorem grownBy_set (W : World) (b i : Nat) (v : Value) : W.grownBy (W.setCell ⟨b, i, none⟩ v) (some b) :=
  ⟨rfl, rfl, rfl, by simp, fun k _ hk => Below.heap_setCell _ _ _ k (fun e => hk (by rw [e]))⟩
theorem grownBy_put (W : World) (l : Nat) (o : Obj) : W.grownBy (W.putObj l o) (some l) :=
  ⟨rfl, rfl, rfl, by simp, fun k _ hk => World.putObj_heap_other (fun e => hk (by rw [e]))⟩
theorem Owns.isT {α : Type} {w : World} {b s : Nat} {en : α → List Value} {v : Value} {xs : List α} (h : Owns w b 5 s en v xs) : ∀ k, v.ownBlock = some k → b ≤ k ∧ IsT w k := by
  intro k hk
  rcases h.form with ⟨rfl, _⟩ | ⟨g, cc, rfl⟩
  · cases hk
  · obtain ⟨hb, _, _, _, cur, hh, _, _⟩ := h.row
    obtain rfl : g = k := by simpa [Value.ownBlock] using hk
    exact ⟨hb, cur, _, _, hh, .inr rfl⟩
theorem Owns.notT {α : Type} {w : World} {b s : Nat} {en : α → List Value} {v : Value} {xs : List α} (h : Owns w b 9 s en v xs) : ∀ k, v.ownBlock = some k → b ≤ k ∧ ¬ IsT w k := by
  intro k hk
  rcases h.form with ⟨rfl, _⟩ | ⟨g, cc, rfl⟩
  · cases hk
  · obtain ⟨hb, _, _, _, cur, hh, _, _⟩ := h.row
    obtain rfl : g = k := by simpa [Value.ownBlock] using hk
    refine ⟨hb, ?_⟩
    rintro ⟨cs, t, m, h1, h2⟩
    unfold Blk at hh
    rw [hh] at h1
    injection h1 with h1
    injection h1 with _ h1 _
    subst h1
    rcases h2 with h2 | h2 <;> exact absurd h2 (by decide)
theorem Blk.isT {w : World} {g : Nat} {cs : Array Value} (h : Blk w g 326 cs) : IsT w g := ⟨cs, _, _, h, .inl rfl⟩
theorem Blk.notT {w : World} {g : Nat} {t : TypeId} {cs : Array Value} (h : Blk w g t cs) (ht : t ≠ 326 ∧ t ≠ 5) : ¬ IsT w g := by
  rintro ⟨cs, t', m, h1, h2⟩
  unfold Blk at h
  rw [h] at h1
  injection h1 with h1
  injection h1 with _ h1 _
  subst h1
  rcases h2 with h2 | h2
  · exact ht.1 h2
  · exact ht.2 h2
theorem obj_notT {w : World} {g : Nat} {o : Obj} (h : w.heap[g]? = some o) (ho : ∀ cs t m, o ≠ .cells cs t m) : ¬ IsT w g := by
  rintro ⟨cs, t', m, h1, h2⟩
  rw [h] at h1
  injection h1 with h1
  exact ho _ _ _ h1
theorem Blk.kept {w w' : World} {g : Nat} {t : TypeId} {cs : Array Value} {row : Option Nat} (h : Blk w g t cs) (hg : w.grownBy w' row) (hne : some g ≠ row) : Blk w' g t cs := (hg.block g h.lt hne).trans h
def Cutter (w : World) (n0 c : Nat) (S : Nat) (r : List UInt8) : Prop := ∃ v, Blk w c 326 #[.int .u32 S, v] ∧ Owns w n0 5 1 eb v r
theorem Cutter.kept {w w' : World} {n0 c S : Nat} {r : List UInt8} {row : Option Nat} (h : Cutter w n0 c S r) (hg : w.grownBy w' row) (hrow : ∀ k, row = some k → ¬ IsT w k) : Cutter w' n0 c S r := by
  obtain ⟨v, h1, h2⟩ := h
  refine ⟨v, h1.kept hg (fun e => hrow c e.symm h1.isT), h2.grownOther hg ?_⟩
  cases hv : v.ownBlock with
  | none => exact .inl rfl
  | some k => exact .inr fun e => hrow k e.symm (h2.isT k hv).2
theorem Cutter.kt {w w' : World} {n0 n1 c S : Nat} {r : List UInt8} (h : Cutter w n0 c S r) (hn : w.heap.size ≤ n1) (hg : Below n1 w w') : Cutter w' n0 c S r := by
  obtain ⟨v, h1, h2⟩ := h
  exact ⟨v, (hg.block c (Nat.lt_of_lt_of_le h1.lt hn)).trans h1, h2.below (hg.mono hn)⟩
set_option maxRecDepth 20000
def lps : Code → List Code
  | .loop c => .loop c :: lps c
  | .seq a b => lps a ++ lps b
  | .block _ c => lps c
  | .scope c => lps c
  | .cond _ a b => lps a ++ lps b
  | _ => []
noncomputable def blkLoop (n : Nat) : Code := (lps (Tryz.f262.body.getD .skip)).getD n .skip
def eU (l : List Int) : Array Value := (l.map (Value.int .u32)).toArray
theorem eU_size (l : List Int) : (eU l).size = l.length := by simp [eU]
theorem eU_at (l : List Int) {i : Nat} (h : i < l.length) : (eU l)[i]? = some (.int .u32 (l.getD i 0)) := by
  simp [eU, List.getElem?_eq_getElem h]
theorem eU_set (l : List Int) (i : Nat) (x : Int) : (eU l).setIfInBounds i (.int .u32 x) = eU (l.set i x) := by
  simp [eU, List.map_set]
def mixV (V : List Int) (p : Nat × Nat × Nat × Nat) (x y : Int) : List Int :=
  let r := mixF (V.getD p.1 0) (V.getD p.2.1 0) (V.getD p.2.2.1 0) (V.getD p.2.2.2 0) x y
  (((V.set p.1 r.1).set p.2.1 r.2.1).set p.2.2.1 r.2.2.1).set p.2.2.2 r.2.2.2
theorem mixV_len (V : List Int) (p x y) : (mixV V p x y).length = V.length := by simp [mixV]
theorem eU_mix (V : List Int) (p : Nat × Nat × Nat × Nat) (x y : Int) : eU (mixV V p x y) = mx4 (eU V) p.1 p.2.1 p.2.2.1 p.2.2.2 (mixF (V.getD p.1 0) (V.getD p.2.1 0) (V.getD p.2.2.1 0) (V.getD p.2.2.2 0) x y).1 (mixF (V.getD p.1 0) (V.getD p.2.1 0) (V.getD p.2.2.1 0) (V.getD p.2.2.2 0) x y).2.1 (mixF (V.getD p.1 0) (V.getD p.2.1 0) (V.getD p.2.2.1 0) (V.getD p.2.2.2 0) x y).2.2.1 (mixF (V.getD p.1 0) (V.getD p.2.1 0) (V.getD p.2.2.1 0) (V.getD p.2.2.2 0) x y).2.2.2 := by
  unfold mixV mx4
  rw [eU_set, eU_set, eU_set, eU_set]
def placeL : List (Nat × Nat × Nat × Nat) := [(0, 4, 8, 12), (1, 5, 9, 13), (2, 6, 10, 14), (3, 7, 11, 15), (0, 5, 10, 15), (1, 6, 11, 12), (2, 7, 8, 13), (3, 4, 9, 14)]
def stepV (L : List Nat) (M V : List Int) (i : Nat) : List Int := mixV V (placeL.getD i (0, 0, 0, 0)) (M.getD (L.getD (2 * i) 0) 0) (M.getD (L.getD (2 * i + 1) 0) 0)
def runV (L : List Nat) (M V : List Int) (k : Nat) : List Int := (List.range k).foldl (stepV L M) V
theorem runV_zero (L : List Nat) (M V : List Int) : runV L M V 0 = V := by unfold runV; rw [List.range_zero, List.foldl_nil]
theorem runV_succ (L : List Nat) (M V : List Int) (k : Nat) : runV L M V (k + 1) = stepV L M (runV L M V k) k := by
  unfold runV; rw [List.range_succ, List.foldl_append, List.foldl_cons, List.foldl_nil]
theorem runV_len (L : List Nat) (M V : List Int) (k : Nat) : (runV L M V k).length = V.length := by
  induction k with
  | zero => rw [runV_zero]
  | succ k ih => rw [runV_succ, stepV, mixV_len, ih]
def lineV (M V : List Int) (i : Nat) : List Int := runV (linesL.getD i []) M V 8
def allV (M V : List Int) (k : Nat) : List Int := (List.range k).foldl (lineV M) V
theorem allV_succ (M V : List Int) (k : Nat) : allV M V (k + 1) = lineV M (allV M V k) k := by
  unfold allV; rw [List.range_succ, List.foldl_append, List.foldl_cons, List.foldl_nil]
theorem allV_zero (M V : List Int) : allV M V 0 = V := by unfold allV; rw [List.range_zero, List.foldl_nil]
theorem allV_len (M V : List Int) (k : Nat) : (allV M V k).length = V.length := by
  induction k with
  | zero => rw [allV_zero]
  | succ k ih => rw [allV_succ, lineV, runV_len, ih]
def eB (l : List Nat) : Array Value := (l.map fun x : Nat => Value.int .u8 (x : Int)).toArray
theorem eB_at (l : List Nat) {i : Nat} (h : i < l.length) : (eB l)[i]? = some (.int .u8 ((l.getD i 0 : Nat) : Int)) := by
  simp [eB, List.getElem?_eq_getElem h]
theorem getD_lt {l : List Nat} (h : ∀ x ∈ l, x < 16) (i : Nat) : l.getD i 0 < 16 := by
  rw [List.getD_eq_getElem?_getD]
  cases hg : l[i]? with
  | none => simp
  | some x => simpa using h x (List.mem_of_getElem? hg)
def plcA (i : Nat) : Array Value := #[.int .i64 ((placeL.getD i (0, 0, 0, 0)).1 : Nat), .int .i64 ((placeL.getD i (0, 0, 0, 0)).2.1 : Nat), .int .i64 ((placeL.getD i (0, 0, 0, 0)).2.2.1 : Nat), .int .i64 ((placeL.getD i (0, 0, 0, 0)).2.2.2 : Nat)]
def PPs : Array Value := #[.int .i64 0, .int .i64 4, .int .i64 8, .int .i64 12, .int .i64 1, .int .i64 5, .int .i64 9, .int .i64 13, .int .i64 2, .int .i64 6, .int .i64 10, .int .i64 14, .int .i64 3, .int .i64 7, .int .i64 11, .int .i64 15, .int .i64 0, .int .i64 5, .int .i64 10, .int .i64 15, .int .i64 1, .int .i64 6, .int .i64 11, .int .i64 12, .int .i64 2, .int .i64 7, .int .i64 8, .int .i64 13, .int .i64 3, .int .i64 4, .int .i64 9, .int .i64 14]
theorem places_ix (i : Nat) (h : i < 8) (w : World) : (Instr.index 369 (.agg PPs) (.int .i64 (i : Int))).run Tryz.prog w = .ok (.agg (plcA i)) w := by
  have hc : i = 0 ∨ i = 1 ∨ i = 2 ∨ i = 3 ∨ i = 4 ∨ i = 5 ∨ i = 6 ∨ i = 7 := by omega
  rcases hc with rfl | rfl | rfl | rfl | rfl | rfl | rfl | rfl <;> (show _ = _; kernel_rfl)
theorem lines_ix (i : Nat) (h : i < 10) (w : World) : (Instr.index 371 (.agg linesC) (.int .i64 (i : Int))).run Tryz.prog w = .ok (.agg (eB (linesL.getD i []))) w := by
  have hc : i = 0 ∨ i = 1 ∨ i = 2 ∨ i = 3 ∨ i = 4 ∨ i = 5 ∨ i = 6 ∨ i = 7 ∨ i = 8 ∨ i = 9 := by omega
  rcases hc with rfl | rfl | rfl | rfl | rfl | rfl | rfl | rfl | rfl | rfl <;> (show _ = _; kernel_rfl)
theorem lines_len (i : Nat) (h : i < 10) : (linesL.getD i []).length = 16 ∧ ∀ x ∈ linesL.getD i [], x < 16 := by
  have hc : i = 0 ∨ i = 1 ∨ i = 2 ∨ i = 3 ∨ i = 4 ∨ i = 5 ∨ i = 6 ∨ i = 7 ∨ i = 8 ∨ i = 9 := by omega
  rcases hc with rfl | rfl | rfl | rfl | rfl | rfl | rfl | rfl | rfl | rfl <;> decide
end Go.Proofs.YtgjfhgcjiglfkaaGreatDoor
