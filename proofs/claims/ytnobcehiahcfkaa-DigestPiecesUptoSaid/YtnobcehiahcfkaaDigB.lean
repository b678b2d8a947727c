/- digest: mix, the walk. -/
import Derived.Test.YtnobcehiahcfkaaDigA
namespace Go.Proofs.Ytnobcehiahcfkaa
set_option maxRecDepth 20000
open Go.RowKit
set_option maxHeartbeats 4000000 in
theorem mix_any (g i0 i1 i2 i3 : Nat) (vs : Array Value) (a b c d x y : Int) (w : World) (h4 : Four vs.size i0 i1 i2 i3) (hn : vs.size = 16) (hB : Blk w g 127 vs) (h0 : vs[i0]? = some (.int .u32 a)) (h1 : vs[i1]? = some (.int .u32 b)) (h2 : vs[i2]? = some (.int .u32 c)) (h3 : vs[i3]? = some (.int .u32 d)) :
    Calls Try.prog 60 #[.pointer (some ⟨g, 0, none⟩), .agg #[.int .i64 i0, .int .i64 i1, .int .i64 i2, .int .i64 i3], .int .u32 x, .int .u32 y] w fun e w' => e = .returned (.tuple #[]) ∧ Mx w w' g 127 vs i0 i1 i2 i3 (mixF a b c d x y).1 (mixF a b c d x y).2.1 (mixF a b c d x y).2.2.1 (mixF a b c d x y).2.2.2 := by
  have hX := Blk.new w 129 #[.int .i64 i0, .int .i64 i1, .int .i64 i2, .int .i64 i3]
  have hM : Mx w (w.alloc (.cells #[.int .i64 i0, .int .i64 i1, .int .i64 i2, .int .i64 i3] 129)) g 127 vs i0 i1 i2 i3 a b c d :=
    ⟨by rw [mx4_self h0 h1 h2 h3]; exact hB.alloc _, h4, World.grownBy_alloc _ _ _⟩
  have e0 := hX.cell 0
  have e1 := hX.cell 1
  have e2 := hX.cell 2
  have e3 := hX.cell 3
  obtain ⟨q0, q1, q2, q3, -⟩ := id h4
  have l0 : (i0 : Int) < 16 := by omega
  have l1 : (i1 : Int) < 16 := by omega
  have l2 : (i2 : Int) < 16 := by omega
  have l3 : (i3 : Int) < 16 := by omega
  clear h0 h1 h2 h3 hB hn q0 q1 q2 q3
  go_enter Try.func60, Try.ntmps60
  go_wp2_with fail
  go_quiet (fail)
  have hM1 := hM.drewN nq
  clear hX e0 e1 e2 e3 l0 l1 l2 l3 hM
  generalize (w.alloc (.cells #[.int .i64 i0, .int .i64 i1, .int .i64 i2, .int .i64 i3] 129)).drewN nq = W1 at hM1 ⊢
  go_wp2_with fail
  have cA := hM1.drew.ata
  have cB := hM1.drew.atb
  have cC := hM1.drew.atc
  have cD := hM1.drew.atd
  have fX := hM1.drew.blk.frozen i0
  refine wp_region_last [(true, 0), (true, 1), (true, 2), (true, 3), (true, 4), (true, 5), (true, 6), (true, 7), (true, 8), (true, 9), (false, 10)] 10 (fun w' => w' = W1.drew) (by kernel_rfl) (by kernel_rfl) (by kernel_rfl) (fun _ _ _ _ _ h => h) (by kernel_rfl) (by kernel_rfl) ?_ ?_
  · rfl
  iterate 10 (first | (apply seqL_skip; (focus (simp only [List.getElem?_toArray, List.getElem?_cons_succ, List.getElem?_cons_zero]; rfl)); (focus rfl); simp only [Act.put, List.setIfInBounds_toArray, List.set_cons_zero, List.set_cons_succ]) | (apply seqL_take; (focus (simp only [List.getElem?_toArray, List.getElem?_cons_succ, List.getElem?_cons_zero]; rfl)); (focus rfl); (focus (intro w' hS; subst hS; first | (go_simp; rfl) | (go_simp; done))); simp only [Act.put, List.setIfInBounds_toArray, List.set_cons_zero, List.set_cons_succ]))
  apply seqL_eff
  (focus (simp only [List.getElem?_toArray, List.getElem?_cons_succ, List.getElem?_cons_zero]; rfl))
  (focus rfl)
  intro K hK
  go_simp
  refine hK _ _ ⟨fun h => absurd rfl h, ?_⟩
  clear hK K
  refine seqL_nil ?_
  have hM2 := (hM1.setA (IntKind.u32.wrap (a + IntKind.u32.wrap (b + x)))).drew
  clear cA cB cC cD fX hM1
  generalize (W1.setCell ⟨g, i0, none⟩ (.int .u32 (IntKind.u32.wrap (a + IntKind.u32.wrap (b + x))))).drew = W2 at hM2 ⊢
  obtain ⟨a1, ha1⟩ : ∃ z, z = IntKind.u32.wrap (a + IntKind.u32.wrap (b + x)) := ⟨_, rfl⟩
  rw [← ha1] at hM2 ⊢
  have Ha1 := Lib.hid ha1
  clear ha1
  go_wp2_with fail
  have cA := hM2.drew.ata
  have cB := hM2.drew.atb
  have cC := hM2.drew.atc
  have cD := hM2.drew.atd
  have fX := hM2.drew.blk.frozen i3
  refine wp_region_last [(true, 0), (true, 1), (true, 2), (true, 3), (true, 4), (true, 5), (true, 6), (true, 7), (false, 8), (true, 9), (false, 10)] 10 (fun w' => w' = W2.drew) (by kernel_rfl) (by kernel_rfl) (by kernel_rfl) (fun _ _ _ _ _ h => h) (by kernel_rfl) (by kernel_rfl) ?_ ?_
  · rfl
  iterate 8 (first | (apply seqL_skip; (focus (simp only [List.getElem?_toArray, List.getElem?_cons_succ, List.getElem?_cons_zero]; rfl)); (focus rfl); simp only [Act.put, List.setIfInBounds_toArray, List.set_cons_zero, List.set_cons_succ]) | (apply seqL_take; (focus (simp only [List.getElem?_toArray, List.getElem?_cons_succ, List.getElem?_cons_zero]; rfl)); (focus rfl); (focus (intro w' hS; subst hS; first | (go_simp; rfl) | (go_simp; done))); simp only [Act.put, List.setIfInBounds_toArray, List.set_cons_zero, List.set_cons_succ]))
  apply seqL_eff
  (focus (simp only [List.getElem?_toArray, List.getElem?_cons_succ, List.getElem?_cons_zero]; rfl))
  (focus rfl)
  intro K hK
  go_simp
  refine (rotl_16 _ _).mono ?_
  rintro e w1 ⟨rfl, rfl⟩
  refine hK _ _ ⟨fun _ => rfl, ?_⟩
  clear hK K
  iterate 1 (first | (apply seqL_skip; (focus (simp only [List.getElem?_toArray, List.getElem?_cons_succ, List.getElem?_cons_zero]; rfl)); (focus rfl); simp only [Act.put, List.setIfInBounds_toArray, List.set_cons_zero, List.set_cons_succ]) | (apply seqL_take; (focus (simp only [List.getElem?_toArray, List.getElem?_cons_succ, List.getElem?_cons_zero]; rfl)); (focus rfl); (focus (intro w' hS; subst hS; first | (go_simp; rfl) | (go_simp; done))); simp only [Act.put, List.setIfInBounds_toArray, List.set_cons_zero, List.set_cons_succ]))
  apply seqL_eff
  (focus (simp only [List.getElem?_toArray, List.getElem?_cons_succ, List.getElem?_cons_zero]; rfl))
  (focus rfl)
  intro K hK
  go_simp
  refine hK _ _ ⟨fun h => absurd rfl h, ?_⟩
  clear hK K
  refine seqL_nil ?_
  have hM3 := (hM2.setD (rotF 65536 65536 (bits .xor .u32 d a1))).drew
  clear cA cB cC cD fX hM2
  generalize (W2.setCell ⟨g, i3, none⟩ (.int .u32 (rotF 65536 65536 (bits .xor .u32 d a1)))).drew = W3 at hM3 ⊢
  obtain ⟨d1, hd1⟩ : ∃ z, z = rotF 65536 65536 (bits .xor .u32 d a1) := ⟨_, rfl⟩
  rw [← hd1] at hM3 ⊢
  have Hd1 := Lib.hid hd1
  clear hd1
  go_wp2_with fail
  have cA := hM3.drew.ata
  have cB := hM3.drew.atb
  have cC := hM3.drew.atc
  have cD := hM3.drew.atd
  have fX := hM3.drew.blk.frozen i2
  refine wp_region_last [(true, 0), (true, 1), (true, 2), (true, 3), (true, 4), (true, 5), (true, 6), (true, 7), (false, 8)] 8 (fun w' => w' = W3.drew) (by kernel_rfl) (by kernel_rfl) (by kernel_rfl) (fun _ _ _ _ _ h => h) (by kernel_rfl) (by kernel_rfl) ?_ ?_
  · rfl
  iterate 8 (first | (apply seqL_skip; (focus (simp only [List.getElem?_toArray, List.getElem?_cons_succ, List.getElem?_cons_zero]; rfl)); (focus rfl); simp only [Act.put, List.setIfInBounds_toArray, List.set_cons_zero, List.set_cons_succ]) | (apply seqL_take; (focus (simp only [List.getElem?_toArray, List.getElem?_cons_succ, List.getElem?_cons_zero]; rfl)); (focus rfl); (focus (intro w' hS; subst hS; first | (go_simp; rfl) | (go_simp; done))); simp only [Act.put, List.setIfInBounds_toArray, List.set_cons_zero, List.set_cons_succ]))
  apply seqL_eff
  (focus (simp only [List.getElem?_toArray, List.getElem?_cons_succ, List.getElem?_cons_zero]; rfl))
  (focus rfl)
  intro K hK
  go_simp
  refine hK _ _ ⟨fun h => absurd rfl h, ?_⟩
  clear hK K
  refine seqL_nil ?_
  have hM4 := (hM3.setC (IntKind.u32.wrap (c + d1))).drew
  clear cA cB cC cD fX hM3
  generalize (W3.setCell ⟨g, i2, none⟩ (.int .u32 (IntKind.u32.wrap (c + d1)))).drew = W4 at hM4 ⊢
  obtain ⟨c1, hc1⟩ : ∃ z, z = IntKind.u32.wrap (c + d1) := ⟨_, rfl⟩
  rw [← hc1] at hM4 ⊢
  have Hc1 := Lib.hid hc1
  clear hc1
  go_wp2_with fail
  have cA := hM4.drew.ata
  have cB := hM4.drew.atb
  have cC := hM4.drew.atc
  have cD := hM4.drew.atd
  have fX := hM4.drew.blk.frozen i1
  refine wp_region_last [(true, 0), (true, 1), (true, 2), (true, 3), (true, 4), (true, 5), (true, 6), (true, 7), (false, 8), (true, 9), (false, 10)] 10 (fun w' => w' = W4.drew) (by kernel_rfl) (by kernel_rfl) (by kernel_rfl) (fun _ _ _ _ _ h => h) (by kernel_rfl) (by kernel_rfl) ?_ ?_
  · rfl
  iterate 8 (first | (apply seqL_skip; (focus (simp only [List.getElem?_toArray, List.getElem?_cons_succ, List.getElem?_cons_zero]; rfl)); (focus rfl); simp only [Act.put, List.setIfInBounds_toArray, List.set_cons_zero, List.set_cons_succ]) | (apply seqL_take; (focus (simp only [List.getElem?_toArray, List.getElem?_cons_succ, List.getElem?_cons_zero]; rfl)); (focus rfl); (focus (intro w' hS; subst hS; first | (go_simp; rfl) | (go_simp; done))); simp only [Act.put, List.setIfInBounds_toArray, List.set_cons_zero, List.set_cons_succ]))
  apply seqL_eff
  (focus (simp only [List.getElem?_toArray, List.getElem?_cons_succ, List.getElem?_cons_zero]; rfl))
  (focus rfl)
  intro K hK
  go_simp
  refine (rotl_12 _ _).mono ?_
  rintro e w1 ⟨rfl, rfl⟩
  refine hK _ _ ⟨fun _ => rfl, ?_⟩
  clear hK K
  iterate 1 (first | (apply seqL_skip; (focus (simp only [List.getElem?_toArray, List.getElem?_cons_succ, List.getElem?_cons_zero]; rfl)); (focus rfl); simp only [Act.put, List.setIfInBounds_toArray, List.set_cons_zero, List.set_cons_succ]) | (apply seqL_take; (focus (simp only [List.getElem?_toArray, List.getElem?_cons_succ, List.getElem?_cons_zero]; rfl)); (focus rfl); (focus (intro w' hS; subst hS; first | (go_simp; rfl) | (go_simp; done))); simp only [Act.put, List.setIfInBounds_toArray, List.set_cons_zero, List.set_cons_succ]))
  apply seqL_eff
  (focus (simp only [List.getElem?_toArray, List.getElem?_cons_succ, List.getElem?_cons_zero]; rfl))
  (focus rfl)
  intro K hK
  go_simp
  refine hK _ _ ⟨fun h => absurd rfl h, ?_⟩
  clear hK K
  refine seqL_nil ?_
  have hM5 := (hM4.setB (rotF 1048576 4096 (bits .xor .u32 b c1))).drew
  clear cA cB cC cD fX hM4
  generalize (W4.setCell ⟨g, i1, none⟩ (.int .u32 (rotF 1048576 4096 (bits .xor .u32 b c1)))).drew = W5 at hM5 ⊢
  obtain ⟨b1, hb1⟩ : ∃ z, z = rotF 1048576 4096 (bits .xor .u32 b c1) := ⟨_, rfl⟩
  rw [← hb1] at hM5 ⊢
  have Hb1 := Lib.hid hb1
  clear hb1
  go_wp2_with fail
  have cA := hM5.drew.ata
  have cB := hM5.drew.atb
  have cC := hM5.drew.atc
  have cD := hM5.drew.atd
  have fX := hM5.drew.blk.frozen i0
  refine wp_region_last [(true, 0), (true, 1), (true, 2), (true, 3), (true, 4), (true, 5), (true, 6), (true, 7), (true, 8), (true, 9), (false, 10)] 10 (fun w' => w' = W5.drew) (by kernel_rfl) (by kernel_rfl) (by kernel_rfl) (fun _ _ _ _ _ h => h) (by kernel_rfl) (by kernel_rfl) ?_ ?_
  · rfl
  iterate 10 (first | (apply seqL_skip; (focus (simp only [List.getElem?_toArray, List.getElem?_cons_succ, List.getElem?_cons_zero]; rfl)); (focus rfl); simp only [Act.put, List.setIfInBounds_toArray, List.set_cons_zero, List.set_cons_succ]) | (apply seqL_take; (focus (simp only [List.getElem?_toArray, List.getElem?_cons_succ, List.getElem?_cons_zero]; rfl)); (focus rfl); (focus (intro w' hS; subst hS; first | (go_simp; rfl) | (go_simp; done))); simp only [Act.put, List.setIfInBounds_toArray, List.set_cons_zero, List.set_cons_succ]))
  apply seqL_eff
  (focus (simp only [List.getElem?_toArray, List.getElem?_cons_succ, List.getElem?_cons_zero]; rfl))
  (focus rfl)
  intro K hK
  go_simp
  refine hK _ _ ⟨fun h => absurd rfl h, ?_⟩
  clear hK K
  refine seqL_nil ?_
  have hM6 := (hM5.setA (IntKind.u32.wrap (a1 + IntKind.u32.wrap (b1 + y)))).drew
  clear cA cB cC cD fX hM5
  generalize (W5.setCell ⟨g, i0, none⟩ (.int .u32 (IntKind.u32.wrap (a1 + IntKind.u32.wrap (b1 + y))))).drew = W6 at hM6 ⊢
  obtain ⟨a2, ha2⟩ : ∃ z, z = IntKind.u32.wrap (a1 + IntKind.u32.wrap (b1 + y)) := ⟨_, rfl⟩
  rw [← ha2] at hM6 ⊢
  have Ha2 := Lib.hid ha2
  clear ha2
  go_wp2_with fail
  have cA := hM6.drew.ata
  have cB := hM6.drew.atb
  have cC := hM6.drew.atc
  have cD := hM6.drew.atd
  have fX := hM6.drew.blk.frozen i3
  refine wp_region_last [(true, 0), (true, 1), (true, 2), (true, 3), (true, 4), (true, 5), (true, 6), (true, 7), (false, 8), (true, 9), (false, 10)] 10 (fun w' => w' = W6.drew) (by kernel_rfl) (by kernel_rfl) (by kernel_rfl) (fun _ _ _ _ _ h => h) (by kernel_rfl) (by kernel_rfl) ?_ ?_
  · rfl
  iterate 8 (first | (apply seqL_skip; (focus (simp only [List.getElem?_toArray, List.getElem?_cons_succ, List.getElem?_cons_zero]; rfl)); (focus rfl); simp only [Act.put, List.setIfInBounds_toArray, List.set_cons_zero, List.set_cons_succ]) | (apply seqL_take; (focus (simp only [List.getElem?_toArray, List.getElem?_cons_succ, List.getElem?_cons_zero]; rfl)); (focus rfl); (focus (intro w' hS; subst hS; first | (go_simp; rfl) | (go_simp; done))); simp only [Act.put, List.setIfInBounds_toArray, List.set_cons_zero, List.set_cons_succ]))
  apply seqL_eff
  (focus (simp only [List.getElem?_toArray, List.getElem?_cons_succ, List.getElem?_cons_zero]; rfl))
  (focus rfl)
  intro K hK
  go_simp
  refine (rotl_8 _ _).mono ?_
  rintro e w1 ⟨rfl, rfl⟩
  refine hK _ _ ⟨fun _ => rfl, ?_⟩
  clear hK K
  iterate 1 (first | (apply seqL_skip; (focus (simp only [List.getElem?_toArray, List.getElem?_cons_succ, List.getElem?_cons_zero]; rfl)); (focus rfl); simp only [Act.put, List.setIfInBounds_toArray, List.set_cons_zero, List.set_cons_succ]) | (apply seqL_take; (focus (simp only [List.getElem?_toArray, List.getElem?_cons_succ, List.getElem?_cons_zero]; rfl)); (focus rfl); (focus (intro w' hS; subst hS; first | (go_simp; rfl) | (go_simp; done))); simp only [Act.put, List.setIfInBounds_toArray, List.set_cons_zero, List.set_cons_succ]))
  apply seqL_eff
  (focus (simp only [List.getElem?_toArray, List.getElem?_cons_succ, List.getElem?_cons_zero]; rfl))
  (focus rfl)
  intro K hK
  go_simp
  refine hK _ _ ⟨fun h => absurd rfl h, ?_⟩
  clear hK K
  refine seqL_nil ?_
  have hM7 := (hM6.setD (rotF 16777216 256 (bits .xor .u32 d1 a2))).drew
  clear cA cB cC cD fX hM6
  generalize (W6.setCell ⟨g, i3, none⟩ (.int .u32 (rotF 16777216 256 (bits .xor .u32 d1 a2)))).drew = W7 at hM7 ⊢
  obtain ⟨d2, hd2⟩ : ∃ z, z = rotF 16777216 256 (bits .xor .u32 d1 a2) := ⟨_, rfl⟩
  rw [← hd2] at hM7 ⊢
  have Hd2 := Lib.hid hd2
  clear hd2
  go_wp2_with fail
  have cA := hM7.drew.ata
  have cB := hM7.drew.atb
  have cC := hM7.drew.atc
  have cD := hM7.drew.atd
  have fX := hM7.drew.blk.frozen i2
  refine wp_region_last [(true, 0), (true, 1), (true, 2), (true, 3), (true, 4), (true, 5), (true, 6), (true, 7), (false, 8)] 8 (fun w' => w' = W7.drew) (by kernel_rfl) (by kernel_rfl) (by kernel_rfl) (fun _ _ _ _ _ h => h) (by kernel_rfl) (by kernel_rfl) ?_ ?_
  · rfl
  iterate 8 (first | (apply seqL_skip; (focus (simp only [List.getElem?_toArray, List.getElem?_cons_succ, List.getElem?_cons_zero]; rfl)); (focus rfl); simp only [Act.put, List.setIfInBounds_toArray, List.set_cons_zero, List.set_cons_succ]) | (apply seqL_take; (focus (simp only [List.getElem?_toArray, List.getElem?_cons_succ, List.getElem?_cons_zero]; rfl)); (focus rfl); (focus (intro w' hS; subst hS; first | (go_simp; rfl) | (go_simp; done))); simp only [Act.put, List.setIfInBounds_toArray, List.set_cons_zero, List.set_cons_succ]))
  apply seqL_eff
  (focus (simp only [List.getElem?_toArray, List.getElem?_cons_succ, List.getElem?_cons_zero]; rfl))
  (focus rfl)
  intro K hK
  go_simp
  refine hK _ _ ⟨fun h => absurd rfl h, ?_⟩
  clear hK K
  refine seqL_nil ?_
  have hM8 := (hM7.setC (IntKind.u32.wrap (c1 + d2))).drew
  clear cA cB cC cD fX hM7
  generalize (W7.setCell ⟨g, i2, none⟩ (.int .u32 (IntKind.u32.wrap (c1 + d2)))).drew = W8 at hM8 ⊢
  obtain ⟨c2, hc2⟩ : ∃ z, z = IntKind.u32.wrap (c1 + d2) := ⟨_, rfl⟩
  rw [← hc2] at hM8 ⊢
  have Hc2 := Lib.hid hc2
  clear hc2
  go_wp2_with fail
  have cA := hM8.drew.ata
  have cB := hM8.drew.atb
  have cC := hM8.drew.atc
  have cD := hM8.drew.atd
  have fX := hM8.drew.blk.frozen i1
  refine wp_region_last [(true, 0), (true, 1), (true, 2), (true, 3), (true, 4), (true, 5), (true, 6), (true, 7), (false, 8), (true, 9), (false, 10)] 10 (fun w' => w' = W8.drew) (by kernel_rfl) (by kernel_rfl) (by kernel_rfl) (fun _ _ _ _ _ h => h) (by kernel_rfl) (by kernel_rfl) ?_ ?_
  · rfl
  iterate 8 (first | (apply seqL_skip; (focus (simp only [List.getElem?_toArray, List.getElem?_cons_succ, List.getElem?_cons_zero]; rfl)); (focus rfl); simp only [Act.put, List.setIfInBounds_toArray, List.set_cons_zero, List.set_cons_succ]) | (apply seqL_take; (focus (simp only [List.getElem?_toArray, List.getElem?_cons_succ, List.getElem?_cons_zero]; rfl)); (focus rfl); (focus (intro w' hS; subst hS; first | (go_simp; rfl) | (go_simp; done))); simp only [Act.put, List.setIfInBounds_toArray, List.set_cons_zero, List.set_cons_succ]))
  apply seqL_eff
  (focus (simp only [List.getElem?_toArray, List.getElem?_cons_succ, List.getElem?_cons_zero]; rfl))
  (focus rfl)
  intro K hK
  go_simp
  refine (rotl_7 _ _).mono ?_
  rintro e w1 ⟨rfl, rfl⟩
  refine hK _ _ ⟨fun _ => rfl, ?_⟩
  clear hK K
  iterate 1 (first | (apply seqL_skip; (focus (simp only [List.getElem?_toArray, List.getElem?_cons_succ, List.getElem?_cons_zero]; rfl)); (focus rfl); simp only [Act.put, List.setIfInBounds_toArray, List.set_cons_zero, List.set_cons_succ]) | (apply seqL_take; (focus (simp only [List.getElem?_toArray, List.getElem?_cons_succ, List.getElem?_cons_zero]; rfl)); (focus rfl); (focus (intro w' hS; subst hS; first | (go_simp; rfl) | (go_simp; done))); simp only [Act.put, List.setIfInBounds_toArray, List.set_cons_zero, List.set_cons_succ]))
  apply seqL_eff
  (focus (simp only [List.getElem?_toArray, List.getElem?_cons_succ, List.getElem?_cons_zero]; rfl))
  (focus rfl)
  intro K hK
  go_simp
  refine hK _ _ ⟨fun h => absurd rfl h, ?_⟩
  clear hK K
  refine seqL_nil ?_
  have hM9 := (hM8.setB (rotF 33554432 128 (bits .xor .u32 b1 c2))).drew
  clear cA cB cC cD fX hM8
  generalize (W8.setCell ⟨g, i1, none⟩ (.int .u32 (rotF 33554432 128 (bits .xor .u32 b1 c2)))).drew = W9 at hM9 ⊢
  obtain ⟨b2, hb2⟩ : ∃ z, z = rotF 33554432 128 (bits .xor .u32 b1 c2) := ⟨_, rfl⟩
  rw [← hb2] at hM9 ⊢
  have Hb2 := Lib.hid hb2
  clear hb2
  go_wp2_with fail
  go_end0
  have eb2 := Hb2.out
  subst eb2
  have ec2 := Hc2.out
  subst ec2
  have ed2 := Hd2.out
  subst ed2
  have ea2 := Ha2.out
  subst ea2
  have eb1 := Hb1.out
  subst eb1
  have ec1 := Hc1.out
  subst ec1
  have ed1 := Hd1.out
  subst ed1
  have ea1 := Ha1.out
  subst ea1
  exact ⟨rfl, hM9⟩
end Go.Proofs.Ytnobcehiahcfkaa
