import Derived.Test.YtgjfhgcjiglfkaaGreatDoorD5
import Derived.Great.Walk
import Derived.Maps.RangeWalk
set_option linter.unusedVariables false
set_option linter.unusedSimpArgs false
namespace Go.Proofs.YtgjfhgcjiglfkaaGreatDoor
set_option maxRecDepth 20000
open Go.RowKit
set_option maxHeartbeats 4000000 in
theorem places_loop {c0 c1 c2 c3 c4 c5 c6 c7 c8 c10 c12 c13 c14 c15 c17 c18 c19 c20 c21 c22 c23 c24 c25 c26 c27 c28 c29 c30 c31 c32 c33 c34 c35 c36 c37 c38 c39 c40 c41 c42 c43 c44 c45 c46 c47 c48 c49 c50 c51 c52 c53 c54 c55 c56 c57 c58 c59 c60 c61 c62 c63 c64 c65 c66 c67 c68 c69 c70 c71 c72 c73 c74 c75 c76 c77 c78 c79 c80 c81 c84 c85 c86 c87 c88 c89 c90 c91 c92 c93 c94 c95 c96 c97 c98 c99 c100 c101 c102 c103 c104 c105 c106 c107 c108 c109 c110 c111 c112 c113 c114 c115 c116 c117 c118 c119 c120 c121 : Value} (PP : Array Value) (hPP : ∀ (i : Nat), i < 8 → ∀ w : World, (Instr.index 369 (.agg PP) (.int .i64 (i : Int))).run Tryz.prog w = .ok (.agg (plcA i)) w) (vb mb lb : Nat) (L : List Nat) (M V : List Int) (w : World) (Q0 : Exit → Act → World → Prop) (hQ : ∀ (d : Tmp) (v : Value) (c : List PanicEntry) (a : Act) (w : World), Q0 (.panic c) { a with tmps := a.tmps.setIfInBounds d v } w → Q0 (.panic c) a w) (hM : Blk w mb 365 (eU M)) (hL : Blk w lb 370 (eB L)) (hV : Blk w vb 366 (eU V))
    (hMl : M.length = 16) (hLl : L.length = 16) (hVl : V.length = 16) (hLb : ∀ x ∈ L, x < 16) (hvm : vb ≠ mb) (hvl : vb ≠ lb)
    (hexit : ∀ (u17 u18 u83 u84 u85 u86 u87 u88 u89 u90 u91 u92 u93 u94 u95 u96 u97 u98 u99 u100 u101 u102 : Value) (w' : World), Blk w' vb 366 (eU (runV L M V 8)) → w.grownBy w' (some vb) → Q0 (.exit 6) ⟨(c0 :: c1 :: c2 :: c3 :: c4 :: c5 :: c6 :: c7 :: c8 :: .pointer (some ⟨vb, 0, none⟩) :: c10 :: .pointer (some ⟨mb, 0, none⟩) :: c12 :: c13 :: c14 :: c15 :: .pointer (some ⟨lb, 0, none⟩) :: u17 :: u18 :: c19 :: c20 :: c21 :: c22 :: c23 :: c24 :: c25 :: c26 :: c27 :: c28 :: c29 :: c30 :: c31 :: c32 :: c33 :: c34 :: c35 :: c36 :: c37 :: c38 :: c39 :: c40 :: c41 :: c42 :: c43 :: c44 :: c45 :: c46 :: c47 :: c48 :: c49 :: c50 :: c51 :: c52 :: c53 :: c54 :: c55 :: c56 :: c57 :: c58 :: c59 :: c60 :: c61 :: c62 :: c63 :: c64 :: c65 :: c66 :: c67 :: c68 :: c69 :: c70 :: c71 :: c72 :: c73 :: c74 :: c75 :: c76 :: c77 :: c78 :: c79 :: c80 :: c81 :: .agg PP :: u83 :: u84 :: u85 :: u86 :: u87 :: u88 :: u89 :: u90 :: u91 :: u92 :: u93 :: u94 :: u95 :: u96 :: u97 :: u98 :: u99 :: u100 :: u101 :: u102 :: c103 :: c104 :: c105 :: c106 :: c107 :: c108 :: c109 :: c110 :: c111 :: c112 :: c113 :: c114 :: c115 :: c116 :: c117 :: c118 :: c119 :: c120 :: c121 :: []).toArray, []⟩ w') :
    Code.wp Tryz.prog (blkLoop 3) Q0 ⟨(c0 :: c1 :: c2 :: c3 :: c4 :: c5 :: c6 :: c7 :: c8 :: .pointer (some ⟨vb, 0, none⟩) :: c10 :: .pointer (some ⟨mb, 0, none⟩) :: c12 :: c13 :: c14 :: c15 :: .pointer (some ⟨lb, 0, none⟩) :: c17 :: c18 :: c19 :: c20 :: c21 :: c22 :: c23 :: c24 :: c25 :: c26 :: c27 :: c28 :: c29 :: c30 :: c31 :: c32 :: c33 :: c34 :: c35 :: c36 :: c37 :: c38 :: c39 :: c40 :: c41 :: c42 :: c43 :: c44 :: c45 :: c46 :: c47 :: c48 :: c49 :: c50 :: c51 :: c52 :: c53 :: c54 :: c55 :: c56 :: c57 :: c58 :: c59 :: c60 :: c61 :: c62 :: c63 :: c64 :: c65 :: c66 :: c67 :: c68 :: c69 :: c70 :: c71 :: c72 :: c73 :: c74 :: c75 :: c76 :: c77 :: c78 :: c79 :: c80 :: c81 :: .agg PP :: .int .i64 0 :: c84 :: c85 :: c86 :: c87 :: c88 :: c89 :: c90 :: c91 :: c92 :: c93 :: c94 :: c95 :: c96 :: c97 :: c98 :: c99 :: c100 :: c101 :: c102 :: c103 :: c104 :: c105 :: c106 :: c107 :: c108 :: c109 :: c110 :: c111 :: c112 :: c113 :: c114 :: c115 :: c116 :: c117 :: c118 :: c119 :: c120 :: c121 :: []).toArray, []⟩ w := by
  have HQ := Lib.hid hQ
  clear hQ
  have HP := Lib.hid hPP
  clear hPP
  have HM := Lib.hid hMl
  have HL := Lib.hid hLl
  have HV := Lib.hid hVl
  have HB := Lib.hid hLb
  clear hMl hLl hVl hLb
  conv => arg 2; whnf
  go_loopw [83] (fun iv wr => ∃ i : Nat, iv = .int .i64 (i : Int) ∧ i ≤ 8 ∧ Blk wr vb 366 (eU (runV L M V i)) ∧ w.grownBy wr (some vb)) (fun iv _ => 8 - (intOf iv).toNat)
  case atStart => exact ⟨0, rfl, by omega, hV, World.grownBy.refl w _⟩
  case round =>
    obtain ⟨i, rfl, hi, hVr, hgr⟩ := hrel
    by_cases hlt : i < 8
    · have hMr := hM.kept hgr (by intro e; injection e with e; exact hvm e.symm)
      have hLr := hL.kept hgr (by intro e; injection e with e; exact hvl e.symm)
      have HS := Lib.hid (runV_succ L M V i)
      have HRL : Hid ((runV L M V i).length = 16) := (runV_len L M V i).trans HV.out
      have HX := Lib.hid hexit
      clear hM hL hV hexit
      generalize runV L M V i = R at hVr HS HRL
      have hcases : i = 0 ∨ i = 1 ∨ i = 2 ∨ i = 3 ∨ i = 4 ∨ i = 5 ∨ i = 6 ∨ i = 7 := by omega
      rcases hcases with rfl | rfl | rfl | rfl | rfl | rfl | rfl | rfl
      · have m0 := hLr.cell 0
        have m1 := hLr.cell 1
        rw [eB_at L (by have := HL.out; omega)] at m0 m1
        have b0 := getD_lt HB.out 0
        have b1 := getD_lt HB.out 1
        have n0 := hMr.cell (L.getD 0 0)
        have n1 := hMr.cell (L.getD 1 0)
        rw [eU_at M (by have := HM.out; omega)] at n0 n1
        have HST : Hid (runV L M V (0 + 1) = mixV R (0, 4, 8, 12) (M.getD (L.getD 0 0) 0) (M.getD (L.getD 1 0) 0)) := HS.out
        clear HS
        generalize M.getD (L.getD 0 0) 0 = x at n0 n1 HST
        generalize M.getD (L.getD 1 0) 0 = y at n0 n1 HST
        generalize L.getD 0 0 = q0 at *
        generalize L.getD 1 0 = q1 at *
        have z0 : (q0 : Int) < 16 := by omega
        have z1 : (q1 : Int) < 16 := by omega
        clear hLr hMr b0 b1 hi hlt
        have hix : ∀ w0 : World, (Instr.index 369 (.agg PP) (.int .i64 0)).run Tryz.prog w0 = .ok (.agg #[.int .i64 0, .int .i64 4, .int .i64 8, .int .i64 12]) w0 := HP.out 0 (by decide)
        go_wp2_with fail
        have hX := Blk.new wr 368 #[.int .i64 0, .int .i64 4, .int .i64 8, .int .i64 12]
        have hVa := hVr.alloc (.cells #[.int .i64 0, .int .i64 4, .int .i64 8, .int .i64 12] 368)
        have hga := hgr.andThen (World.grownBy_alloc wr (.cells #[.int .i64 0, .int .i64 4, .int .i64 8, .int .i64 12] 368) none) (fun _ e => by cases e)
        have hbl : Below wr.heap.size wr (wr.alloc (.cells #[.int .i64 0, .int .i64 4, .int .i64 8, .int .i64 12] 368)) := (Below.refl _ _).alloc (Nat.le_refl _) _
        have hlb := block_lt_of_cell m0
        have hmb := block_lt_of_cell n0
        replace m0 := (hbl.drew.cell (p := ⟨lb, 0, none⟩) hlb).trans m0
        replace m1 := (hbl.drew.cell (p := ⟨lb, 1, none⟩) hlb).trans m1
        replace n0 := (hbl.drew.cell (p := ⟨mb, q0, none⟩) hmb).trans n0
        replace n1 := (hbl.drew.cell (p := ⟨mb, q1, none⟩) hmb).trans n1
        have e0 := hX.drew.cell 0
        have e1 := hX.drew.cell 1
        have e2 := hX.drew.cell 2
        have e3 := hX.drew.cell 3
        clear hX hVr hgr hbl hlb hmb
        obtain ⟨nb, hnb⟩ : ∃ nb, nb = wr.heap.size := ⟨_, rfl⟩
        rw [← hnb] at e0 e1 e2 e3 ⊢
        clear hnb
        generalize wr.alloc (.cells #[.int .i64 0, .int .i64 4, .int .i64 8, .int .i64 12] 368) = Wa at *
        have hw0 : IntKind.i64.wrap 0 = 0 := by decide +kernel
        have hw1 : IntKind.i64.wrap 1 = 1 := by decide +kernel
        refine wp_region_last [(true, 0), (true, 1), (true, 2), (true, 3), (true, 4), (true, 5), (true, 6), (true, 7), (true, 8), (true, 9), (true, 10), (true, 11), (true, 12), (true, 13), (false, 14)] 14 (fun w' => w' = Wa.drew) (by kernel_rfl) (by kernel_rfl) (by kernel_rfl) (fun d v c a w h => HQ.out d v c a w h) (by kernel_rfl) (by kernel_rfl) ?_ ?_
        · rfl
        iterate 14 (first | (apply seqL_skip; (focus (simp only [List.getElem?_toArray, List.getElem?_cons_succ, List.getElem?_cons_zero]; rfl)); (focus rfl); simp only [Act.put, List.setIfInBounds_toArray, List.set_cons_zero, List.set_cons_succ]) | (apply seqL_take; (focus (simp only [List.getElem?_toArray, List.getElem?_cons_succ, List.getElem?_cons_zero]; rfl)); (focus rfl); (focus (intro w' hS; subst hS; first | (go_simp; rfl) | (go_simp; done))); simp only [Act.put, List.setIfInBounds_toArray, List.set_cons_zero, List.set_cons_succ]))
        apply seqL_eff
        (focus (simp only [List.getElem?_toArray, List.getElem?_cons_succ, List.getElem?_cons_zero]; rfl))
        (focus rfl)
        intro K hK
        go_simp
        refine (mix_any vb 0 4 8 12 (eU R) (R.getD 0 0) (R.getD 4 0) (R.getD 8 0) (R.getD 12 0) x y Wa.drew (by rw [eU_size, HRL.out]; constructor <;> decide) ((eU_size R).trans HRL.out) hVa.drew (eU_at R (by rw [HRL.out]; decide)) (eU_at R (by rw [HRL.out]; decide)) (eU_at R (by rw [HRL.out]; decide)) (eU_at R (by rw [HRL.out]; decide))).mono ?_
        rintro e w2 ⟨rfl, hmx⟩
        have hB2 := hmx.blk
        have hE := HST.out
        rw [← eU_mix R (0, 4, 8, 12) x y, ← hE] at hB2
        have hg2 := World.grownBy.andThen (⟨hga.os, hga.tape, hga.output, hga.size, hga.block⟩ : w.grownBy Wa.drew (some vb)) hmx.gr (fun j hj => .inr hj)
        refine hK _ _ ⟨fun h => absurd rfl h, ?_⟩
        clear hK K
        refine seqL_nil ?_
        clear hw0 hw1 hE HST hmx hga hVa e0 e1 e2 e3 m0 m1 n0 n1
        go_wp2_with fail
        go_roundw
        case rel => exact ⟨0 + 1, by go_num, by omega, hB2, hg2⟩
        case measure => simp [intOf]
      · have m0 := hLr.cell 2
        have m1 := hLr.cell 3
        rw [eB_at L (by have := HL.out; omega)] at m0 m1
        have b0 := getD_lt HB.out 2
        have b1 := getD_lt HB.out 3
        have n0 := hMr.cell (L.getD 2 0)
        have n1 := hMr.cell (L.getD 3 0)
        rw [eU_at M (by have := HM.out; omega)] at n0 n1
        have HST : Hid (runV L M V (1 + 1) = mixV R (1, 5, 9, 13) (M.getD (L.getD 2 0) 0) (M.getD (L.getD 3 0) 0)) := HS.out
        clear HS
        generalize M.getD (L.getD 2 0) 0 = x at n0 n1 HST
        generalize M.getD (L.getD 3 0) 0 = y at n0 n1 HST
        generalize L.getD 2 0 = q0 at *
        generalize L.getD 3 0 = q1 at *
        have z0 : (q0 : Int) < 16 := by omega
        have z1 : (q1 : Int) < 16 := by omega
        clear hLr hMr b0 b1 hi hlt
        have hix : ∀ w0 : World, (Instr.index 369 (.agg PP) (.int .i64 1)).run Tryz.prog w0 = .ok (.agg #[.int .i64 1, .int .i64 5, .int .i64 9, .int .i64 13]) w0 := HP.out 1 (by decide)
        go_wp2_with fail
        have hX := Blk.new wr 368 #[.int .i64 1, .int .i64 5, .int .i64 9, .int .i64 13]
        have hVa := hVr.alloc (.cells #[.int .i64 1, .int .i64 5, .int .i64 9, .int .i64 13] 368)
        have hga := hgr.andThen (World.grownBy_alloc wr (.cells #[.int .i64 1, .int .i64 5, .int .i64 9, .int .i64 13] 368) none) (fun _ e => by cases e)
        have hbl : Below wr.heap.size wr (wr.alloc (.cells #[.int .i64 1, .int .i64 5, .int .i64 9, .int .i64 13] 368)) := (Below.refl _ _).alloc (Nat.le_refl _) _
        have hlb := block_lt_of_cell m0
        have hmb := block_lt_of_cell n0
        replace m0 := (hbl.drew.cell (p := ⟨lb, 2, none⟩) hlb).trans m0
        replace m1 := (hbl.drew.cell (p := ⟨lb, 3, none⟩) hlb).trans m1
        replace n0 := (hbl.drew.cell (p := ⟨mb, q0, none⟩) hmb).trans n0
        replace n1 := (hbl.drew.cell (p := ⟨mb, q1, none⟩) hmb).trans n1
        have e0 := hX.drew.cell 0
        have e1 := hX.drew.cell 1
        have e2 := hX.drew.cell 2
        have e3 := hX.drew.cell 3
        clear hX hVr hgr hbl hlb hmb
        obtain ⟨nb, hnb⟩ : ∃ nb, nb = wr.heap.size := ⟨_, rfl⟩
        rw [← hnb] at e0 e1 e2 e3 ⊢
        clear hnb
        generalize wr.alloc (.cells #[.int .i64 1, .int .i64 5, .int .i64 9, .int .i64 13] 368) = Wa at *
        have hw0 : IntKind.i64.wrap 2 = 2 := by decide +kernel
        have hw1 : IntKind.i64.wrap 3 = 3 := by decide +kernel
        refine wp_region_last [(true, 0), (true, 1), (true, 2), (true, 3), (true, 4), (true, 5), (true, 6), (true, 7), (true, 8), (true, 9), (true, 10), (true, 11), (true, 12), (true, 13), (false, 14)] 14 (fun w' => w' = Wa.drew) (by kernel_rfl) (by kernel_rfl) (by kernel_rfl) (fun d v c a w h => HQ.out d v c a w h) (by kernel_rfl) (by kernel_rfl) ?_ ?_
        · rfl
        iterate 14 (first | (apply seqL_skip; (focus (simp only [List.getElem?_toArray, List.getElem?_cons_succ, List.getElem?_cons_zero]; rfl)); (focus rfl); simp only [Act.put, List.setIfInBounds_toArray, List.set_cons_zero, List.set_cons_succ]) | (apply seqL_take; (focus (simp only [List.getElem?_toArray, List.getElem?_cons_succ, List.getElem?_cons_zero]; rfl)); (focus rfl); (focus (intro w' hS; subst hS; first | (go_simp; rfl) | (go_simp; done))); simp only [Act.put, List.setIfInBounds_toArray, List.set_cons_zero, List.set_cons_succ]))
        apply seqL_eff
        (focus (simp only [List.getElem?_toArray, List.getElem?_cons_succ, List.getElem?_cons_zero]; rfl))
        (focus rfl)
        intro K hK
        go_simp
        refine (mix_any vb 1 5 9 13 (eU R) (R.getD 1 0) (R.getD 5 0) (R.getD 9 0) (R.getD 13 0) x y Wa.drew (by rw [eU_size, HRL.out]; constructor <;> decide) ((eU_size R).trans HRL.out) hVa.drew (eU_at R (by rw [HRL.out]; decide)) (eU_at R (by rw [HRL.out]; decide)) (eU_at R (by rw [HRL.out]; decide)) (eU_at R (by rw [HRL.out]; decide))).mono ?_
        rintro e w2 ⟨rfl, hmx⟩
        have hB2 := hmx.blk
        have hE := HST.out
        rw [← eU_mix R (1, 5, 9, 13) x y, ← hE] at hB2
        have hg2 := World.grownBy.andThen (⟨hga.os, hga.tape, hga.output, hga.size, hga.block⟩ : w.grownBy Wa.drew (some vb)) hmx.gr (fun j hj => .inr hj)
        refine hK _ _ ⟨fun h => absurd rfl h, ?_⟩
        clear hK K
        refine seqL_nil ?_
        clear hw0 hw1 hE HST hmx hga hVa e0 e1 e2 e3 m0 m1 n0 n1
        go_wp2_with fail
        go_roundw
        case rel => exact ⟨1 + 1, by go_num, by omega, hB2, hg2⟩
        case measure => simp [intOf]
      · have m0 := hLr.cell 4
        have m1 := hLr.cell 5
        rw [eB_at L (by have := HL.out; omega)] at m0 m1
        have b0 := getD_lt HB.out 4
        have b1 := getD_lt HB.out 5
        have n0 := hMr.cell (L.getD 4 0)
        have n1 := hMr.cell (L.getD 5 0)
        rw [eU_at M (by have := HM.out; omega)] at n0 n1
        have HST : Hid (runV L M V (2 + 1) = mixV R (2, 6, 10, 14) (M.getD (L.getD 4 0) 0) (M.getD (L.getD 5 0) 0)) := HS.out
        clear HS
        generalize M.getD (L.getD 4 0) 0 = x at n0 n1 HST
        generalize M.getD (L.getD 5 0) 0 = y at n0 n1 HST
        generalize L.getD 4 0 = q0 at *
        generalize L.getD 5 0 = q1 at *
        have z0 : (q0 : Int) < 16 := by omega
        have z1 : (q1 : Int) < 16 := by omega
        clear hLr hMr b0 b1 hi hlt
        have hix : ∀ w0 : World, (Instr.index 369 (.agg PP) (.int .i64 2)).run Tryz.prog w0 = .ok (.agg #[.int .i64 2, .int .i64 6, .int .i64 10, .int .i64 14]) w0 := HP.out 2 (by decide)
        go_wp2_with fail
        have hX := Blk.new wr 368 #[.int .i64 2, .int .i64 6, .int .i64 10, .int .i64 14]
        have hVa := hVr.alloc (.cells #[.int .i64 2, .int .i64 6, .int .i64 10, .int .i64 14] 368)
        have hga := hgr.andThen (World.grownBy_alloc wr (.cells #[.int .i64 2, .int .i64 6, .int .i64 10, .int .i64 14] 368) none) (fun _ e => by cases e)
        have hbl : Below wr.heap.size wr (wr.alloc (.cells #[.int .i64 2, .int .i64 6, .int .i64 10, .int .i64 14] 368)) := (Below.refl _ _).alloc (Nat.le_refl _) _
        have hlb := block_lt_of_cell m0
        have hmb := block_lt_of_cell n0
        replace m0 := (hbl.drew.cell (p := ⟨lb, 4, none⟩) hlb).trans m0
        replace m1 := (hbl.drew.cell (p := ⟨lb, 5, none⟩) hlb).trans m1
        replace n0 := (hbl.drew.cell (p := ⟨mb, q0, none⟩) hmb).trans n0
        replace n1 := (hbl.drew.cell (p := ⟨mb, q1, none⟩) hmb).trans n1
        have e0 := hX.drew.cell 0
        have e1 := hX.drew.cell 1
        have e2 := hX.drew.cell 2
        have e3 := hX.drew.cell 3
        clear hX hVr hgr hbl hlb hmb
        obtain ⟨nb, hnb⟩ : ∃ nb, nb = wr.heap.size := ⟨_, rfl⟩
        rw [← hnb] at e0 e1 e2 e3 ⊢
        clear hnb
        generalize wr.alloc (.cells #[.int .i64 2, .int .i64 6, .int .i64 10, .int .i64 14] 368) = Wa at *
        have hw0 : IntKind.i64.wrap 4 = 4 := by decide +kernel
        have hw1 : IntKind.i64.wrap 5 = 5 := by decide +kernel
        refine wp_region_last [(true, 0), (true, 1), (true, 2), (true, 3), (true, 4), (true, 5), (true, 6), (true, 7), (true, 8), (true, 9), (true, 10), (true, 11), (true, 12), (true, 13), (false, 14)] 14 (fun w' => w' = Wa.drew) (by kernel_rfl) (by kernel_rfl) (by kernel_rfl) (fun d v c a w h => HQ.out d v c a w h) (by kernel_rfl) (by kernel_rfl) ?_ ?_
        · rfl
        iterate 14 (first | (apply seqL_skip; (focus (simp only [List.getElem?_toArray, List.getElem?_cons_succ, List.getElem?_cons_zero]; rfl)); (focus rfl); simp only [Act.put, List.setIfInBounds_toArray, List.set_cons_zero, List.set_cons_succ]) | (apply seqL_take; (focus (simp only [List.getElem?_toArray, List.getElem?_cons_succ, List.getElem?_cons_zero]; rfl)); (focus rfl); (focus (intro w' hS; subst hS; first | (go_simp; rfl) | (go_simp; done))); simp only [Act.put, List.setIfInBounds_toArray, List.set_cons_zero, List.set_cons_succ]))
        apply seqL_eff
        (focus (simp only [List.getElem?_toArray, List.getElem?_cons_succ, List.getElem?_cons_zero]; rfl))
        (focus rfl)
        intro K hK
        go_simp
        refine (mix_any vb 2 6 10 14 (eU R) (R.getD 2 0) (R.getD 6 0) (R.getD 10 0) (R.getD 14 0) x y Wa.drew (by rw [eU_size, HRL.out]; constructor <;> decide) ((eU_size R).trans HRL.out) hVa.drew (eU_at R (by rw [HRL.out]; decide)) (eU_at R (by rw [HRL.out]; decide)) (eU_at R (by rw [HRL.out]; decide)) (eU_at R (by rw [HRL.out]; decide))).mono ?_
        rintro e w2 ⟨rfl, hmx⟩
        have hB2 := hmx.blk
        have hE := HST.out
        rw [← eU_mix R (2, 6, 10, 14) x y, ← hE] at hB2
        have hg2 := World.grownBy.andThen (⟨hga.os, hga.tape, hga.output, hga.size, hga.block⟩ : w.grownBy Wa.drew (some vb)) hmx.gr (fun j hj => .inr hj)
        refine hK _ _ ⟨fun h => absurd rfl h, ?_⟩
        clear hK K
        refine seqL_nil ?_
        clear hw0 hw1 hE HST hmx hga hVa e0 e1 e2 e3 m0 m1 n0 n1
        go_wp2_with fail
        go_roundw
        case rel => exact ⟨2 + 1, by go_num, by omega, hB2, hg2⟩
        case measure => simp [intOf]
      · have m0 := hLr.cell 6
        have m1 := hLr.cell 7
        rw [eB_at L (by have := HL.out; omega)] at m0 m1
        have b0 := getD_lt HB.out 6
        have b1 := getD_lt HB.out 7
        have n0 := hMr.cell (L.getD 6 0)
        have n1 := hMr.cell (L.getD 7 0)
        rw [eU_at M (by have := HM.out; omega)] at n0 n1
        have HST : Hid (runV L M V (3 + 1) = mixV R (3, 7, 11, 15) (M.getD (L.getD 6 0) 0) (M.getD (L.getD 7 0) 0)) := HS.out
        clear HS
        generalize M.getD (L.getD 6 0) 0 = x at n0 n1 HST
        generalize M.getD (L.getD 7 0) 0 = y at n0 n1 HST
        generalize L.getD 6 0 = q0 at *
        generalize L.getD 7 0 = q1 at *
        have z0 : (q0 : Int) < 16 := by omega
        have z1 : (q1 : Int) < 16 := by omega
        clear hLr hMr b0 b1 hi hlt
        have hix : ∀ w0 : World, (Instr.index 369 (.agg PP) (.int .i64 3)).run Tryz.prog w0 = .ok (.agg #[.int .i64 3, .int .i64 7, .int .i64 11, .int .i64 15]) w0 := HP.out 3 (by decide)
        go_wp2_with fail
        have hX := Blk.new wr 368 #[.int .i64 3, .int .i64 7, .int .i64 11, .int .i64 15]
        have hVa := hVr.alloc (.cells #[.int .i64 3, .int .i64 7, .int .i64 11, .int .i64 15] 368)
        have hga := hgr.andThen (World.grownBy_alloc wr (.cells #[.int .i64 3, .int .i64 7, .int .i64 11, .int .i64 15] 368) none) (fun _ e => by cases e)
        have hbl : Below wr.heap.size wr (wr.alloc (.cells #[.int .i64 3, .int .i64 7, .int .i64 11, .int .i64 15] 368)) := (Below.refl _ _).alloc (Nat.le_refl _) _
        have hlb := block_lt_of_cell m0
        have hmb := block_lt_of_cell n0
        replace m0 := (hbl.drew.cell (p := ⟨lb, 6, none⟩) hlb).trans m0
        replace m1 := (hbl.drew.cell (p := ⟨lb, 7, none⟩) hlb).trans m1
        replace n0 := (hbl.drew.cell (p := ⟨mb, q0, none⟩) hmb).trans n0
        replace n1 := (hbl.drew.cell (p := ⟨mb, q1, none⟩) hmb).trans n1
        have e0 := hX.drew.cell 0
        have e1 := hX.drew.cell 1
        have e2 := hX.drew.cell 2
        have e3 := hX.drew.cell 3
        clear hX hVr hgr hbl hlb hmb
        obtain ⟨nb, hnb⟩ : ∃ nb, nb = wr.heap.size := ⟨_, rfl⟩
        rw [← hnb] at e0 e1 e2 e3 ⊢
        clear hnb
        generalize wr.alloc (.cells #[.int .i64 3, .int .i64 7, .int .i64 11, .int .i64 15] 368) = Wa at *
        have hw0 : IntKind.i64.wrap 6 = 6 := by decide +kernel
        have hw1 : IntKind.i64.wrap 7 = 7 := by decide +kernel
        refine wp_region_last [(true, 0), (true, 1), (true, 2), (true, 3), (true, 4), (true, 5), (true, 6), (true, 7), (true, 8), (true, 9), (true, 10), (true, 11), (true, 12), (true, 13), (false, 14)] 14 (fun w' => w' = Wa.drew) (by kernel_rfl) (by kernel_rfl) (by kernel_rfl) (fun d v c a w h => HQ.out d v c a w h) (by kernel_rfl) (by kernel_rfl) ?_ ?_
        · rfl
        iterate 14 (first | (apply seqL_skip; (focus (simp only [List.getElem?_toArray, List.getElem?_cons_succ, List.getElem?_cons_zero]; rfl)); (focus rfl); simp only [Act.put, List.setIfInBounds_toArray, List.set_cons_zero, List.set_cons_succ]) | (apply seqL_take; (focus (simp only [List.getElem?_toArray, List.getElem?_cons_succ, List.getElem?_cons_zero]; rfl)); (focus rfl); (focus (intro w' hS; subst hS; first | (go_simp; rfl) | (go_simp; done))); simp only [Act.put, List.setIfInBounds_toArray, List.set_cons_zero, List.set_cons_succ]))
        apply seqL_eff
        (focus (simp only [List.getElem?_toArray, List.getElem?_cons_succ, List.getElem?_cons_zero]; rfl))
        (focus rfl)
        intro K hK
        go_simp
        refine (mix_any vb 3 7 11 15 (eU R) (R.getD 3 0) (R.getD 7 0) (R.getD 11 0) (R.getD 15 0) x y Wa.drew (by rw [eU_size, HRL.out]; constructor <;> decide) ((eU_size R).trans HRL.out) hVa.drew (eU_at R (by rw [HRL.out]; decide)) (eU_at R (by rw [HRL.out]; decide)) (eU_at R (by rw [HRL.out]; decide)) (eU_at R (by rw [HRL.out]; decide))).mono ?_
        rintro e w2 ⟨rfl, hmx⟩
        have hB2 := hmx.blk
        have hE := HST.out
        rw [← eU_mix R (3, 7, 11, 15) x y, ← hE] at hB2
        have hg2 := World.grownBy.andThen (⟨hga.os, hga.tape, hga.output, hga.size, hga.block⟩ : w.grownBy Wa.drew (some vb)) hmx.gr (fun j hj => .inr hj)
        refine hK _ _ ⟨fun h => absurd rfl h, ?_⟩
        clear hK K
        refine seqL_nil ?_
        clear hw0 hw1 hE HST hmx hga hVa e0 e1 e2 e3 m0 m1 n0 n1
        go_wp2_with fail
        go_roundw
        case rel => exact ⟨3 + 1, by go_num, by omega, hB2, hg2⟩
        case measure => simp [intOf]
      · have m0 := hLr.cell 8
        have m1 := hLr.cell 9
        rw [eB_at L (by have := HL.out; omega)] at m0 m1
        have b0 := getD_lt HB.out 8
        have b1 := getD_lt HB.out 9
        have n0 := hMr.cell (L.getD 8 0)
        have n1 := hMr.cell (L.getD 9 0)
        rw [eU_at M (by have := HM.out; omega)] at n0 n1
        have HST : Hid (runV L M V (4 + 1) = mixV R (0, 5, 10, 15) (M.getD (L.getD 8 0) 0) (M.getD (L.getD 9 0) 0)) := HS.out
        clear HS
        generalize M.getD (L.getD 8 0) 0 = x at n0 n1 HST
        generalize M.getD (L.getD 9 0) 0 = y at n0 n1 HST
        generalize L.getD 8 0 = q0 at *
        generalize L.getD 9 0 = q1 at *
        have z0 : (q0 : Int) < 16 := by omega
        have z1 : (q1 : Int) < 16 := by omega
        clear hLr hMr b0 b1 hi hlt
        have hix : ∀ w0 : World, (Instr.index 369 (.agg PP) (.int .i64 4)).run Tryz.prog w0 = .ok (.agg #[.int .i64 0, .int .i64 5, .int .i64 10, .int .i64 15]) w0 := HP.out 4 (by decide)
        go_wp2_with fail
        have hX := Blk.new wr 368 #[.int .i64 0, .int .i64 5, .int .i64 10, .int .i64 15]
        have hVa := hVr.alloc (.cells #[.int .i64 0, .int .i64 5, .int .i64 10, .int .i64 15] 368)
        have hga := hgr.andThen (World.grownBy_alloc wr (.cells #[.int .i64 0, .int .i64 5, .int .i64 10, .int .i64 15] 368) none) (fun _ e => by cases e)
        have hbl : Below wr.heap.size wr (wr.alloc (.cells #[.int .i64 0, .int .i64 5, .int .i64 10, .int .i64 15] 368)) := (Below.refl _ _).alloc (Nat.le_refl _) _
        have hlb := block_lt_of_cell m0
        have hmb := block_lt_of_cell n0
        replace m0 := (hbl.drew.cell (p := ⟨lb, 8, none⟩) hlb).trans m0
        replace m1 := (hbl.drew.cell (p := ⟨lb, 9, none⟩) hlb).trans m1
        replace n0 := (hbl.drew.cell (p := ⟨mb, q0, none⟩) hmb).trans n0
        replace n1 := (hbl.drew.cell (p := ⟨mb, q1, none⟩) hmb).trans n1
        have e0 := hX.drew.cell 0
        have e1 := hX.drew.cell 1
        have e2 := hX.drew.cell 2
        have e3 := hX.drew.cell 3
        clear hX hVr hgr hbl hlb hmb
        obtain ⟨nb, hnb⟩ : ∃ nb, nb = wr.heap.size := ⟨_, rfl⟩
        rw [← hnb] at e0 e1 e2 e3 ⊢
        clear hnb
        generalize wr.alloc (.cells #[.int .i64 0, .int .i64 5, .int .i64 10, .int .i64 15] 368) = Wa at *
        have hw0 : IntKind.i64.wrap 8 = 8 := by decide +kernel
        have hw1 : IntKind.i64.wrap 9 = 9 := by decide +kernel
        refine wp_region_last [(true, 0), (true, 1), (true, 2), (true, 3), (true, 4), (true, 5), (true, 6), (true, 7), (true, 8), (true, 9), (true, 10), (true, 11), (true, 12), (true, 13), (false, 14)] 14 (fun w' => w' = Wa.drew) (by kernel_rfl) (by kernel_rfl) (by kernel_rfl) (fun d v c a w h => HQ.out d v c a w h) (by kernel_rfl) (by kernel_rfl) ?_ ?_
        · rfl
        iterate 14 (first | (apply seqL_skip; (focus (simp only [List.getElem?_toArray, List.getElem?_cons_succ, List.getElem?_cons_zero]; rfl)); (focus rfl); simp only [Act.put, List.setIfInBounds_toArray, List.set_cons_zero, List.set_cons_succ]) | (apply seqL_take; (focus (simp only [List.getElem?_toArray, List.getElem?_cons_succ, List.getElem?_cons_zero]; rfl)); (focus rfl); (focus (intro w' hS; subst hS; first | (go_simp; rfl) | (go_simp; done))); simp only [Act.put, List.setIfInBounds_toArray, List.set_cons_zero, List.set_cons_succ]))
        apply seqL_eff
        (focus (simp only [List.getElem?_toArray, List.getElem?_cons_succ, List.getElem?_cons_zero]; rfl))
        (focus rfl)
        intro K hK
        go_simp
        refine (mix_any vb 0 5 10 15 (eU R) (R.getD 0 0) (R.getD 5 0) (R.getD 10 0) (R.getD 15 0) x y Wa.drew (by rw [eU_size, HRL.out]; constructor <;> decide) ((eU_size R).trans HRL.out) hVa.drew (eU_at R (by rw [HRL.out]; decide)) (eU_at R (by rw [HRL.out]; decide)) (eU_at R (by rw [HRL.out]; decide)) (eU_at R (by rw [HRL.out]; decide))).mono ?_
        rintro e w2 ⟨rfl, hmx⟩
        have hB2 := hmx.blk
        have hE := HST.out
        rw [← eU_mix R (0, 5, 10, 15) x y, ← hE] at hB2
        have hg2 := World.grownBy.andThen (⟨hga.os, hga.tape, hga.output, hga.size, hga.block⟩ : w.grownBy Wa.drew (some vb)) hmx.gr (fun j hj => .inr hj)
        refine hK _ _ ⟨fun h => absurd rfl h, ?_⟩
        clear hK K
        refine seqL_nil ?_
        clear hw0 hw1 hE HST hmx hga hVa e0 e1 e2 e3 m0 m1 n0 n1
        go_wp2_with fail
        go_roundw
        case rel => exact ⟨4 + 1, by go_num, by omega, hB2, hg2⟩
        case measure => simp [intOf]
      · have m0 := hLr.cell 10
        have m1 := hLr.cell 11
        rw [eB_at L (by have := HL.out; omega)] at m0 m1
        have b0 := getD_lt HB.out 10
        have b1 := getD_lt HB.out 11
        have n0 := hMr.cell (L.getD 10 0)
        have n1 := hMr.cell (L.getD 11 0)
        rw [eU_at M (by have := HM.out; omega)] at n0 n1
        have HST : Hid (runV L M V (5 + 1) = mixV R (1, 6, 11, 12) (M.getD (L.getD 10 0) 0) (M.getD (L.getD 11 0) 0)) := HS.out
        clear HS
        generalize M.getD (L.getD 10 0) 0 = x at n0 n1 HST
        generalize M.getD (L.getD 11 0) 0 = y at n0 n1 HST
        generalize L.getD 10 0 = q0 at *
        generalize L.getD 11 0 = q1 at *
        have z0 : (q0 : Int) < 16 := by omega
        have z1 : (q1 : Int) < 16 := by omega
        clear hLr hMr b0 b1 hi hlt
        have hix : ∀ w0 : World, (Instr.index 369 (.agg PP) (.int .i64 5)).run Tryz.prog w0 = .ok (.agg #[.int .i64 1, .int .i64 6, .int .i64 11, .int .i64 12]) w0 := HP.out 5 (by decide)
        go_wp2_with fail
        have hX := Blk.new wr 368 #[.int .i64 1, .int .i64 6, .int .i64 11, .int .i64 12]
        have hVa := hVr.alloc (.cells #[.int .i64 1, .int .i64 6, .int .i64 11, .int .i64 12] 368)
        have hga := hgr.andThen (World.grownBy_alloc wr (.cells #[.int .i64 1, .int .i64 6, .int .i64 11, .int .i64 12] 368) none) (fun _ e => by cases e)
        have hbl : Below wr.heap.size wr (wr.alloc (.cells #[.int .i64 1, .int .i64 6, .int .i64 11, .int .i64 12] 368)) := (Below.refl _ _).alloc (Nat.le_refl _) _
        have hlb := block_lt_of_cell m0
        have hmb := block_lt_of_cell n0
        replace m0 := (hbl.drew.cell (p := ⟨lb, 10, none⟩) hlb).trans m0
        replace m1 := (hbl.drew.cell (p := ⟨lb, 11, none⟩) hlb).trans m1
        replace n0 := (hbl.drew.cell (p := ⟨mb, q0, none⟩) hmb).trans n0
        replace n1 := (hbl.drew.cell (p := ⟨mb, q1, none⟩) hmb).trans n1
        have e0 := hX.drew.cell 0
        have e1 := hX.drew.cell 1
        have e2 := hX.drew.cell 2
        have e3 := hX.drew.cell 3
        clear hX hVr hgr hbl hlb hmb
        obtain ⟨nb, hnb⟩ : ∃ nb, nb = wr.heap.size := ⟨_, rfl⟩
        rw [← hnb] at e0 e1 e2 e3 ⊢
        clear hnb
        generalize wr.alloc (.cells #[.int .i64 1, .int .i64 6, .int .i64 11, .int .i64 12] 368) = Wa at *
        have hw0 : IntKind.i64.wrap 10 = 10 := by decide +kernel
        have hw1 : IntKind.i64.wrap 11 = 11 := by decide +kernel
        refine wp_region_last [(true, 0), (true, 1), (true, 2), (true, 3), (true, 4), (true, 5), (true, 6), (true, 7), (true, 8), (true, 9), (true, 10), (true, 11), (true, 12), (true, 13), (false, 14)] 14 (fun w' => w' = Wa.drew) (by kernel_rfl) (by kernel_rfl) (by kernel_rfl) (fun d v c a w h => HQ.out d v c a w h) (by kernel_rfl) (by kernel_rfl) ?_ ?_
        · rfl
        iterate 14 (first | (apply seqL_skip; (focus (simp only [List.getElem?_toArray, List.getElem?_cons_succ, List.getElem?_cons_zero]; rfl)); (focus rfl); simp only [Act.put, List.setIfInBounds_toArray, List.set_cons_zero, List.set_cons_succ]) | (apply seqL_take; (focus (simp only [List.getElem?_toArray, List.getElem?_cons_succ, List.getElem?_cons_zero]; rfl)); (focus rfl); (focus (intro w' hS; subst hS; first | (go_simp; rfl) | (go_simp; done))); simp only [Act.put, List.setIfInBounds_toArray, List.set_cons_zero, List.set_cons_succ]))
        apply seqL_eff
        (focus (simp only [List.getElem?_toArray, List.getElem?_cons_succ, List.getElem?_cons_zero]; rfl))
        (focus rfl)
        intro K hK
        go_simp
        refine (mix_any vb 1 6 11 12 (eU R) (R.getD 1 0) (R.getD 6 0) (R.getD 11 0) (R.getD 12 0) x y Wa.drew (by rw [eU_size, HRL.out]; constructor <;> decide) ((eU_size R).trans HRL.out) hVa.drew (eU_at R (by rw [HRL.out]; decide)) (eU_at R (by rw [HRL.out]; decide)) (eU_at R (by rw [HRL.out]; decide)) (eU_at R (by rw [HRL.out]; decide))).mono ?_
        rintro e w2 ⟨rfl, hmx⟩
        have hB2 := hmx.blk
        have hE := HST.out
        rw [← eU_mix R (1, 6, 11, 12) x y, ← hE] at hB2
        have hg2 := World.grownBy.andThen (⟨hga.os, hga.tape, hga.output, hga.size, hga.block⟩ : w.grownBy Wa.drew (some vb)) hmx.gr (fun j hj => .inr hj)
        refine hK _ _ ⟨fun h => absurd rfl h, ?_⟩
        clear hK K
        refine seqL_nil ?_
        clear hw0 hw1 hE HST hmx hga hVa e0 e1 e2 e3 m0 m1 n0 n1
        go_wp2_with fail
        go_roundw
        case rel => exact ⟨5 + 1, by go_num, by omega, hB2, hg2⟩
        case measure => simp [intOf]
      · have m0 := hLr.cell 12
        have m1 := hLr.cell 13
        rw [eB_at L (by have := HL.out; omega)] at m0 m1
        have b0 := getD_lt HB.out 12
        have b1 := getD_lt HB.out 13
        have n0 := hMr.cell (L.getD 12 0)
        have n1 := hMr.cell (L.getD 13 0)
        rw [eU_at M (by have := HM.out; omega)] at n0 n1
        have HST : Hid (runV L M V (6 + 1) = mixV R (2, 7, 8, 13) (M.getD (L.getD 12 0) 0) (M.getD (L.getD 13 0) 0)) := HS.out
        clear HS
        generalize M.getD (L.getD 12 0) 0 = x at n0 n1 HST
        generalize M.getD (L.getD 13 0) 0 = y at n0 n1 HST
        generalize L.getD 12 0 = q0 at *
        generalize L.getD 13 0 = q1 at *
        have z0 : (q0 : Int) < 16 := by omega
        have z1 : (q1 : Int) < 16 := by omega
        clear hLr hMr b0 b1 hi hlt
        have hix : ∀ w0 : World, (Instr.index 369 (.agg PP) (.int .i64 6)).run Tryz.prog w0 = .ok (.agg #[.int .i64 2, .int .i64 7, .int .i64 8, .int .i64 13]) w0 := HP.out 6 (by decide)
        go_wp2_with fail
        have hX := Blk.new wr 368 #[.int .i64 2, .int .i64 7, .int .i64 8, .int .i64 13]
        have hVa := hVr.alloc (.cells #[.int .i64 2, .int .i64 7, .int .i64 8, .int .i64 13] 368)
        have hga := hgr.andThen (World.grownBy_alloc wr (.cells #[.int .i64 2, .int .i64 7, .int .i64 8, .int .i64 13] 368) none) (fun _ e => by cases e)
        have hbl : Below wr.heap.size wr (wr.alloc (.cells #[.int .i64 2, .int .i64 7, .int .i64 8, .int .i64 13] 368)) := (Below.refl _ _).alloc (Nat.le_refl _) _
        have hlb := block_lt_of_cell m0
        have hmb := block_lt_of_cell n0
        replace m0 := (hbl.drew.cell (p := ⟨lb, 12, none⟩) hlb).trans m0
        replace m1 := (hbl.drew.cell (p := ⟨lb, 13, none⟩) hlb).trans m1
        replace n0 := (hbl.drew.cell (p := ⟨mb, q0, none⟩) hmb).trans n0
        replace n1 := (hbl.drew.cell (p := ⟨mb, q1, none⟩) hmb).trans n1
        have e0 := hX.drew.cell 0
        have e1 := hX.drew.cell 1
        have e2 := hX.drew.cell 2
        have e3 := hX.drew.cell 3
        clear hX hVr hgr hbl hlb hmb
        obtain ⟨nb, hnb⟩ : ∃ nb, nb = wr.heap.size := ⟨_, rfl⟩
        rw [← hnb] at e0 e1 e2 e3 ⊢
        clear hnb
        generalize wr.alloc (.cells #[.int .i64 2, .int .i64 7, .int .i64 8, .int .i64 13] 368) = Wa at *
        have hw0 : IntKind.i64.wrap 12 = 12 := by decide +kernel
        have hw1 : IntKind.i64.wrap 13 = 13 := by decide +kernel
        refine wp_region_last [(true, 0), (true, 1), (true, 2), (true, 3), (true, 4), (true, 5), (true, 6), (true, 7), (true, 8), (true, 9), (true, 10), (true, 11), (true, 12), (true, 13), (false, 14)] 14 (fun w' => w' = Wa.drew) (by kernel_rfl) (by kernel_rfl) (by kernel_rfl) (fun d v c a w h => HQ.out d v c a w h) (by kernel_rfl) (by kernel_rfl) ?_ ?_
        · rfl
        iterate 14 (first | (apply seqL_skip; (focus (simp only [List.getElem?_toArray, List.getElem?_cons_succ, List.getElem?_cons_zero]; rfl)); (focus rfl); simp only [Act.put, List.setIfInBounds_toArray, List.set_cons_zero, List.set_cons_succ]) | (apply seqL_take; (focus (simp only [List.getElem?_toArray, List.getElem?_cons_succ, List.getElem?_cons_zero]; rfl)); (focus rfl); (focus (intro w' hS; subst hS; first | (go_simp; rfl) | (go_simp; done))); simp only [Act.put, List.setIfInBounds_toArray, List.set_cons_zero, List.set_cons_succ]))
        apply seqL_eff
        (focus (simp only [List.getElem?_toArray, List.getElem?_cons_succ, List.getElem?_cons_zero]; rfl))
        (focus rfl)
        intro K hK
        go_simp
        refine (mix_any vb 2 7 8 13 (eU R) (R.getD 2 0) (R.getD 7 0) (R.getD 8 0) (R.getD 13 0) x y Wa.drew (by rw [eU_size, HRL.out]; constructor <;> decide) ((eU_size R).trans HRL.out) hVa.drew (eU_at R (by rw [HRL.out]; decide)) (eU_at R (by rw [HRL.out]; decide)) (eU_at R (by rw [HRL.out]; decide)) (eU_at R (by rw [HRL.out]; decide))).mono ?_
        rintro e w2 ⟨rfl, hmx⟩
        have hB2 := hmx.blk
        have hE := HST.out
        rw [← eU_mix R (2, 7, 8, 13) x y, ← hE] at hB2
        have hg2 := World.grownBy.andThen (⟨hga.os, hga.tape, hga.output, hga.size, hga.block⟩ : w.grownBy Wa.drew (some vb)) hmx.gr (fun j hj => .inr hj)
        refine hK _ _ ⟨fun h => absurd rfl h, ?_⟩
        clear hK K
        refine seqL_nil ?_
        clear hw0 hw1 hE HST hmx hga hVa e0 e1 e2 e3 m0 m1 n0 n1
        go_wp2_with fail
        go_roundw
        case rel => exact ⟨6 + 1, by go_num, by omega, hB2, hg2⟩
        case measure => simp [intOf]
      · have m0 := hLr.cell 14
        have m1 := hLr.cell 15
        rw [eB_at L (by have := HL.out; omega)] at m0 m1
        have b0 := getD_lt HB.out 14
        have b1 := getD_lt HB.out 15
        have n0 := hMr.cell (L.getD 14 0)
        have n1 := hMr.cell (L.getD 15 0)
        rw [eU_at M (by have := HM.out; omega)] at n0 n1
        have HST : Hid (runV L M V (7 + 1) = mixV R (3, 4, 9, 14) (M.getD (L.getD 14 0) 0) (M.getD (L.getD 15 0) 0)) := HS.out
        clear HS
        generalize M.getD (L.getD 14 0) 0 = x at n0 n1 HST
        generalize M.getD (L.getD 15 0) 0 = y at n0 n1 HST
        generalize L.getD 14 0 = q0 at *
        generalize L.getD 15 0 = q1 at *
        have z0 : (q0 : Int) < 16 := by omega
        have z1 : (q1 : Int) < 16 := by omega
        clear hLr hMr b0 b1 hi hlt
        have hix : ∀ w0 : World, (Instr.index 369 (.agg PP) (.int .i64 7)).run Tryz.prog w0 = .ok (.agg #[.int .i64 3, .int .i64 4, .int .i64 9, .int .i64 14]) w0 := HP.out 7 (by decide)
        go_wp2_with fail
        have hX := Blk.new wr 368 #[.int .i64 3, .int .i64 4, .int .i64 9, .int .i64 14]
        have hVa := hVr.alloc (.cells #[.int .i64 3, .int .i64 4, .int .i64 9, .int .i64 14] 368)
        have hga := hgr.andThen (World.grownBy_alloc wr (.cells #[.int .i64 3, .int .i64 4, .int .i64 9, .int .i64 14] 368) none) (fun _ e => by cases e)
        have hbl : Below wr.heap.size wr (wr.alloc (.cells #[.int .i64 3, .int .i64 4, .int .i64 9, .int .i64 14] 368)) := (Below.refl _ _).alloc (Nat.le_refl _) _
        have hlb := block_lt_of_cell m0
        have hmb := block_lt_of_cell n0
        replace m0 := (hbl.drew.cell (p := ⟨lb, 14, none⟩) hlb).trans m0
        replace m1 := (hbl.drew.cell (p := ⟨lb, 15, none⟩) hlb).trans m1
        replace n0 := (hbl.drew.cell (p := ⟨mb, q0, none⟩) hmb).trans n0
        replace n1 := (hbl.drew.cell (p := ⟨mb, q1, none⟩) hmb).trans n1
        have e0 := hX.drew.cell 0
        have e1 := hX.drew.cell 1
        have e2 := hX.drew.cell 2
        have e3 := hX.drew.cell 3
        clear hX hVr hgr hbl hlb hmb
        obtain ⟨nb, hnb⟩ : ∃ nb, nb = wr.heap.size := ⟨_, rfl⟩
        rw [← hnb] at e0 e1 e2 e3 ⊢
        clear hnb
        generalize wr.alloc (.cells #[.int .i64 3, .int .i64 4, .int .i64 9, .int .i64 14] 368) = Wa at *
        have hw0 : IntKind.i64.wrap 14 = 14 := by decide +kernel
        have hw1 : IntKind.i64.wrap 15 = 15 := by decide +kernel
        refine wp_region_last [(true, 0), (true, 1), (true, 2), (true, 3), (true, 4), (true, 5), (true, 6), (true, 7), (true, 8), (true, 9), (true, 10), (true, 11), (true, 12), (true, 13), (false, 14)] 14 (fun w' => w' = Wa.drew) (by kernel_rfl) (by kernel_rfl) (by kernel_rfl) (fun d v c a w h => HQ.out d v c a w h) (by kernel_rfl) (by kernel_rfl) ?_ ?_
        · rfl
        iterate 14 (first | (apply seqL_skip; (focus (simp only [List.getElem?_toArray, List.getElem?_cons_succ, List.getElem?_cons_zero]; rfl)); (focus rfl); simp only [Act.put, List.setIfInBounds_toArray, List.set_cons_zero, List.set_cons_succ]) | (apply seqL_take; (focus (simp only [List.getElem?_toArray, List.getElem?_cons_succ, List.getElem?_cons_zero]; rfl)); (focus rfl); (focus (intro w' hS; subst hS; first | (go_simp; rfl) | (go_simp; done))); simp only [Act.put, List.setIfInBounds_toArray, List.set_cons_zero, List.set_cons_succ]))
        apply seqL_eff
        (focus (simp only [List.getElem?_toArray, List.getElem?_cons_succ, List.getElem?_cons_zero]; rfl))
        (focus rfl)
        intro K hK
        go_simp
        refine (mix_any vb 3 4 9 14 (eU R) (R.getD 3 0) (R.getD 4 0) (R.getD 9 0) (R.getD 14 0) x y Wa.drew (by rw [eU_size, HRL.out]; constructor <;> decide) ((eU_size R).trans HRL.out) hVa.drew (eU_at R (by rw [HRL.out]; decide)) (eU_at R (by rw [HRL.out]; decide)) (eU_at R (by rw [HRL.out]; decide)) (eU_at R (by rw [HRL.out]; decide))).mono ?_
        rintro e w2 ⟨rfl, hmx⟩
        have hB2 := hmx.blk
        have hE := HST.out
        rw [← eU_mix R (3, 4, 9, 14) x y, ← hE] at hB2
        have hg2 := World.grownBy.andThen (⟨hga.os, hga.tape, hga.output, hga.size, hga.block⟩ : w.grownBy Wa.drew (some vb)) hmx.gr (fun j hj => .inr hj)
        refine hK _ _ ⟨fun h => absurd rfl h, ?_⟩
        clear hK K
        refine seqL_nil ?_
        clear hw0 hw1 hE HST hmx hga hVa e0 e1 e2 e3 m0 m1 n0 n1
        go_wp2_with fail
        go_roundw
        case rel => exact ⟨7 + 1, by go_num, by omega, hB2, hg2⟩
        case measure => simp [intOf]
    · obtain rfl : i = 8 := by omega
      go_wp2_with fail
      exact hexit _ _ _ _ _ _ _ _ _ _ _ _ _ _ _ _ _ _ _ _ _ _ _ hVr hgr
set_option maxRecDepth 20000
theorem list16 (L : List Nat) (h : L.length = 16) : ∃ l0 l1 l2 l3 l4 l5 l6 l7 l8 l9 l10 l11 l12 l13 l14 l15, L = [l0, l1, l2, l3, l4, l5, l6, l7, l8, l9, l10, l11, l12, l13, l14, l15] := by
  match L, h with
  | [l0, l1, l2, l3, l4, l5, l6, l7, l8, l9, l10, l11, l12, l13, l14, l15], _ => exact ⟨l0, l1, l2, l3, l4, l5, l6, l7, l8, l9, l10, l11, l12, l13, l14, l15, rfl⟩
set_option maxHeartbeats 4000000 in
theorem lines_loop {c0 c1 c2 c3 c4 c5 c6 c7 c8 c10 c12 c13 c15 c16 c17 c18 c19 c20 c21 c22 c23 c24 c25 c26 c27 c28 c29 c30 c31 c32 c33 c34 c35 c36 c37 c38 c39 c40 c41 c42 c43 c44 c45 c46 c47 c48 c49 c50 c51 c52 c53 c54 c55 c56 c57 c58 c59 c60 c61 c62 c63 c64 c65 c66 c67 c68 c69 c70 c71 c72 c73 c74 c75 c76 c77 c80 c81 c82 c83 c84 c85 c86 c87 c88 c89 c90 c91 c92 c93 c94 c95 c96 c97 c98 c99 c100 c101 c102 c103 c104 c105 c106 c107 c108 c109 c110 c111 c112 c113 c114 c115 c116 c117 c118 c119 c120 c121 : Value} (CC PP : Array Value) (hCC : ∀ (i : Nat), i < 10 → ∀ w : World, (Instr.index 371 (.agg CC) (.int .i64 (i : Int))).run Tryz.prog w = .ok (.agg (eB (linesL.getD i []))) w)
    (hPP : ∀ (i : Nat), i < 8 → ∀ w : World, (Instr.index 369 (.agg PP) (.int .i64 (i : Int))).run Tryz.prog w = .ok (.agg (plcA i)) w) (hPi : ((Tryz.prog).info? 369).map (·.size) = some PP.size)
    (vb mb pb : Nat) (M V : List Int) (w : World) (Q0 : Exit → Act → World → Prop) (hQ : ∀ (d : Tmp) (v : Value) (c : List PanicEntry) (a : Act) (w : World), Q0 (.panic c) { a with tmps := a.tmps.setIfInBounds d v } w → Q0 (.panic c) a w)
    (hM : Blk w mb 365 (eU M)) (hP : Blk w pb 369 PP) (hV : Blk w vb 366 (eU V))
    (hMl : M.length = 16) (hVl : V.length = 16) (hvm : vb ≠ mb) (hvp : vb ≠ pb)
    (hexit : ∀ (u16 u17 u18 u79 u80 u81 u82 u83 u84 u85 u86 u87 u88 u89 u90 u91 u92 u93 u94 u95 u96 u97 u98 u99 u100 u101 u102 u103 : Value) (w' : World), Blk w' vb 366 (eU (allV M V 10)) → w.grownBy w' (some vb) → Q0 (.exit 4) ⟨(c0 :: c1 :: c2 :: c3 :: c4 :: c5 :: c6 :: c7 :: c8 :: .pointer (some ⟨vb, 0, none⟩) :: c10 :: .pointer (some ⟨mb, 0, none⟩) :: c12 :: c13 :: .pointer (some ⟨pb, 0, none⟩) :: c15 :: u16 :: u17 :: u18 :: c19 :: c20 :: c21 :: c22 :: c23 :: c24 :: c25 :: c26 :: c27 :: c28 :: c29 :: c30 :: c31 :: c32 :: c33 :: c34 :: c35 :: c36 :: c37 :: c38 :: c39 :: c40 :: c41 :: c42 :: c43 :: c44 :: c45 :: c46 :: c47 :: c48 :: c49 :: c50 :: c51 :: c52 :: c53 :: c54 :: c55 :: c56 :: c57 :: c58 :: c59 :: c60 :: c61 :: c62 :: c63 :: c64 :: c65 :: c66 :: c67 :: c68 :: c69 :: c70 :: c71 :: c72 :: c73 :: c74 :: c75 :: c76 :: c77 :: .agg CC :: u79 :: u80 :: u81 :: u82 :: u83 :: u84 :: u85 :: u86 :: u87 :: u88 :: u89 :: u90 :: u91 :: u92 :: u93 :: u94 :: u95 :: u96 :: u97 :: u98 :: u99 :: u100 :: u101 :: u102 :: u103 :: c104 :: c105 :: c106 :: c107 :: c108 :: c109 :: c110 :: c111 :: c112 :: c113 :: c114 :: c115 :: c116 :: c117 :: c118 :: c119 :: c120 :: c121 :: []).toArray, []⟩ w') :
    Code.wp Tryz.prog (blkLoop 2) Q0 ⟨(c0 :: c1 :: c2 :: c3 :: c4 :: c5 :: c6 :: c7 :: c8 :: .pointer (some ⟨vb, 0, none⟩) :: c10 :: .pointer (some ⟨mb, 0, none⟩) :: c12 :: c13 :: .pointer (some ⟨pb, 0, none⟩) :: c15 :: c16 :: c17 :: c18 :: c19 :: c20 :: c21 :: c22 :: c23 :: c24 :: c25 :: c26 :: c27 :: c28 :: c29 :: c30 :: c31 :: c32 :: c33 :: c34 :: c35 :: c36 :: c37 :: c38 :: c39 :: c40 :: c41 :: c42 :: c43 :: c44 :: c45 :: c46 :: c47 :: c48 :: c49 :: c50 :: c51 :: c52 :: c53 :: c54 :: c55 :: c56 :: c57 :: c58 :: c59 :: c60 :: c61 :: c62 :: c63 :: c64 :: c65 :: c66 :: c67 :: c68 :: c69 :: c70 :: c71 :: c72 :: c73 :: c74 :: c75 :: c76 :: c77 :: .agg CC :: .int .i64 0 :: c80 :: c81 :: c82 :: c83 :: c84 :: c85 :: c86 :: c87 :: c88 :: c89 :: c90 :: c91 :: c92 :: c93 :: c94 :: c95 :: c96 :: c97 :: c98 :: c99 :: c100 :: c101 :: c102 :: c103 :: c104 :: c105 :: c106 :: c107 :: c108 :: c109 :: c110 :: c111 :: c112 :: c113 :: c114 :: c115 :: c116 :: c117 :: c118 :: c119 :: c120 :: c121 :: []).toArray, []⟩ w := by
  have HQ := Lib.hid hQ
  clear hQ
  have HP := Lib.hid hPP
  clear hPP
  have HC := Lib.hid hCC
  clear hCC
  have HI := Lib.hid hPi
  clear hPi
  have HM := Lib.hid hMl
  have HV := Lib.hid hVl
  clear hMl hVl
  conv => arg 2; whnf
  go_loopw [79] (fun iv wr => ∃ i : Nat, iv = .int .i64 (i : Int) ∧ i ≤ 10 ∧ Blk wr vb 366 (eU (allV M V i)) ∧ w.grownBy wr (some vb)) (fun iv _ => 10 - (intOf iv).toNat)
  case atStart => exact ⟨0, rfl, by omega, hV, World.grownBy.refl w _⟩
  case round =>
    obtain ⟨i, rfl, hi, hVr, hgr⟩ := hrel
    by_cases hlt : i < 10
    · have hMr := hM.kept hgr (by intro e; injection e with e; exact hvm e.symm)
      have hPr := hP.kept hgr (by intro e; injection e with e; exact hvp e.symm)
      have HS := Lib.hid (allV_succ M V i)
      have HRL : Hid ((allV M V i).length = 16) := (allV_len M V i).trans HV.out
      have HX := Lib.hid hexit
      clear hM hP hV hexit
      have HLN := Lib.hid (lines_len i hlt)
      have hix := HC.out i hlt
      have HST : Hid (allV M V (i + 1) = runV (linesL.getD i []) M (allV M V i) 8) := HS.out
      clear HS
      generalize allV M V i = R at hVr HST HRL
      generalize linesL.getD i [] = L at hix HLN HST
      obtain ⟨l0, l1, l2, l3, l4, l5, l6, l7, l8, l9, l10, l11, l12, l13, l14, l15, hL⟩ := list16 L HLN.out.1
      have hLe : eB L = #[.int .u8 (l0 : Int), .int .u8 (l1 : Int), .int .u8 (l2 : Int), .int .u8 (l3 : Int), .int .u8 (l4 : Int), .int .u8 (l5 : Int), .int .u8 (l6 : Int), .int .u8 (l7 : Int), .int .u8 (l8 : Int), .int .u8 (l9 : Int), .int .u8 (l10 : Int), .int .u8 (l11 : Int), .int .u8 (l12 : Int), .int .u8 (l13 : Int), .int .u8 (l14 : Int), .int .u8 (l15 : Int)] := by rw [hL]; rfl
      have HLE := Lib.hid hLe
      rw [hLe] at hix
      clear hL hLe
      have hli : (i : Int) < 10 := by omega
      go_wp2_with (refine wpList_load_row rfl 369 (.tmp 14) rfl pb rfl 369 PP (0, 0) _ ((hPr.alloc _) : Blk _ pb _ PP) Tryz.underlying369 rfl HI.out ?_)
      refine places_loop PP HP.out vb mb wr.heap.size L M R _ _ ?hQ (hMr.alloc _) (by rw [HLE.out]; exact Blk.new wr _ _) (hVr.alloc _) HM.out HLN.out.1 HRL.out HLN.out.2 hvm (Nat.ne_of_lt hVr.lt) ?hexit
      case hQ => exact fun d v c a w h => HQ.out d v c a w h
      case hexit =>
        intro u17 u18 u83 u84 u85 u86 u87 u88 u89 u90 u91 u92 u93 u94 u95 u96 u97 u98 u99 u100 u101 u102 w2 hB2 hg2
        rw [← HST.out] at hB2
        have hg3 := (hgr.andThen (World.grownBy_alloc wr (.cells #[.int .u8 (l0 : Int), .int .u8 (l1 : Int), .int .u8 (l2 : Int), .int .u8 (l3 : Int), .int .u8 (l4 : Int), .int .u8 (l5 : Int), .int .u8 (l6 : Int), .int .u8 (l7 : Int), .int .u8 (l8 : Int), .int .u8 (l9 : Int), .int .u8 (l10 : Int), .int .u8 (l11 : Int), .int .u8 (l12 : Int), .int .u8 (l13 : Int), .int .u8 (l14 : Int), .int .u8 (l15 : Int)] 370) none) (fun _ e => by cases e)).andThen hg2 (fun j hj => .inr hj)
        clear hix HST HLN HLE hMr hPr hVr hgr hg2
        go_wp2_with fail
        go_roundw
        case rel => exact ⟨i + 1, by go_num, by omega, hB2, hg3⟩
        case measure => simp [intOf]; omega
    · obtain rfl : i = 10 := by omega
      go_wp2_with fail
      exact hexit _ _ _ _ _ _ _ _ _ _ _ _ _ _ _ _ _ _ _ _ _ _ _ _ _ _ _ _ _ hVr hgr
set_option maxRecDepth 20000
def rgn (n : Nat) : Code → Option Code
  | .region id ops d => if id = n then some (.region id ops d) else none
  | .loop c => rgn n c
  | .seq a b => (match rgn n a with | some c => some c | none => rgn n b)
  | .block _ c => rgn n c
  | .scope c => rgn n c
  | .cond _ a b => (match rgn n a with | some c => some c | none => rgn n b)
  | _ => none
noncomputable def blkRgn (n : Nat) : Code := (rgn n (Tryz.f262.body.getD .skip)).getD .skip
set_option maxHeartbeats 1000000 in
theorem places_region {c0 c1 c2 c3 c4 c5 c6 c7 c8 c9 c10 c11 c12 c13 c14 c15 c16 c17 c18 c19 c20 c21 c22 c23 c24 c25 c26 c27 c28 c29 c30 c31 c32 c33 c34 c35 c36 c37 c38 c39 c40 c41 c42 c43 c44 c45 c46 c47 c48 c49 c50 c51 c52 c53 c54 c55 c56 c57 c58 c59 c60 c61 c62 c63 c64 c65 c66 c67 c68 c69 c70 c71 c72 c73 c74 c75 c76 c77 c78 c79 c80 c81 c82 c83 c84 c85 c86 c87 c88 c89 c90 c91 c92 c93 c94 c95 c96 c97 c98 c99 c100 c101 c102 c103 c104 c105 c106 c107 c108 c109 c110 c111 c112 c113 c114 c115 c116 c117 c118 c119 c120 c121 : Value} (w : World) (Q0 : Exit → Act → World → Prop)
    (hexit : ∀ (u69 u70 u71 u72 u73 u74 u75 u76 u77 : Value) (w' : World), Blk w' w.heap.size 369 PPs → w.grownBy w' none → w'.heap.size = w.heap.size + 1 → Q0 .normal ⟨(c0 :: c1 :: c2 :: c3 :: c4 :: c5 :: c6 :: c7 :: c8 :: c9 :: c10 :: c11 :: c12 :: c13 :: .pointer (some ⟨w.heap.size, 0, none⟩) :: c15 :: c16 :: c17 :: c18 :: c19 :: c20 :: c21 :: c22 :: c23 :: c24 :: c25 :: c26 :: c27 :: c28 :: c29 :: c30 :: c31 :: c32 :: c33 :: c34 :: c35 :: c36 :: c37 :: c38 :: c39 :: c40 :: c41 :: c42 :: c43 :: c44 :: c45 :: c46 :: c47 :: c48 :: c49 :: c50 :: c51 :: c52 :: c53 :: c54 :: c55 :: c56 :: c57 :: c58 :: c59 :: c60 :: c61 :: c62 :: c63 :: c64 :: c65 :: c66 :: c67 :: c68 :: u69 :: u70 :: u71 :: u72 :: u73 :: u74 :: u75 :: u76 :: u77 :: c78 :: c79 :: c80 :: c81 :: c82 :: c83 :: c84 :: c85 :: c86 :: c87 :: c88 :: c89 :: c90 :: c91 :: c92 :: c93 :: c94 :: c95 :: c96 :: c97 :: c98 :: c99 :: c100 :: c101 :: c102 :: c103 :: c104 :: c105 :: c106 :: c107 :: c108 :: c109 :: c110 :: c111 :: c112 :: c113 :: c114 :: c115 :: c116 :: c117 :: c118 :: c119 :: c120 :: c121 :: []).toArray, []⟩ w') :
    Code.wp Tryz.prog (blkRgn 19) Q0 ⟨(c0 :: c1 :: c2 :: c3 :: c4 :: c5 :: c6 :: c7 :: c8 :: c9 :: c10 :: c11 :: c12 :: c13 :: c14 :: c15 :: c16 :: c17 :: c18 :: c19 :: c20 :: c21 :: c22 :: c23 :: c24 :: c25 :: c26 :: c27 :: c28 :: c29 :: c30 :: c31 :: c32 :: c33 :: c34 :: c35 :: c36 :: c37 :: c38 :: c39 :: c40 :: c41 :: c42 :: c43 :: c44 :: c45 :: c46 :: c47 :: c48 :: c49 :: c50 :: c51 :: c52 :: c53 :: c54 :: c55 :: c56 :: c57 :: c58 :: c59 :: c60 :: c61 :: c62 :: c63 :: c64 :: c65 :: c66 :: c67 :: c68 :: c69 :: c70 :: c71 :: c72 :: c73 :: c74 :: c75 :: c76 :: c77 :: c78 :: c79 :: c80 :: c81 :: c82 :: c83 :: c84 :: c85 :: c86 :: c87 :: c88 :: c89 :: c90 :: c91 :: c92 :: c93 :: c94 :: c95 :: c96 :: c97 :: c98 :: c99 :: c100 :: c101 :: c102 :: c103 :: c104 :: c105 :: c106 :: c107 :: c108 :: c109 :: c110 :: c111 :: c112 :: c113 :: c114 :: c115 :: c116 :: c117 :: c118 :: c119 :: c120 :: c121 :: []).toArray, []⟩ w := by
  conv => arg 2; whnf
  apply wp_region_lit
  iterate 9 (refine wpList_build rfl _ _ rfl (by kernel_rfl) ?_)
  refine Go.Great.wpList_allocTo rfl (some 14) rfl (.pointer (some ⟨w.heap.size, 0, none⟩)) (.cells (#[.int .i64 0, .int .i64 0, .int .i64 0, .int .i64 0, .int .i64 0, .int .i64 0, .int .i64 0, .int .i64 0, .int .i64 0, .int .i64 0, .int .i64 0, .int .i64 0, .int .i64 0, .int .i64 0, .int .i64 0, .int .i64 0, .int .i64 0, .int .i64 0, .int .i64 0, .int .i64 0, .int .i64 0, .int .i64 0, .int .i64 0, .int .i64 0, .int .i64 0, .int .i64 0, .int .i64 0, .int .i64 0, .int .i64 0, .int .i64 0, .int .i64 0, .int .i64 0] : Array Value) 369) (by kernel_rfl) ?_
  refine wpList_store_row rfl _ _ _ rfl w.heap.size PPs (by kernel_rfl) (by kernel_rfl) 369 (#[.int .i64 0, .int .i64 0, .int .i64 0, .int .i64 0, .int .i64 0, .int .i64 0, .int .i64 0, .int .i64 0, .int .i64 0, .int .i64 0, .int .i64 0, .int .i64 0, .int .i64 0, .int .i64 0, .int .i64 0, .int .i64 0, .int .i64 0, .int .i64 0, .int .i64 0, .int .i64 0, .int .i64 0, .int .i64 0, .int .i64 0, .int .i64 0, .int .i64 0, .int .i64 0, .int .i64 0, .int .i64 0, .int .i64 0, .int .i64 0, .int .i64 0, .int .i64 0] : Array Value) (heap_alloc_new w _) (by kernel_rfl) (by kernel_rfl) (by kernel_rfl) ?_
  apply wpList_nil
  go_frame
  refine hexit _ _ _ _ _ _ _ _ _ _ (setRow_heap _ _ _ PPs _ _ (heap_alloc_new w _)) ?_ ?_
  · exact ⟨rfl, rfl, rfl, by simp, fun k hk _ => (setRow_other _ _ _ _ (by omega)).trans (Below.heap_alloc _ _ _ hk)⟩
  · simp
end Go.Proofs.YtgjfhgcjiglfkaaGreatDoor
