import Derived.Test.YtgjfhgcjiglfkaaGreatDoorD5
set_option linter.unusedVariables false
set_option linter.unusedSimpArgs false
namespace Go.Proofs.YtgjfhgcjiglfkaaGreatDoor
set_option maxRecDepth 20000
open Go.RowKit
def word (bs : List Int) (j : Nat) : Nat → Int
  | 0 => 0
  | k + 1 => bits .or .u32 (word bs j k) (IntKind.u32.wrap (IntKind.u32.wrap (bs.getD (4 * j + k) 0) * 2 ^ min (IntKind.i64.wrap (8 * (k : Int))).toNat 32))
theorem word_succ (bs : List Int) (j k : Nat) : word bs j (k + 1) = bits .or .u32 (word bs j k) (IntKind.u32.wrap (IntKind.u32.wrap (bs.getD (4 * j + k) 0) * 2 ^ min (IntKind.i64.wrap (8 * (k : Int))).toNat 32)) := rfl
def mrow (bs : List Int) (i k : Nat) : List Int := (List.range 16).map fun j => if j < i then word bs j 4 else if j = i then word bs j k else 0
def mvals (bs : List Int) (i k : Nat) : Array Value := ((mrow bs i k).map (Value.int .u32)).toArray
theorem mvals_at (bs : List Int) {i : Nat} (k : Nat) (h : i < 16) : (mvals bs i k)[i]? = some (.int .u32 (word bs i k)) := by
  simp [mvals, mrow, List.getElem?_map, List.getElem?_range, h]
theorem mvals_set (bs : List Int) {i : Nat} (k : Nat) (h : i < 16) : (mvals bs i k).setIfInBounds i (.int .u32 (word bs i (k + 1))) = mvals bs i (k + 1) := by
  apply Array.ext_getElem?
  intro j
  rw [Array.getElem?_setIfInBounds]
  by_cases hj : i = j
  · subst hj
    rw [if_pos rfl, mvals_at bs (k + 1) h]
    simp [mvals, mrow, h]
  · rw [if_neg hj]
    simp only [mvals, mrow, List.map_map, List.getElem?_toArray, List.getElem?_map]
    by_cases h16 : j < 16
    · simp [List.getElem?_range, h16, Ne.symm hj]
    · simp [List.getElem?_eq_none, h16]
theorem mvals_next (bs : List Int) (i : Nat) : mvals bs i 4 = mvals bs (i + 1) 0 := by
  unfold mvals mrow
  congr 2
  apply List.map_congr_left
  intro j _
  by_cases h1 : j < i
  · simp [h1, Nat.lt_succ_of_lt h1]
  · by_cases h2 : j = i
    · subst h2; simp
    · have : ¬ j < i + 1 := by omega
      simp [h1, h2, this, word]
theorem mvals_nil (bs : List Int) : mvals bs 0 0 = #[.int .u32 0, .int .u32 0, .int .u32 0, .int .u32 0, .int .u32 0, .int .u32 0, .int .u32 0, .int .u32 0, .int .u32 0, .int .u32 0, .int .u32 0, .int .u32 0, .int .u32 0, .int .u32 0, .int .u32 0, .int .u32 0] := by
  unfold mvals mrow
  simp [List.range, List.range.loop, word]
set_option maxHeartbeats 4000000 in
theorem words_loop {c0 c2 c3 c4 c5 c6 c7 c8 c9 c10 c12 c13 c14 c15 c16 c17 c18 c19 c20 c21 c22 c23 c24 c25 c26 c27 c28 c29 c30 c31 c32 c33 c34 c35 c36 c37 c38 c39 c40 c41 c42 c43 c44 c46 c47 c48 c49 c50 c51 c52 c53 c54 c55 c56 c57 c58 c59 c60 c61 c62 c63 c64 c65 c66 c67 c68 c69 c70 c71 c72 c73 c74 c75 c76 c77 c78 c79 c80 c81 c82 c83 c84 c85 c86 c87 c88 c89 c90 c91 c92 c93 c94 c95 c96 c97 c98 c99 c100 c101 c102 c103 c104 c105 c106 c107 c108 c109 c110 c111 c112 c113 c114 c115 c116 c117 c118 c119 c120 c121 : Value} {cap : Nat} (gb ob mb : Nat) (bs : List Int) (w : World) (Q0 : Exit → Act → World → Prop) (hQ : ∀ (d : Tmp) (v : Value) (c : List PanicEntry) (a : Act) (w : World), Q0 (.panic c) { a with tmps := a.tmps.setIfInBounds d v } w → Q0 (.panic c) a w)
    (hbl : bs.length = 64) (hbc : ∀ j x, bs[j]? = some x → w.cell? ⟨gb, ob + j, none⟩ = some (.int .u8 x)) (hM : Blk w mb 365 (mvals bs 0 0)) (hgm : gb ≠ mb)
    (hexit : ∀ (u12 u13 u45 u46 u47 u48 u49 u50 u51 u52 u53 u54 u55 u56 u57 u58 u59 u60 u61 u62 u63 u64 u65 u66 u67 u68 : Value) (w' : World), Blk w' mb 365 (mvals bs 16 0) → w.grownBy w' (some mb) → Q0 (.exit 0) ⟨(c0 :: .slice (some ⟨gb, ob, none⟩) 64 cap :: c2 :: c3 :: c4 :: c5 :: c6 :: c7 :: c8 :: c9 :: c10 :: .pointer (some ⟨mb, 0, none⟩) :: u12 :: u13 :: c14 :: c15 :: c16 :: c17 :: c18 :: c19 :: c20 :: c21 :: c22 :: c23 :: c24 :: c25 :: c26 :: c27 :: c28 :: c29 :: c30 :: c31 :: c32 :: c33 :: c34 :: c35 :: c36 :: c37 :: c38 :: c39 :: c40 :: c41 :: c42 :: c43 :: c44 :: u45 :: u46 :: u47 :: u48 :: u49 :: u50 :: u51 :: u52 :: u53 :: u54 :: u55 :: u56 :: u57 :: u58 :: u59 :: u60 :: u61 :: u62 :: u63 :: u64 :: u65 :: u66 :: u67 :: u68 :: c69 :: c70 :: c71 :: c72 :: c73 :: c74 :: c75 :: c76 :: c77 :: c78 :: c79 :: c80 :: c81 :: c82 :: c83 :: c84 :: c85 :: c86 :: c87 :: c88 :: c89 :: c90 :: c91 :: c92 :: c93 :: c94 :: c95 :: c96 :: c97 :: c98 :: c99 :: c100 :: c101 :: c102 :: c103 :: c104 :: c105 :: c106 :: c107 :: c108 :: c109 :: c110 :: c111 :: c112 :: c113 :: c114 :: c115 :: c116 :: c117 :: c118 :: c119 :: c120 :: c121 :: []).toArray, []⟩ w') :
    Code.wp Tryz.prog (blkLoop 0) Q0 ⟨(c0 :: .slice (some ⟨gb, ob, none⟩) 64 cap :: c2 :: c3 :: c4 :: c5 :: c6 :: c7 :: c8 :: c9 :: c10 :: .pointer (some ⟨mb, 0, none⟩) :: c12 :: c13 :: c14 :: c15 :: c16 :: c17 :: c18 :: c19 :: c20 :: c21 :: c22 :: c23 :: c24 :: c25 :: c26 :: c27 :: c28 :: c29 :: c30 :: c31 :: c32 :: c33 :: c34 :: c35 :: c36 :: c37 :: c38 :: c39 :: c40 :: c41 :: c42 :: c43 :: c44 :: .int .i64 0 :: c46 :: c47 :: c48 :: c49 :: c50 :: c51 :: c52 :: c53 :: c54 :: c55 :: c56 :: c57 :: c58 :: c59 :: c60 :: c61 :: c62 :: c63 :: c64 :: c65 :: c66 :: c67 :: c68 :: c69 :: c70 :: c71 :: c72 :: c73 :: c74 :: c75 :: c76 :: c77 :: c78 :: c79 :: c80 :: c81 :: c82 :: c83 :: c84 :: c85 :: c86 :: c87 :: c88 :: c89 :: c90 :: c91 :: c92 :: c93 :: c94 :: c95 :: c96 :: c97 :: c98 :: c99 :: c100 :: c101 :: c102 :: c103 :: c104 :: c105 :: c106 :: c107 :: c108 :: c109 :: c110 :: c111 :: c112 :: c113 :: c114 :: c115 :: c116 :: c117 :: c118 :: c119 :: c120 :: c121 :: []).toArray, []⟩ w := by
  have HQ := Lib.hid hQ
  clear hQ
  have HBC := Lib.hid hbc
  have hgb : gb < w.heap.size := block_lt_of_cell (hbc 0 (bs[0]'(by omega)) (by simp))
  clear hbc
  have HBL := Lib.hid hbl
  clear hbl
  conv => arg 2; whnf
  go_loopw [45] (fun iv wr => ∃ i : Nat, iv = .int .i64 (i : Int) ∧ i ≤ 16 ∧ w.grownBy wr (some mb) ∧ Blk wr mb 365 (mvals bs i 0)) (fun iv _ => 16 - (intOf iv).toNat)
  case atStart => exact ⟨0, rfl, by omega, World.grownBy.refl w _, hM⟩
  case round =>
    obtain ⟨i, rfl, hi, hD, hM⟩ := hrel
    by_cases hlt : i < 16
    · have hdi : decide ((i : Int) < 16) = true := by rw [decide_eq_true_eq]; omega
      have HX := Lib.hid hexit
      clear hexit
      go_wp2_with fail
      go_loopw [48] (fun kv wr => ∃ k : Nat, kv = .int .i64 (k : Int) ∧ k ≤ 4 ∧ w.grownBy wr (some mb) ∧ Blk wr mb 365 (mvals bs i k)) (fun kv _ => 4 - (intOf kv).toNat)
      case atStart => exact ⟨0, rfl, by omega, hD, hM⟩
      case round =>
        obtain ⟨k, rfl, hk, hDk, hMk⟩ := hrel
        by_cases hk4 : k < 4
        · obtain ⟨bx, hbx⟩ : ∃ x, bs[4 * i + k]? = some x := ⟨_, List.getElem?_eq_getElem (by have := HBL.out; omega)⟩
          have hbk := HBC.out (4 * i + k) bx hbx
          have cb := hDk.cell hbk (by intro e; injection e with e; exact hgm e)
          have cM := hMk.drew.cell i
          rw [mvals_at bs k hlt] at cM
          have fM := hMk.drew.frozen i
          have HW := Lib.hid (word_succ bs i k)
          have hgd : bs.getD (4 * i + k) 0 = bx := by rw [List.getD_eq_getElem?_getD, hbx]; rfl
          rw [hgd] at HW
          have HS := Lib.hid (mvals_set bs k hlt)
          clear hgd hbk hbx
          change wr.drew.cell? _ = _ at cb
          generalize hwd : word bs i k = wd at *
          obtain ⟨q, hq⟩ : ∃ q, q = 4 * i := ⟨_, rfl⟩
          obtain ⟨p, hp⟩ : ∃ p, p = 4 * i + k := ⟨_, rfl⟩
          rw [← hp] at cb
          have hw0 : IntKind.i64.wrap (4 * (i : Int)) = (q : Int) := by rw [IntKind.wrap_i64]; omega
          have hpl : (p : Int) < 64 := by omega
          have hli : (i : Int) < 16 := by omega
          clear hdi
          have hw1 : IntKind.i64.wrap ((q : Int) + (k : Int)) = (p : Int) := by rw [IntKind.wrap_i64]; omega
          have HQ1 := Lib.hid hq
          have HP := Lib.hid hp
          clear hq hp
          have hk : k = 0 ∨ k = 1 ∨ k = 2 ∨ k = 3 := by omega
          rcases hk with rfl | rfl | rfl | rfl
          · rw [Int.natCast_zero, Int.add_zero] at hw1
            go_wp2_with fail
            refine wp_region_last [(true, 0), (true, 1), (true, 2), (true, 3), (true, 4), (true, 5), (true, 6), (true, 7), (true, 8), (true, 9), (true, 11), (true, 12), (false, 10), (true, 13), (true, 14), (true, 15), (false, 16)] 16 (fun w' => w' = wr.drew) (by kernel_rfl) (by kernel_rfl) (by kernel_rfl) (fun d v c a w h => HQ.out d v c a w h) (by kernel_rfl) (by kernel_rfl) ?_ ?_
            · rfl
            iterate 12 (first | (apply seqL_skip; (focus (simp only [List.getElem?_toArray, List.getElem?_cons_succ, List.getElem?_cons_zero]; rfl)); (focus rfl); simp only [Act.put, List.setIfInBounds_toArray, List.set_cons_zero, List.set_cons_succ]) | (apply seqL_take; (focus (simp only [List.getElem?_toArray, List.getElem?_cons_succ, List.getElem?_cons_zero]; rfl)); (focus rfl); (focus (intro w' hS; subst hS; first | (go_simp; rfl) | (go_simp; done))); simp only [Act.put, List.setIfInBounds_toArray, List.set_cons_zero, List.set_cons_succ]))
            apply seqL_eff
            (focus (simp only [List.getElem?_toArray, List.getElem?_cons_succ, List.getElem?_cons_zero]; rfl))
            (focus rfl)
            intro K hK
            go_simp
            refine hK _ _ ⟨fun _ => rfl, ?_⟩
            clear hK K
            iterate 3 (first | (apply seqL_skip; (focus (simp only [List.getElem?_toArray, List.getElem?_cons_succ, List.getElem?_cons_zero]; rfl)); (focus rfl); simp only [Act.put, List.setIfInBounds_toArray, List.set_cons_zero, List.set_cons_succ]) | (apply seqL_take; (focus (simp only [List.getElem?_toArray, List.getElem?_cons_succ, List.getElem?_cons_zero]; rfl)); (focus rfl); (focus (intro w' hS; subst hS; first | (go_simp; rfl) | (go_simp; done))); simp only [Act.put, List.setIfInBounds_toArray, List.set_cons_zero, List.set_cons_succ]))
            apply seqL_eff
            (focus (simp only [List.getElem?_toArray, List.getElem?_cons_succ, List.getElem?_cons_zero]; rfl))
            (focus rfl)
            intro K hK
            go_simp
            refine hK _ _ ⟨fun h => absurd rfl h, ?_⟩
            clear hK K
            refine seqL_nil ?_
            have hMs := hMk.set_ i (.int .u32 (word bs i (0 + 1)))
            rw [HS.out] at hMs
            have hDs := grow_set hDk i (.int .u32 (word bs i (0 + 1)))
            have hDt : w.grownBy (wr.setCell ⟨mb, i, none⟩ (.int .u32 (word bs i (0 + 1)))).drew (some mb) := ⟨hDs.os, hDs.tape, hDs.output, hDs.size, hDs.block⟩
            have hE : bits .or .u32 wd (IntKind.u32.wrap (IntKind.u32.wrap bx * 2 ^ min (IntKind.i64.wrap 0).toNat 32)) = word bs i (0 + 1) := HW.out.symm
            rw [hE]
            clear cb cM fM hw0 hw1 hpl hE HW HS HQ1 HP
            have hMt : Blk (wr.setCell ⟨mb, i, none⟩ (.int .u32 (word bs i (0 + 1)))).drew mb 365 (mvals bs i (0 + 1)) := hMs
            generalize (wr.setCell ⟨mb, i, none⟩ (.int .u32 (word bs i (0 + 1)))).drew = W7 at hDt hMt ⊢
            clear hMs hDk hMk hDs
            go_wp2_with fail
            go_roundw
            case rel => exact ⟨0 + 1, by go_num, by omega, hDt, hMt⟩
            case measure => simp [intOf]
          · change IntKind.i64.wrap ((q : Int) + 1) = _ at hw1
            go_wp2_with fail
            refine wp_region_last [(true, 0), (true, 1), (true, 2), (true, 3), (true, 4), (true, 5), (true, 6), (true, 7), (true, 8), (true, 9), (true, 11), (true, 12), (false, 10), (true, 13), (true, 14), (true, 15), (false, 16)] 16 (fun w' => w' = wr.drew) (by kernel_rfl) (by kernel_rfl) (by kernel_rfl) (fun d v c a w h => HQ.out d v c a w h) (by kernel_rfl) (by kernel_rfl) ?_ ?_
            · rfl
            iterate 12 (first | (apply seqL_skip; (focus (simp only [List.getElem?_toArray, List.getElem?_cons_succ, List.getElem?_cons_zero]; rfl)); (focus rfl); simp only [Act.put, List.setIfInBounds_toArray, List.set_cons_zero, List.set_cons_succ]) | (apply seqL_take; (focus (simp only [List.getElem?_toArray, List.getElem?_cons_succ, List.getElem?_cons_zero]; rfl)); (focus rfl); (focus (intro w' hS; subst hS; first | (go_simp; rfl) | (go_simp; done))); simp only [Act.put, List.setIfInBounds_toArray, List.set_cons_zero, List.set_cons_succ]))
            apply seqL_eff
            (focus (simp only [List.getElem?_toArray, List.getElem?_cons_succ, List.getElem?_cons_zero]; rfl))
            (focus rfl)
            intro K hK
            go_simp
            refine hK _ _ ⟨fun _ => rfl, ?_⟩
            clear hK K
            iterate 3 (first | (apply seqL_skip; (focus (simp only [List.getElem?_toArray, List.getElem?_cons_succ, List.getElem?_cons_zero]; rfl)); (focus rfl); simp only [Act.put, List.setIfInBounds_toArray, List.set_cons_zero, List.set_cons_succ]) | (apply seqL_take; (focus (simp only [List.getElem?_toArray, List.getElem?_cons_succ, List.getElem?_cons_zero]; rfl)); (focus rfl); (focus (intro w' hS; subst hS; first | (go_simp; rfl) | (go_simp; done))); simp only [Act.put, List.setIfInBounds_toArray, List.set_cons_zero, List.set_cons_succ]))
            apply seqL_eff
            (focus (simp only [List.getElem?_toArray, List.getElem?_cons_succ, List.getElem?_cons_zero]; rfl))
            (focus rfl)
            intro K hK
            go_simp
            refine hK _ _ ⟨fun h => absurd rfl h, ?_⟩
            clear hK K
            refine seqL_nil ?_
            have hMs := hMk.set_ i (.int .u32 (word bs i (1 + 1)))
            rw [HS.out] at hMs
            have hDs := grow_set hDk i (.int .u32 (word bs i (1 + 1)))
            have hDt : w.grownBy (wr.setCell ⟨mb, i, none⟩ (.int .u32 (word bs i (1 + 1)))).drew (some mb) := ⟨hDs.os, hDs.tape, hDs.output, hDs.size, hDs.block⟩
            have hE : bits .or .u32 wd (IntKind.u32.wrap (IntKind.u32.wrap bx * 2 ^ min (IntKind.i64.wrap 8).toNat 32)) = word bs i (1 + 1) := HW.out.symm
            rw [hE]
            clear cb cM fM hw0 hw1 hpl hE HW HS HQ1 HP
            have hMt : Blk (wr.setCell ⟨mb, i, none⟩ (.int .u32 (word bs i (1 + 1)))).drew mb 365 (mvals bs i (1 + 1)) := hMs
            generalize (wr.setCell ⟨mb, i, none⟩ (.int .u32 (word bs i (1 + 1)))).drew = W7 at hDt hMt ⊢
            clear hMs hDk hMk hDs
            go_wp2_with fail
            go_roundw
            case rel => exact ⟨1 + 1, by go_num, by omega, hDt, hMt⟩
            case measure => simp [intOf]
          · change IntKind.i64.wrap ((q : Int) + 2) = _ at hw1
            go_wp2_with fail
            refine wp_region_last [(true, 0), (true, 1), (true, 2), (true, 3), (true, 4), (true, 5), (true, 6), (true, 7), (true, 8), (true, 9), (true, 11), (true, 12), (false, 10), (true, 13), (true, 14), (true, 15), (false, 16)] 16 (fun w' => w' = wr.drew) (by kernel_rfl) (by kernel_rfl) (by kernel_rfl) (fun d v c a w h => HQ.out d v c a w h) (by kernel_rfl) (by kernel_rfl) ?_ ?_
            · rfl
            iterate 12 (first | (apply seqL_skip; (focus (simp only [List.getElem?_toArray, List.getElem?_cons_succ, List.getElem?_cons_zero]; rfl)); (focus rfl); simp only [Act.put, List.setIfInBounds_toArray, List.set_cons_zero, List.set_cons_succ]) | (apply seqL_take; (focus (simp only [List.getElem?_toArray, List.getElem?_cons_succ, List.getElem?_cons_zero]; rfl)); (focus rfl); (focus (intro w' hS; subst hS; first | (go_simp; rfl) | (go_simp; done))); simp only [Act.put, List.setIfInBounds_toArray, List.set_cons_zero, List.set_cons_succ]))
            apply seqL_eff
            (focus (simp only [List.getElem?_toArray, List.getElem?_cons_succ, List.getElem?_cons_zero]; rfl))
            (focus rfl)
            intro K hK
            go_simp
            refine hK _ _ ⟨fun _ => rfl, ?_⟩
            clear hK K
            iterate 3 (first | (apply seqL_skip; (focus (simp only [List.getElem?_toArray, List.getElem?_cons_succ, List.getElem?_cons_zero]; rfl)); (focus rfl); simp only [Act.put, List.setIfInBounds_toArray, List.set_cons_zero, List.set_cons_succ]) | (apply seqL_take; (focus (simp only [List.getElem?_toArray, List.getElem?_cons_succ, List.getElem?_cons_zero]; rfl)); (focus rfl); (focus (intro w' hS; subst hS; first | (go_simp; rfl) | (go_simp; done))); simp only [Act.put, List.setIfInBounds_toArray, List.set_cons_zero, List.set_cons_succ]))
            apply seqL_eff
            (focus (simp only [List.getElem?_toArray, List.getElem?_cons_succ, List.getElem?_cons_zero]; rfl))
            (focus rfl)
            intro K hK
            go_simp
            refine hK _ _ ⟨fun h => absurd rfl h, ?_⟩
            clear hK K
            refine seqL_nil ?_
            have hMs := hMk.set_ i (.int .u32 (word bs i (2 + 1)))
            rw [HS.out] at hMs
            have hDs := grow_set hDk i (.int .u32 (word bs i (2 + 1)))
            have hDt : w.grownBy (wr.setCell ⟨mb, i, none⟩ (.int .u32 (word bs i (2 + 1)))).drew (some mb) := ⟨hDs.os, hDs.tape, hDs.output, hDs.size, hDs.block⟩
            have hE : bits .or .u32 wd (IntKind.u32.wrap (IntKind.u32.wrap bx * 2 ^ min (IntKind.i64.wrap 16).toNat 32)) = word bs i (2 + 1) := HW.out.symm
            rw [hE]
            clear cb cM fM hw0 hw1 hpl hE HW HS HQ1 HP
            have hMt : Blk (wr.setCell ⟨mb, i, none⟩ (.int .u32 (word bs i (2 + 1)))).drew mb 365 (mvals bs i (2 + 1)) := hMs
            generalize (wr.setCell ⟨mb, i, none⟩ (.int .u32 (word bs i (2 + 1)))).drew = W7 at hDt hMt ⊢
            clear hMs hDk hMk hDs
            go_wp2_with fail
            go_roundw
            case rel => exact ⟨2 + 1, by go_num, by omega, hDt, hMt⟩
            case measure => simp [intOf]
          · change IntKind.i64.wrap ((q : Int) + 3) = _ at hw1
            go_wp2_with fail
            refine wp_region_last [(true, 0), (true, 1), (true, 2), (true, 3), (true, 4), (true, 5), (true, 6), (true, 7), (true, 8), (true, 9), (true, 11), (true, 12), (false, 10), (true, 13), (true, 14), (true, 15), (false, 16)] 16 (fun w' => w' = wr.drew) (by kernel_rfl) (by kernel_rfl) (by kernel_rfl) (fun d v c a w h => HQ.out d v c a w h) (by kernel_rfl) (by kernel_rfl) ?_ ?_
            · rfl
            iterate 12 (first | (apply seqL_skip; (focus (simp only [List.getElem?_toArray, List.getElem?_cons_succ, List.getElem?_cons_zero]; rfl)); (focus rfl); simp only [Act.put, List.setIfInBounds_toArray, List.set_cons_zero, List.set_cons_succ]) | (apply seqL_take; (focus (simp only [List.getElem?_toArray, List.getElem?_cons_succ, List.getElem?_cons_zero]; rfl)); (focus rfl); (focus (intro w' hS; subst hS; first | (go_simp; rfl) | (go_simp; done))); simp only [Act.put, List.setIfInBounds_toArray, List.set_cons_zero, List.set_cons_succ]))
            apply seqL_eff
            (focus (simp only [List.getElem?_toArray, List.getElem?_cons_succ, List.getElem?_cons_zero]; rfl))
            (focus rfl)
            intro K hK
            go_simp
            refine hK _ _ ⟨fun _ => rfl, ?_⟩
            clear hK K
            iterate 3 (first | (apply seqL_skip; (focus (simp only [List.getElem?_toArray, List.getElem?_cons_succ, List.getElem?_cons_zero]; rfl)); (focus rfl); simp only [Act.put, List.setIfInBounds_toArray, List.set_cons_zero, List.set_cons_succ]) | (apply seqL_take; (focus (simp only [List.getElem?_toArray, List.getElem?_cons_succ, List.getElem?_cons_zero]; rfl)); (focus rfl); (focus (intro w' hS; subst hS; first | (go_simp; rfl) | (go_simp; done))); simp only [Act.put, List.setIfInBounds_toArray, List.set_cons_zero, List.set_cons_succ]))
            apply seqL_eff
            (focus (simp only [List.getElem?_toArray, List.getElem?_cons_succ, List.getElem?_cons_zero]; rfl))
            (focus rfl)
            intro K hK
            go_simp
            refine hK _ _ ⟨fun h => absurd rfl h, ?_⟩
            clear hK K
            refine seqL_nil ?_
            have hMs := hMk.set_ i (.int .u32 (word bs i (3 + 1)))
            rw [HS.out] at hMs
            have hDs := grow_set hDk i (.int .u32 (word bs i (3 + 1)))
            have hDt : w.grownBy (wr.setCell ⟨mb, i, none⟩ (.int .u32 (word bs i (3 + 1)))).drew (some mb) := ⟨hDs.os, hDs.tape, hDs.output, hDs.size, hDs.block⟩
            have hE : bits .or .u32 wd (IntKind.u32.wrap (IntKind.u32.wrap bx * 2 ^ min (IntKind.i64.wrap 24).toNat 32)) = word bs i (3 + 1) := HW.out.symm
            rw [hE]
            clear cb cM fM hw0 hw1 hpl hE HW HS HQ1 HP
            have hMt : Blk (wr.setCell ⟨mb, i, none⟩ (.int .u32 (word bs i (3 + 1)))).drew mb 365 (mvals bs i (3 + 1)) := hMs
            generalize (wr.setCell ⟨mb, i, none⟩ (.int .u32 (word bs i (3 + 1)))).drew = W7 at hDt hMt ⊢
            clear hMs hDk hMk hDs
            go_wp2_with fail
            go_roundw
            case rel => exact ⟨3 + 1, by go_num, by omega, hDt, hMt⟩
            case measure => simp [intOf]
        · obtain rfl : k = 4 := by omega
          go_wp2_with fail
          go_roundw
          case rel => exact ⟨i + 1, by go_num, by omega, hDk, by rw [← mvals_next]; exact hMk⟩
          case measure => simp [intOf]; omega
    · obtain rfl : i = 16 := by omega
      go_wp2_with fail
      exact hexit _ _ _ _ _ _ _ _ _ _ _ _ _ _ _ _ _ _ _ _ _ _ _ _ _ _ _ hM hD
def finX (H V : List Int) (j : Nat) : Int := bits .xor .u32 (H.getD j 0) (bits .xor .u32 (V.getD j 0) (V.getD (j + 8) 0))
def finV (H V : List Int) (k : Nat) : List Int := (List.range 8).map fun j => if j < k then finX H V j else H.getD j 0
theorem finV_len (H V : List Int) (k : Nat) : (finV H V k).length = 8 := by simp [finV]
theorem finV_zero (H V : List Int) (h : H.length = 8) : finV H V 0 = H := by
  apply List.ext_getElem?
  intro j
  by_cases hj : j < 8
  · simp [finV, List.getElem?_map, List.getElem?_range, hj, List.getElem?_eq_getElem (show j < H.length by omega)]
  · rw [List.getElem?_eq_none (by rw [finV_len]; omega), List.getElem?_eq_none (by omega)]
theorem finV_at (H V : List Int) {k : Nat} (h : k < 8) : (finV H V k).getD k 0 = H.getD k 0 := by
  rw [List.getD_eq_getElem?_getD]
  simp [finV, List.getElem?_map, List.getElem?_range, h]
theorem finV_set (H V : List Int) {k : Nat} (h : k < 8) : (finV H V k).set k (finX H V k) = finV H V (k + 1) := by
  apply List.ext_getElem?
  intro j
  rw [List.getElem?_set]
  by_cases hj : k = j
  · subst hj
    rw [if_pos rfl, if_pos (by rw [finV_len]; exact h)]
    simp [finV, List.getElem?_map, List.getElem?_range, h]
  · rw [if_neg hj]
    by_cases h8 : j < 8
    · have : (j < k + 1) = (j < k) := by rw [eq_iff_iff]; omega
      simp [finV, List.getElem?_map, List.getElem?_range, h8, this]
    · rw [List.getElem?_eq_none (by rw [finV_len]; omega), List.getElem?_eq_none (by rw [finV_len]; omega)]
set_option maxHeartbeats 4000000 in
theorem last_loop {c0 c1 c2 c3 c5 c6 c7 c8 c10 c11 c12 c13 c14 c15 c16 c17 c18 c19 c20 c21 c22 c23 c24 c25 c26 c27 c28 c29 c30 c31 c32 c33 c34 c35 c36 c37 c38 c39 c40 c41 c42 c43 c44 c45 c46 c47 c48 c49 c50 c51 c52 c53 c54 c55 c56 c57 c58 c59 c60 c61 c62 c63 c64 c65 c66 c67 c68 c69 c70 c71 c72 c73 c74 c75 c76 c77 c78 c79 c80 c81 c82 c83 c84 c85 c86 c87 c88 c89 c90 c91 c92 c93 c94 c95 c96 c97 c98 c99 c100 c101 c102 c103 c105 c106 c107 c108 c109 c110 c111 c112 c113 c114 c115 c116 c117 c118 c119 c120 c121 : Value} (hb vb : Nat) (H V : List Int) (w : World) (Q0 : Exit → Act → World → Prop) (hQ : ∀ (d : Tmp) (v : Value) (c : List PanicEntry) (a : Act) (w : World), Q0 (.panic c) { a with tmps := a.tmps.setIfInBounds d v } w → Q0 (.panic c) a w)
    (hH : Blk w hb 329 (eU (finV H V 0))) (hV : Blk w vb 366 (eU V)) (hVl : V.length = 16) (hhv : hb ≠ vb)
    (hexit : ∀ (u19 u104 u105 u106 u107 u108 u109 u110 u111 u112 u113 u114 u115 u116 u117 u118 u119 u120 : Value) (w' : World), Blk w' hb 329 (eU (finV H V 8)) → w.grownBy w' (some hb) → Q0 (.exit 8) ⟨(c0 :: c1 :: c2 :: c3 :: .pointer (some ⟨hb, 0, none⟩) :: c5 :: c6 :: c7 :: c8 :: .pointer (some ⟨vb, 0, none⟩) :: c10 :: c11 :: c12 :: c13 :: c14 :: c15 :: c16 :: c17 :: c18 :: u19 :: c20 :: c21 :: c22 :: c23 :: c24 :: c25 :: c26 :: c27 :: c28 :: c29 :: c30 :: c31 :: c32 :: c33 :: c34 :: c35 :: c36 :: c37 :: c38 :: c39 :: c40 :: c41 :: c42 :: c43 :: c44 :: c45 :: c46 :: c47 :: c48 :: c49 :: c50 :: c51 :: c52 :: c53 :: c54 :: c55 :: c56 :: c57 :: c58 :: c59 :: c60 :: c61 :: c62 :: c63 :: c64 :: c65 :: c66 :: c67 :: c68 :: c69 :: c70 :: c71 :: c72 :: c73 :: c74 :: c75 :: c76 :: c77 :: c78 :: c79 :: c80 :: c81 :: c82 :: c83 :: c84 :: c85 :: c86 :: c87 :: c88 :: c89 :: c90 :: c91 :: c92 :: c93 :: c94 :: c95 :: c96 :: c97 :: c98 :: c99 :: c100 :: c101 :: c102 :: c103 :: u104 :: u105 :: u106 :: u107 :: u108 :: u109 :: u110 :: u111 :: u112 :: u113 :: u114 :: u115 :: u116 :: u117 :: u118 :: u119 :: u120 :: c121 :: []).toArray, []⟩ w') :
    Code.wp Tryz.prog (blkLoop 4) Q0 ⟨(c0 :: c1 :: c2 :: c3 :: .pointer (some ⟨hb, 0, none⟩) :: c5 :: c6 :: c7 :: c8 :: .pointer (some ⟨vb, 0, none⟩) :: c10 :: c11 :: c12 :: c13 :: c14 :: c15 :: c16 :: c17 :: c18 :: c19 :: c20 :: c21 :: c22 :: c23 :: c24 :: c25 :: c26 :: c27 :: c28 :: c29 :: c30 :: c31 :: c32 :: c33 :: c34 :: c35 :: c36 :: c37 :: c38 :: c39 :: c40 :: c41 :: c42 :: c43 :: c44 :: c45 :: c46 :: c47 :: c48 :: c49 :: c50 :: c51 :: c52 :: c53 :: c54 :: c55 :: c56 :: c57 :: c58 :: c59 :: c60 :: c61 :: c62 :: c63 :: c64 :: c65 :: c66 :: c67 :: c68 :: c69 :: c70 :: c71 :: c72 :: c73 :: c74 :: c75 :: c76 :: c77 :: c78 :: c79 :: c80 :: c81 :: c82 :: c83 :: c84 :: c85 :: c86 :: c87 :: c88 :: c89 :: c90 :: c91 :: c92 :: c93 :: c94 :: c95 :: c96 :: c97 :: c98 :: c99 :: c100 :: c101 :: c102 :: c103 :: .int .i64 0 :: c105 :: c106 :: c107 :: c108 :: c109 :: c110 :: c111 :: c112 :: c113 :: c114 :: c115 :: c116 :: c117 :: c118 :: c119 :: c120 :: c121 :: []).toArray, []⟩ w := by
  have HQ := Lib.hid hQ
  clear hQ
  have HVL := Lib.hid hVl
  clear hVl
  conv => arg 2; whnf
  go_loopw [104] (fun iv wr => ∃ i : Nat, iv = .int .i64 (i : Int) ∧ i ≤ 8 ∧ w.grownBy wr (some hb) ∧ Blk wr hb 329 (eU (finV H V i))) (fun iv _ => 8 - (intOf iv).toNat)
  case atStart => exact ⟨0, rfl, by omega, World.grownBy.refl w _, hH⟩
  case round =>
    obtain ⟨i, rfl, hi, hg, hHr⟩ := hrel
    by_cases hlt : i < 8
    · have hVr := hV.kept hg (by intro e; injection e with e; exact hhv e.symm)
      have HX := Lib.hid hexit
      clear hexit
      have HS := Lib.hid (finV_set H V hlt)
      have HF : Hid (finX H V i = bits .xor .u32 (H.getD i 0) (bits .xor .u32 (V.getD i 0) (V.getD (i + 8) 0))) := rfl
      have c0 := hHr.drew.cell i
      rw [eU_at _ (by rw [finV_len]; exact hlt), finV_at H V hlt] at c0
      have c1 := hVr.drew.cell i
      have c2 := hVr.drew.cell (i + 8)
      rw [eU_at _ (by rw [HVL.out]; omega)] at c1 c2
      have f0 := hHr.drew.frozen i
      obtain ⟨p, hp⟩ : ∃ p, p = i + 8 := ⟨_, rfl⟩
      rw [← hp] at c2 HF
      have hw : IntKind.i64.wrap ((i : Int) + 8) = (p : Int) := by rw [IntKind.wrap_i64]; omega
      have hp16 : (p : Int) < 16 := by omega
      have hi8 : (i : Int) < 8 := by omega
      have hi16 : (i : Int) < 16 := by omega
      have HP := Lib.hid hp
      clear hp hH
      generalize H.getD i 0 = x0 at *
      generalize V.getD i 0 = x1 at *
      generalize V.getD p 0 = x2 at *
      go_wp2_with fail
      refine wp_region_last [(true, 0), (true, 1), (true, 2), (true, 3), (true, 4), (true, 5), (true, 6), (true, 7), (true, 8), (true, 9), (true, 10), (true, 11), (true, 12), (false, 13)] 13 (fun w' => w' = wr.drew) (by kernel_rfl) (by kernel_rfl) (by kernel_rfl) (fun d v c a w h => HQ.out d v c a w h) (by kernel_rfl) (by kernel_rfl) ?_ ?_
      · rfl
      iterate 13 (first | (apply seqL_skip; (focus (simp only [List.getElem?_toArray, List.getElem?_cons_succ, List.getElem?_cons_zero]; rfl)); (focus rfl); simp only [Act.put, List.setIfInBounds_toArray, List.set_cons_zero, List.set_cons_succ]) | (apply seqL_take; (focus (simp only [List.getElem?_toArray, List.getElem?_cons_succ, List.getElem?_cons_zero]; rfl)); (focus rfl); (focus (intro w' hS; subst hS; first | (go_simp; rfl) | (go_simp; done))); simp only [Act.put, List.setIfInBounds_toArray, List.set_cons_zero, List.set_cons_succ]))
      apply seqL_eff
      (focus (simp only [List.getElem?_toArray, List.getElem?_cons_succ, List.getElem?_cons_zero]; rfl))
      (focus rfl)
      intro K hK
      go_simp
      refine hK _ _ ⟨fun h => absurd rfl h, ?_⟩
      clear hK K
      refine seqL_nil ?_
      rw [← HF.out]
      have hMs := hHr.set_ i (.int .u32 (finX H V i))
      rw [eU_set, HS.out] at hMs
      have hDs := grow_set hg i (.int .u32 (finX H V i))
      have hDt : w.grownBy (wr.setCell ⟨hb, i, none⟩ (.int .u32 (finX H V i))).drew (some hb) := ⟨hDs.os, hDs.tape, hDs.output, hDs.size, hDs.block⟩
      have hMt : Blk (wr.setCell ⟨hb, i, none⟩ (.int .u32 (finX H V i))).drew hb 329 (eU (finV H V (i + 1))) := hMs
      clear c0 c1 c2 f0 hw hMs hDs hg hHr hVr HF HS HP hp16
      generalize (wr.setCell ⟨hb, i, none⟩ (.int .u32 (finX H V i))).drew = W7 at hDt hMt ⊢
      go_wp2_with fail
      go_roundw
      case rel => exact ⟨i + 1, by go_num, by omega, hDt, hMt⟩
      case measure => simp [intOf]; omega
    · obtain rfl : i = 8 := by omega
      go_wp2_with fail
      exact hexit _ _ _ _ _ _ _ _ _ _ _ _ _ _ _ _ _ _ _ hHr hg
end Go.Proofs.YtgjfhgcjiglfkaaGreatDoor
