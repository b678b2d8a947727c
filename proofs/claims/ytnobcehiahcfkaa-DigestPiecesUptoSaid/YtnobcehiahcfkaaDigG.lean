/- digest: the loop over lines. -/
import Derived.Test.YtnobcehiahcfkaaDigF
namespace Go.Proofs.Ytnobcehiahcfkaa
set_option maxRecDepth 20000
open Go.RowKit
theorem list16 (L : List Nat) (h : L.length = 16) : ∃ l0 l1 l2 l3 l4 l5 l6 l7 l8 l9 l10 l11 l12 l13 l14 l15, L = [l0, l1, l2, l3, l4, l5, l6, l7, l8, l9, l10, l11, l12, l13, l14, l15] := by
  match L, h with
  | [l0, l1, l2, l3, l4, l5, l6, l7, l8, l9, l10, l11, l12, l13, l14, l15], _ => exact ⟨l0, l1, l2, l3, l4, l5, l6, l7, l8, l9, l10, l11, l12, l13, l14, l15, rfl⟩
set_option maxHeartbeats 4000000 in
theorem lines_loop {c0 c1 c2 c3 c4 c5 c6 c7 c8 c10 c12 c13 c15 c16 c17 c18 c19 c20 c21 c22 c23 c24 c25 c26 c27 c28 c29 c30 c31 c32 c33 c34 c35 c36 c37 c38 c39 c40 c41 c42 c43 c44 c45 c46 c47 c48 c49 c50 c51 c52 c53 c54 c55 c56 c57 c58 c59 c60 c61 c62 c63 c64 c65 c66 c67 c68 c69 c70 c71 c72 c73 c74 c75 c76 c77 c80 c81 c82 c83 c84 c85 c86 c87 c88 c89 c90 c91 c92 c93 c94 c95 c96 c97 c98 c99 c100 c101 c102 c103 c104 c105 c106 c107 c108 c109 c110 c111 c112 c113 c114 c115 c116 c117 c118 c119 c120 c121 : Value} (CC PP : Array Value) (hCC : ∀ (i : Nat), i < 10 → ∀ w : World, (Instr.index 132 (.agg CC) (.int .i64 (i : Int))).run Try.prog w = .ok (.agg (eB (linesL.getD i []))) w)
    (hPP : ∀ (i : Nat), i < 8 → ∀ w : World, (Instr.index 130 (.agg PP) (.int .i64 (i : Int))).run Try.prog w = .ok (.agg (plcA i)) w) (hPi : ((Try.prog).info? 130).map (·.size) = some PP.size)
    (vb mb pb : Nat) (M V : List Int) (w : World) (Q0 : Exit → Act → World → Prop) (hQ : ∀ (d : Tmp) (v : Value) (c : List PanicEntry) (a : Act) (w : World), Q0 (.panic c) { a with tmps := a.tmps.setIfInBounds d v } w → Q0 (.panic c) a w)
    (hM : Blk w mb 126 (eU M)) (hP : Blk w pb 130 PP) (hV : Blk w vb 127 (eU V))
    (hMl : M.length = 16) (hVl : V.length = 16) (hvm : vb ≠ mb) (hvp : vb ≠ pb)
    (hexit : ∀ (u16 u17 u18 u79 u80 u81 u82 u83 u84 u85 u86 u87 u88 u89 u90 u91 u92 u93 u94 u95 u96 u97 u98 u99 u100 u101 u102 u103 : Value) (w' : World), Blk w' vb 127 (eU (allV M V 10)) → w.grownBy w' (some vb) → Q0 (.exit 4) ⟨(c0 :: c1 :: c2 :: c3 :: c4 :: c5 :: c6 :: c7 :: c8 :: .pointer (some ⟨vb, 0, none⟩) :: c10 :: .pointer (some ⟨mb, 0, none⟩) :: c12 :: c13 :: .pointer (some ⟨pb, 0, none⟩) :: c15 :: u16 :: u17 :: u18 :: c19 :: c20 :: c21 :: c22 :: c23 :: c24 :: c25 :: c26 :: c27 :: c28 :: c29 :: c30 :: c31 :: c32 :: c33 :: c34 :: c35 :: c36 :: c37 :: c38 :: c39 :: c40 :: c41 :: c42 :: c43 :: c44 :: c45 :: c46 :: c47 :: c48 :: c49 :: c50 :: c51 :: c52 :: c53 :: c54 :: c55 :: c56 :: c57 :: c58 :: c59 :: c60 :: c61 :: c62 :: c63 :: c64 :: c65 :: c66 :: c67 :: c68 :: c69 :: c70 :: c71 :: c72 :: c73 :: c74 :: c75 :: c76 :: c77 :: .agg CC :: u79 :: u80 :: u81 :: u82 :: u83 :: u84 :: u85 :: u86 :: u87 :: u88 :: u89 :: u90 :: u91 :: u92 :: u93 :: u94 :: u95 :: u96 :: u97 :: u98 :: u99 :: u100 :: u101 :: u102 :: u103 :: c104 :: c105 :: c106 :: c107 :: c108 :: c109 :: c110 :: c111 :: c112 :: c113 :: c114 :: c115 :: c116 :: c117 :: c118 :: c119 :: c120 :: c121 :: []).toArray, []⟩ w') :
    Code.wp Try.prog (blkLoop 2) Q0 ⟨(c0 :: c1 :: c2 :: c3 :: c4 :: c5 :: c6 :: c7 :: c8 :: .pointer (some ⟨vb, 0, none⟩) :: c10 :: .pointer (some ⟨mb, 0, none⟩) :: c12 :: c13 :: .pointer (some ⟨pb, 0, none⟩) :: c15 :: c16 :: c17 :: c18 :: c19 :: c20 :: c21 :: c22 :: c23 :: c24 :: c25 :: c26 :: c27 :: c28 :: c29 :: c30 :: c31 :: c32 :: c33 :: c34 :: c35 :: c36 :: c37 :: c38 :: c39 :: c40 :: c41 :: c42 :: c43 :: c44 :: c45 :: c46 :: c47 :: c48 :: c49 :: c50 :: c51 :: c52 :: c53 :: c54 :: c55 :: c56 :: c57 :: c58 :: c59 :: c60 :: c61 :: c62 :: c63 :: c64 :: c65 :: c66 :: c67 :: c68 :: c69 :: c70 :: c71 :: c72 :: c73 :: c74 :: c75 :: c76 :: c77 :: .agg CC :: .int .i64 0 :: c80 :: c81 :: c82 :: c83 :: c84 :: c85 :: c86 :: c87 :: c88 :: c89 :: c90 :: c91 :: c92 :: c93 :: c94 :: c95 :: c96 :: c97 :: c98 :: c99 :: c100 :: c101 :: c102 :: c103 :: c104 :: c105 :: c106 :: c107 :: c108 :: c109 :: c110 :: c111 :: c112 :: c113 :: c114 :: c115 :: c116 :: c117 :: c118 :: c119 :: c120 :: c121 :: []).toArray, []⟩ w := by
  have HQ := Lib.hid hQ
  clear hQ
  have HP := Lib.hid hPP
  clear hPP
  have HC := Lib.hid hCC
  clear hCC
  have HI := Lib.hid hPi
  clear hPi
  have HM := Lib.hid hMl
  have HV := Lib.hid hVl
  clear hMl hVl
  conv => arg 2; whnf
  go_loopw [79] (fun iv wr => ∃ i : Nat, iv = .int .i64 (i : Int) ∧ i ≤ 10 ∧ Blk wr vb 127 (eU (allV M V i)) ∧ w.grownBy wr (some vb)) (fun iv _ => 10 - (intOf iv).toNat)
  case atStart => exact ⟨0, rfl, by omega, hV, World.grownBy.refl w _⟩
  case round =>
    obtain ⟨i, rfl, hi, hVr, hgr⟩ := hrel
    by_cases hlt : i < 10
    · have hMr := hM.kept hgr (by intro e; injection e with e; exact hvm e.symm)
      have hPr := hP.kept hgr (by intro e; injection e with e; exact hvp e.symm)
      have HS := Lib.hid (allV_succ M V i)
      have HRL : Hid ((allV M V i).length = 16) := (allV_len M V i).trans HV.out
      have HX := Lib.hid hexit
      clear hM hP hV hexit
      have HLN := Lib.hid (lines_len i hlt)
      have hix := HC.out i hlt
      have HST : Hid (allV M V (i + 1) = runV (linesL.getD i []) M (allV M V i) 8) := HS.out
      clear HS
      generalize allV M V i = R at hVr HST HRL
      generalize linesL.getD i [] = L at hix HLN HST
      obtain ⟨l0, l1, l2, l3, l4, l5, l6, l7, l8, l9, l10, l11, l12, l13, l14, l15, hL⟩ := list16 L HLN.out.1
      have hLe : eB L = #[.int .u8 (l0 : Int), .int .u8 (l1 : Int), .int .u8 (l2 : Int), .int .u8 (l3 : Int), .int .u8 (l4 : Int), .int .u8 (l5 : Int), .int .u8 (l6 : Int), .int .u8 (l7 : Int), .int .u8 (l8 : Int), .int .u8 (l9 : Int), .int .u8 (l10 : Int), .int .u8 (l11 : Int), .int .u8 (l12 : Int), .int .u8 (l13 : Int), .int .u8 (l14 : Int), .int .u8 (l15 : Int)] := by rw [hL]; rfl
      have HLE := Lib.hid hLe
      rw [hLe] at hix
      clear hL hLe
      have hli : (i : Int) < 10 := by omega
      go_wp2_with (refine wpList_load_row rfl 130 (.tmp 14) rfl pb rfl 130 PP (0, 0) _ ((hPr.alloc _) : Blk _ pb _ PP) Try.underlying130 rfl HI.out ?_)
      refine places_loop PP HP.out vb mb wr.heap.size L M R _ _ ?hQ (hMr.alloc _) (by rw [HLE.out]; exact Blk.new wr _ _) (hVr.alloc _) HM.out HLN.out.1 HRL.out HLN.out.2 hvm (Nat.ne_of_lt hVr.lt) ?hexit
      case hQ => exact fun d v c a w h => HQ.out d v c a w h
      case hexit =>
        intro u17 u18 u83 u84 u85 u86 u87 u88 u89 u90 u91 u92 u93 u94 u95 u96 u97 u98 u99 u100 u101 u102 w2 hB2 hg2
        rw [← HST.out] at hB2
        have hg3 := (hgr.andThen (World.grownBy_alloc wr (.cells #[.int .u8 (l0 : Int), .int .u8 (l1 : Int), .int .u8 (l2 : Int), .int .u8 (l3 : Int), .int .u8 (l4 : Int), .int .u8 (l5 : Int), .int .u8 (l6 : Int), .int .u8 (l7 : Int), .int .u8 (l8 : Int), .int .u8 (l9 : Int), .int .u8 (l10 : Int), .int .u8 (l11 : Int), .int .u8 (l12 : Int), .int .u8 (l13 : Int), .int .u8 (l14 : Int), .int .u8 (l15 : Int)] 131) none) (fun _ e => by cases e)).andThen hg2 (fun j hj => .inr hj)
        clear hix HST HLN HLE hMr hPr hVr hgr hg2
        go_wp2_with fail
        go_roundw
        case rel => exact ⟨i + 1, by go_num, by omega, hB2, hg3⟩
        case measure => simp [intOf]; omega
    · obtain rfl : i = 10 := by omega
      go_wp2_with fail
      exact hexit _ _ _ _ _ _ _ _ _ _ _ _ _ _ _ _ _ _ _ _ _ _ _ _ _ _ _ _ _ hVr hgr
end Go.Proofs.Ytnobcehiahcfkaa
