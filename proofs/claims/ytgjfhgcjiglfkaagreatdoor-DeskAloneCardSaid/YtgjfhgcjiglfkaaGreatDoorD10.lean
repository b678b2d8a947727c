import Derived.Test.YtgjfhgcjiglfkaaGreatDoorD9
import Derived.Test.YtgjfhgcjiglfkaaGreatDoorD4
import Derived.Maps.AppendAt
import Derived.RangeFuncBox
import Derived.Test.YtgjfhgcjiglfkaaGreatDoorD1
set_option linter.unusedVariables false
set_option linter.unusedSimpArgs false
namespace Go.Proofs.YtgjfhgcjiglfkaaGreatDoor
set_option maxRecDepth 20000
open Go.RowKit
def pad64 (r : List UInt8) : List UInt8 := r ++ List.replicate (64 - r.length) 0
theorem pad64_len (r : List UInt8) (h : r.length ≤ 64) : (pad64 r).length = 64 := by simp [pad64]; omega
def rowB (l : List UInt8) : Array Value := (l.map bv).toArray
theorem rowB_nil : rowB (pad64 []) = #[.int .u8 0, .int .u8 0, .int .u8 0, .int .u8 0, .int .u8 0, .int .u8 0, .int .u8 0, .int .u8 0, .int .u8 0, .int .u8 0, .int .u8 0, .int .u8 0, .int .u8 0, .int .u8 0, .int .u8 0, .int .u8 0, .int .u8 0, .int .u8 0, .int .u8 0, .int .u8 0, .int .u8 0, .int .u8 0, .int .u8 0, .int .u8 0, .int .u8 0, .int .u8 0, .int .u8 0, .int .u8 0, .int .u8 0, .int .u8 0, .int .u8 0, .int .u8 0, .int .u8 0, .int .u8 0, .int .u8 0, .int .u8 0, .int .u8 0, .int .u8 0, .int .u8 0, .int .u8 0, .int .u8 0, .int .u8 0, .int .u8 0, .int .u8 0, .int .u8 0, .int .u8 0, .int .u8 0, .int .u8 0, .int .u8 0, .int .u8 0, .int .u8 0, .int .u8 0, .int .u8 0, .int .u8 0, .int .u8 0, .int .u8 0, .int .u8 0, .int .u8 0, .int .u8 0, .int .u8 0, .int .u8 0, .int .u8 0, .int .u8 0, .int .u8 0] := by kernel_rfl
theorem copy_in (w : World) (n0 g : Nat) (v : Value) (r : List UInt8) (ty : TypeId) (hb : Blk w g 334 (rowB (pad64 []))) (ho : OwnB w n0 5 v r) (hr : r.length ≤ 64) :
    (Builtin.copy_ #[135, 135] ty #[.slice (some ⟨g, 0, none⟩) 64 64, v]).run Tryz.prog w = .ok (.int .i64 (r.length : Int)) (w.setRow g (rowB (pad64 r))) := by
  rcases ho.form with ⟨rfl, rfl⟩ | ⟨b, off, cap, rfl, hc⟩
  · rw [run_copy_nil Tryz.prog w _ _ ty _ _ 64 64 Tryz.underlying135 (by kernel_rfl), setRow_self w g _ _ _ hb]
    rfl
  · rw [run_copy_row Tryz.prog w _ _ ty 5 g 0 64 64 ⟨b, off, none⟩ r.length cap (rowB (pad64 [])) 334 (r.map bv) Tryz.underlying135 (by kernel_rfl) hb (by rw [List.length_map]; exact (Nat.min_eq_left hr).symm) (by
      intro j u hj
      rw [List.getElem?_map] at hj
      cases hcj : r[j]? with
      | none => rw [hcj] at hj; cases hj
      | some c =>
        rw [hcj] at hj
        cases hj
        rw [Addr.add_lit]
        exact ho.cells j c hcj) (by rw [List.length_map]; show 0 + r.length ≤ (rowB (pad64 [])).size; simp [rowB, pad64]; omega) (by simp [bv, Value.oneCell'])]
    have e1 : ((rowB (pad64 [])).toList.take 0 ++ r.map bv ++ (rowB (pad64 [])).toList.drop (0 + (r.map bv).length)).toArray = rowB (pad64 r) := by
      simp only [rowB, pad64, List.length_nil, Nat.sub_zero, List.nil_append, List.take_zero, List.length_map, Nat.zero_add, List.map_append, List.map_replicate, List.drop_replicate]
    rw [e1, List.length_map]
    rfl
def byteOf (x : Int) : UInt8 := UInt8.ofNat (x % 256).toNat
theorem byteOf_wrap (x : Int) : IntKind.u8.wrap x = ((byteOf x).toNat : Int) := by
  rw [IntKind.wrap_u8]
  unfold byteOf
  rw [UInt8.toNat_ofNat']
  have : (x % 256).toNat < 256 := by omega
  rw [Nat.mod_eq_of_lt (by simpa using this)]
  omega
def le4 (x : Int) : List UInt8 := [byteOf x, byteOf (x / 256), byteOf (x / 65536), byteOf (x / 16777216)]
def finB (H : List Int) (m : Nat) (r : List UInt8) : List UInt8 := (blockF H (bsI (pad64 r)) ((m + r.length : Nat) : Int) true).flatMap le4
noncomputable def sumLoop : Code := (lps (Tryz.f207.body.getD .skip)).getD 0 .skip
theorem eU_ix (X : List Int) (h8 : X.length = 8) (i : Nat) (h : i < 8) (w : World) : (Instr.index 329 (.agg (eU X)) (.int .i64 (i : Int))).run Tryz.prog w = .ok (.int .u32 (X.getD i 0)) w := by
  obtain ⟨x0, x1, x2, x3, x4, x5, x6, x7, rfl⟩ := list8 X h8
  have hc : i = 0 ∨ i = 1 ∨ i = 2 ∨ i = 3 ∨ i = 4 ∨ i = 5 ∨ i = 6 ∨ i = 7 := by omega
  rcases hc with rfl | rfl | rfl | rfl | rfl | rfl | rfl | rfl <;> (show _ = _; kernel_rfl)
theorem take_le4 (X : List Int) (i : Nat) (h : i < X.length) : (X.take (i + 1)).flatMap le4 = (X.take i).flatMap le4 ++ le4 (X.getD i 0) := by
  rw [List.take_add_one, List.getElem?_eq_getElem h, Option.toList_some, List.flatMap_append, List.flatMap_singleton, List.getD_eq_getElem?_getD, List.getElem?_eq_getElem h]
  rfl
theorem le4_len (X : List Int) : (X.flatMap le4).length = 4 * X.length := by
  induction X with
  | nil => rfl
  | cons x X ih => rw [List.flatMap_cons, List.length_append, ih, List.length_cons]; simp [le4]; omega
set_option maxHeartbeats 1000000 in
theorem sum_loop {c0 c1 c2 c3 c4 c5 c7 c8 c9 c10 c11 c12 c13 c14 c15 c16 c17 c18 c19 c20 c21 c22 c23 c24 c25 c26 c27 c30 c31 c32 c33 c34 c35 c36 c37 c38 c39 c40 c41 c42 c43 c44 c45 c46 c47 c48 : Value} (B : Nat) (X : List Int) (hX : X.length = 8) (w : World) (hB : B ≤ w.heap.size) (Q0 : Exit → Act → World → Prop)
    (hexit : ∀ (u6 u8 u29 u30 u31 u32 u33 u34 u35 u36 u37 u38 u39 u40 u41 u42 u43 u44 u45 u46 : Value) (w' : World), Owns w' B 5 1 eb u6 (X.flatMap le4) → Below B w w' → Q0 (.exit 0) ⟨(c0 :: c1 :: c2 :: c3 :: c4 :: c5 :: u6 :: c7 :: u8 :: c9 :: c10 :: c11 :: c12 :: c13 :: c14 :: c15 :: c16 :: c17 :: c18 :: c19 :: c20 :: c21 :: c22 :: c23 :: c24 :: c25 :: c26 :: c27 :: .agg (eU X) :: u29 :: u30 :: u31 :: u32 :: u33 :: u34 :: u35 :: u36 :: u37 :: u38 :: u39 :: u40 :: u41 :: u42 :: u43 :: u44 :: u45 :: u46 :: c47 :: c48 :: []).toArray, []⟩ w') :
    Code.wp Tryz.prog sumLoop Q0 ⟨(c0 :: c1 :: c2 :: c3 :: c4 :: c5 :: .slice none 0 0 :: c7 :: c8 :: c9 :: c10 :: c11 :: c12 :: c13 :: c14 :: c15 :: c16 :: c17 :: c18 :: c19 :: c20 :: c21 :: c22 :: c23 :: c24 :: c25 :: c26 :: c27 :: .agg (eU X) :: .int .i64 0 :: c30 :: c31 :: c32 :: c33 :: c34 :: c35 :: c36 :: c37 :: c38 :: c39 :: c40 :: c41 :: c42 :: c43 :: c44 :: c45 :: c46 :: c47 :: c48 :: []).toArray, []⟩ w := by
  have HX := Lib.hid hX
  clear hX
  conv => arg 2; whnf
  go_loopw [6, 29] (fun o iv wr => ∃ i : Nat, iv = .int .i64 (i : Int) ∧ i ≤ 8 ∧ Owns wr B 5 1 eb o ((X.take i).flatMap le4) ∧ Below B w wr) (fun _ iv _ => 8 - (intOf iv).toNat)
  case atStart => exact ⟨0, rfl, by omega, Owns.nil .., Below.refl _ _⟩
  case round =>
    obtain ⟨i, rfl, hi, hO, hbe⟩ := hrel
    by_cases hlt : i < 8
    · have hix := eU_ix X HX.out i hlt
      have HT := Lib.hid (take_le4 X i (by rw [HX.out]; exact hlt))
      have HL : Hid (((X.take i).flatMap le4).length = 4 * i) := by show _ = _; rw [le4_len, List.length_take, HX.out]; omega
      have HE := Lib.hid hexit
      clear hexit
      generalize X.getD i 0 = x at hix HT
      have hw0 := byteOf_wrap x
      have hw1 := byteOf_wrap (x / 256)
      have hw2 := byteOf_wrap (x / 65536)
      have hw3 := byteOf_wrap (x / 16777216)
      have HO := Lib.hid hO
      have hli : (i : Int) < 8 := by omega
      clear hO
      have hb0 := bel_size hbe hB
      generalize (X.take i).flatMap le4 = L at *
      have hL8 : L.length ≤ 32 := by have := HL.out; omega
      go_wp2_with (at_builtin; go_must (refine wpList_append_owns rfl (.tmp 32) (.tmp 44) _ rfl B 5 (.int .u8 0) 1 1 eb Tryz.underlying135 byteInfo rfl (by decide) _ L rfl (HO.out.alloc _) ⟨wr.heap.size, 0, none⟩ 4 4 (le4 x) rfl rfl rfl (by rw [eb_map]; exact new_cells _ [bv (byteOf x), bv (byteOf (x / 256)), bv (byteOf (x / 65536)), bv (byteOf (x / 16777216))] _) (eb_one _) (by simp only [maxLen]; omega) (by omega) (hb0 _) ?_); intro v3 w3 hown3 hg3)
      go_roundw
      case rel => exact ⟨i + 1, by go_num, hlt, by rw [HT.out]; exact hown3, bel_append hbe hB HO.out hg3⟩
      case measure => simp [intOf]; omega
    · obtain rfl : i = 8 := by omega
      rw [List.take_of_length_le (by rw [HX.out]; omega)] at hO
      go_wp2_with fail
      exact hexit _ _ _ _ _ _ _ _ _ _ _ _ _ _ _ _ _ _ _ _ _ hO hbe
set_option maxHeartbeats 4000000 in
theorem sumH_any (n0 p m : Nat) (H : List Int) (r : List UInt8) (w : World) (hh : Hsh w n0 p H m r) (hr : r.length ≤ 64) (hlen : m + r.length ≤ 140737488355200) :
    Calls Tryz.prog 207 #[.pointer (some ⟨p, 0, none⟩)] w fun e w' => e = .returned (.string (mkS (finB H m r))) ∧ Below w.heap.size w w' := by
  obtain ⟨h0, h1, h2, h3, h4, h5, h6, h7, v, hH, hb, ho⟩ := hh
  have hB0 : Blk (w.alloc (.cells #[.int .u8 0, .int .u8 0, .int .u8 0, .int .u8 0, .int .u8 0, .int .u8 0, .int .u8 0, .int .u8 0, .int .u8 0, .int .u8 0, .int .u8 0, .int .u8 0, .int .u8 0, .int .u8 0, .int .u8 0, .int .u8 0, .int .u8 0, .int .u8 0, .int .u8 0, .int .u8 0, .int .u8 0, .int .u8 0, .int .u8 0, .int .u8 0, .int .u8 0, .int .u8 0, .int .u8 0, .int .u8 0, .int .u8 0, .int .u8 0, .int .u8 0, .int .u8 0, .int .u8 0, .int .u8 0, .int .u8 0, .int .u8 0, .int .u8 0, .int .u8 0, .int .u8 0, .int .u8 0, .int .u8 0, .int .u8 0, .int .u8 0, .int .u8 0, .int .u8 0, .int .u8 0, .int .u8 0, .int .u8 0, .int .u8 0, .int .u8 0, .int .u8 0, .int .u8 0, .int .u8 0, .int .u8 0, .int .u8 0, .int .u8 0, .int .u8 0, .int .u8 0, .int .u8 0, .int .u8 0, .int .u8 0, .int .u8 0, .int .u8 0, .int .u8 0] 334)) w.heap.size 334 (rowB (pad64 [])) := by rw [rowB_nil]; exact Blk.new w _ _
  have hS0 : Below w.heap.size w (w.alloc (.cells #[.int .u8 0, .int .u8 0, .int .u8 0, .int .u8 0, .int .u8 0, .int .u8 0, .int .u8 0, .int .u8 0, .int .u8 0, .int .u8 0, .int .u8 0, .int .u8 0, .int .u8 0, .int .u8 0, .int .u8 0, .int .u8 0, .int .u8 0, .int .u8 0, .int .u8 0, .int .u8 0, .int .u8 0, .int .u8 0, .int .u8 0, .int .u8 0, .int .u8 0, .int .u8 0, .int .u8 0, .int .u8 0, .int .u8 0, .int .u8 0, .int .u8 0, .int .u8 0, .int .u8 0, .int .u8 0, .int .u8 0, .int .u8 0, .int .u8 0, .int .u8 0, .int .u8 0, .int .u8 0, .int .u8 0, .int .u8 0, .int .u8 0, .int .u8 0, .int .u8 0, .int .u8 0, .int .u8 0, .int .u8 0, .int .u8 0, .int .u8 0, .int .u8 0, .int .u8 0, .int .u8 0, .int .u8 0, .int .u8 0, .int .u8 0, .int .u8 0, .int .u8 0, .int .u8 0, .int .u8 0, .int .u8 0, .int .u8 0, .int .u8 0, .int .u8 0] 334)) := (Below.refl _ w).alloc (Nat.le_refl _) _
  have ho0 := ho.alloc (.cells #[.int .u8 0, .int .u8 0, .int .u8 0, .int .u8 0, .int .u8 0, .int .u8 0, .int .u8 0, .int .u8 0, .int .u8 0, .int .u8 0, .int .u8 0, .int .u8 0, .int .u8 0, .int .u8 0, .int .u8 0, .int .u8 0, .int .u8 0, .int .u8 0, .int .u8 0, .int .u8 0, .int .u8 0, .int .u8 0, .int .u8 0, .int .u8 0, .int .u8 0, .int .u8 0, .int .u8 0, .int .u8 0, .int .u8 0, .int .u8 0, .int .u8 0, .int .u8 0, .int .u8 0, .int .u8 0, .int .u8 0, .int .u8 0, .int .u8 0, .int .u8 0, .int .u8 0, .int .u8 0, .int .u8 0, .int .u8 0, .int .u8 0, .int .u8 0, .int .u8 0, .int .u8 0, .int .u8 0, .int .u8 0, .int .u8 0, .int .u8 0, .int .u8 0, .int .u8 0, .int .u8 0, .int .u8 0, .int .u8 0, .int .u8 0, .int .u8 0, .int .u8 0, .int .u8 0, .int .u8 0, .int .u8 0, .int .u8 0, .int .u8 0, .int .u8 0] 334)
  have hz0 : (w.alloc (.cells #[.int .u8 0, .int .u8 0, .int .u8 0, .int .u8 0, .int .u8 0, .int .u8 0, .int .u8 0, .int .u8 0, .int .u8 0, .int .u8 0, .int .u8 0, .int .u8 0, .int .u8 0, .int .u8 0, .int .u8 0, .int .u8 0, .int .u8 0, .int .u8 0, .int .u8 0, .int .u8 0, .int .u8 0, .int .u8 0, .int .u8 0, .int .u8 0, .int .u8 0, .int .u8 0, .int .u8 0, .int .u8 0, .int .u8 0, .int .u8 0, .int .u8 0, .int .u8 0, .int .u8 0, .int .u8 0, .int .u8 0, .int .u8 0, .int .u8 0, .int .u8 0, .int .u8 0, .int .u8 0, .int .u8 0, .int .u8 0, .int .u8 0, .int .u8 0, .int .u8 0, .int .u8 0, .int .u8 0, .int .u8 0, .int .u8 0, .int .u8 0, .int .u8 0, .int .u8 0, .int .u8 0, .int .u8 0, .int .u8 0, .int .u8 0, .int .u8 0, .int .u8 0, .int .u8 0, .int .u8 0, .int .u8 0, .int .u8 0, .int .u8 0, .int .u8 0] 334)).heap.size = w.heap.size + 1 := by simp
  obtain ⟨M, hM⟩ : ∃ M, M = m + r.length := ⟨_, rfl⟩
  have hwr : IntKind.u64.wrap (r.length : Int) = (r.length : Int) := by rw [IntKind.wrap_u64]; omega
  have hwM : IntKind.u64.wrap ((m : Int) + (r.length : Int)) = (M : Int) := by rw [IntKind.wrap_u64]; omega
  have HF : Hid (finB H m r = (blockF [h0, h1, h2, h3, h4, h5, h6, h7] (bsI (pad64 r)) (M : Int) true).flatMap le4) := by show _ = _; rw [hM]; unfold finB; rw [hH]
  have HRL := Lib.hid hr
  clear hM hr hlen hH
  go_enter Tryz.func207, Tryz.ntmps207
  go_wp2_with fail
  generalize w.alloc (.cells #[.int .u8 0, .int .u8 0, .int .u8 0, .int .u8 0, .int .u8 0, .int .u8 0, .int .u8 0, .int .u8 0, .int .u8 0, .int .u8 0, .int .u8 0, .int .u8 0, .int .u8 0, .int .u8 0, .int .u8 0, .int .u8 0, .int .u8 0, .int .u8 0, .int .u8 0, .int .u8 0, .int .u8 0, .int .u8 0, .int .u8 0, .int .u8 0, .int .u8 0, .int .u8 0, .int .u8 0, .int .u8 0, .int .u8 0, .int .u8 0, .int .u8 0, .int .u8 0, .int .u8 0, .int .u8 0, .int .u8 0, .int .u8 0, .int .u8 0, .int .u8 0, .int .u8 0, .int .u8 0, .int .u8 0, .int .u8 0, .int .u8 0, .int .u8 0, .int .u8 0, .int .u8 0, .int .u8 0, .int .u8 0, .int .u8 0, .int .u8 0, .int .u8 0, .int .u8 0, .int .u8 0, .int .u8 0, .int .u8 0, .int .u8 0, .int .u8 0, .int .u8 0, .int .u8 0, .int .u8 0, .int .u8 0, .int .u8 0, .int .u8 0, .int .u8 0] 334) = W0 at hB0 hS0 ho0 hz0 ⊢
  refine wp_region_mid [(true, 0), (true, 1), (true, 2), (true, 3), (true, 4), (false, 5), (true, 6)] 5 (fun w' => Below w.heap.size w w') (by kernel_rfl) (by kernel_rfl) (by kernel_rfl) (fun _ _ _ _ _ h => h) (by kernel_rfl) (by kernel_rfl) ?_ ?_
  · exact hS0.drew
  iterate 5 (first | (apply seqM_skip; (focus (simp only [List.getElem?_toArray, List.getElem?_cons_succ, List.getElem?_cons_zero]; rfl)); (focus rfl); simp only [Act.put, List.setIfInBounds_toArray, List.set_cons_zero, List.set_cons_succ]) | (apply seqM_take; (focus (simp only [List.getElem?_toArray, List.getElem?_cons_succ, List.getElem?_cons_zero]; rfl)); (focus rfl); (focus (intro w' hS; have hS := hS (by decide); have hq := hb.below hS hb.lt; have y0 := hq.cell 0; have y1 := hq.cell 1; have y2 := hq.cell 2; have y3 := hq.cell 3; have y4 := hq.cell 4; have y5 := hq.cell 5; have y6 := hq.cell 6; have y7 := hq.cell 7; have y8 := hq.cell 8; have y9 := hq.cell 9; first | (go_simp; rfl) | (go_simp; done))); simp only [Act.put, List.setIfInBounds_toArray, List.set_cons_zero, List.set_cons_succ]))
  apply seqM_eff
  (focus (simp only [List.getElem?_toArray, List.getElem?_cons_succ, List.getElem?_cons_zero]; rfl))
  (focus rfl)
  intro K hK
  go_simp
  rw [copy_in W0.drew n0 w.heap.size v r _ hB0.drew ho0.drew HRL.out]
  go_simp
  have hS1 : Below w.heap.size w (W0.drew.setRow w.heap.size (rowB (pad64 r))) := below_setRow hS0.drew (Nat.le_refl _) _
  have hB1 : Blk (W0.drew.setRow w.heap.size (rowB (pad64 r))) w.heap.size 334 (rowB (pad64 r)) := setRow_heap _ _ _ _ _ _ hB0
  have hz1 : (W0.drew.setRow w.heap.size (rowB (pad64 r))).heap.size = w.heap.size + 1 := by simp; exact hz0
  refine hK _ _ ?_
  clear hK K
  generalize W0.drew.setRow w.heap.size (rowB (pad64 r)) = W1 at hB1 hS1 hz1 ⊢
  iterate 1 (first | (apply seqM_skip; (focus (simp only [List.getElem?_toArray, List.getElem?_cons_succ, List.getElem?_cons_zero]; rfl)); (focus rfl); simp only [Act.put, List.setIfInBounds_toArray, List.set_cons_zero, List.set_cons_succ]) | (apply seqM_take; (focus (simp only [List.getElem?_toArray, List.getElem?_cons_succ, List.getElem?_cons_zero]; rfl)); (focus rfl); (focus (intro w' hS; skip; first | (go_simp; rfl) | (go_simp; done))); simp only [Act.put, List.setIfInBounds_toArray, List.set_cons_zero, List.set_cons_succ]))
  refine seqM_nil ?_
  clear hB0 hS0 ho0 hz0
  go_wp2_with fail
  have HBC : Hid (∀ W', Below W1.heap.size W1 W' → ∀ j x, (bsI (pad64 r))[j]? = some x → W'.cell? ⟨w.heap.size, 0 + j, none⟩ = some (.int .u8 x)) := by
    intro W' hW' j x hj
    rw [Nat.zero_add]
    refine ((hB1.below hW' hB1.lt).cell j).trans ?_
    unfold bsI at hj
    rw [List.getElem?_map] at hj
    unfold rowB
    rw [List.getElem?_toArray, List.getElem?_map]
    cases hc : (pad64 r)[j]? with
    | none => rw [hc] at hj; cases hj
    | some c => rw [hc] at hj; cases hj; rfl
  have HBL : Hid ((bsI (pad64 r)).length = 64) := (bsI_len _).trans (pad64_len r HRL.out)
  generalize bsI (pad64 r) = BS at HBC HBL HF
  have HXL : Hid ((blockF [h0, h1, h2, h3, h4, h5, h6, h7] BS (M : Int) true).length = 8) := blockF_len ..
  obtain ⟨x0, x1, x2, x3, x4, x5, x6, x7, hX⟩ := list8 _ HXL.out
  have HXX := Lib.hid hX
  rw [hX] at HF
  clear hX HXL
  refine wp_region_plan (.take 0 (.take 1 (.take 2 (.take 3 (.take 4 (.take 5 (.take 6 (.take 7 (.take 8 (.take 9 (.take 10 (.take 11 (.two 12 (.eff 13 (.eff 14 .nil)) 13 (.eff 12 (.eff 14 .nil))))))))))))))) (fun w' => Below w.heap.size w w') (by kernel_rfl) (by kernel_rfl) (fun _ _ _ _ _ h => h) (by kernel_rfl) (by kernel_rfl) hS1.drew ?_
  iterate 12 (first | (apply seqP_skip; (focus (simp only [List.getElem?_toArray, List.getElem?_cons_succ, List.getElem?_cons_zero]; rfl)); (focus rfl); simp only [Act.put, List.setIfInBounds_toArray, List.set_cons_zero, List.set_cons_succ]) | (apply seqP_take; (focus (simp only [List.getElem?_toArray, List.getElem?_cons_succ, List.getElem?_cons_zero]; rfl)); (focus rfl); (focus (intro w' hS; have hq := hb.below hS hb.lt; have y0 := hq.cell 0; have y1 := hq.cell 1; have y2 := hq.cell 2; have y3 := hq.cell 3; have y4 := hq.cell 4; have y5 := hq.cell 5; have y6 := hq.cell 6; have y7 := hq.cell 7; have y8 := hq.cell 8; have y9 := hq.cell 9; first | (go_simp; rfl) | (go_simp; done))); simp only [Act.put, List.setIfInBounds_toArray, List.set_cons_zero, List.set_cons_succ]))
  apply seqP_two
  (focus (simp only [List.getElem?_toArray, List.getElem?_cons_succ, List.getElem?_cons_zero]; rfl))
  (focus (simp only [List.getElem?_toArray, List.getElem?_cons_succ, List.getElem?_cons_zero]; rfl))
  (focus rfl)
  (focus rfl)
  · intro K hK
    go_simp
    go_at_call 262
    refine (block_last h0 h1 h2 h3 h4 h5 h6 h7 w.heap.size 0 64 BS (M : Int) _ HBL.out (HBC.out _ (Below.refl _ W1).drew)).mono ?_
    rintro e w2 ⟨rfl, b2⟩
    rw [show blockF [h0, h1, h2, h3, h4, h5, h6, h7] BS (M : Int) true = [x0, x1, x2, x3, x4, x5, x6, x7] from HXX.out]
    rw [show eU [x0, x1, x2, x3, x4, x5, x6, x7] = #[.int .u32 x0, .int .u32 x1, .int .u32 x2, .int .u32 x3, .int .u32 x4, .int .u32 x5, .int .u32 x6, .int .u32 x7] from rfl]
    have sA : Below w.heap.size w w2 := hS1.drew.trans (b2.mono (by show w.heap.size ≤ W1.heap.size; omega))
    refine hK _ _ ⟨sA, ?_⟩
    clear hK K
    apply seqP_eff
    (focus (simp only [List.getElem?_toArray, List.getElem?_cons_succ, List.getElem?_cons_zero]; rfl))
    (focus rfl)
    intro K hK
    go_simp
    have sB := sA.alloc sA.size (.cells #[.int .u32 0, .int .u32 0, .int .u32 0, .int .u32 0, .int .u32 0, .int .u32 0, .int .u32 0, .int .u32 0] 329)
    refine hK _ _ ⟨sB, ?_⟩
    clear hK K
    apply seqP_eff
    (focus (simp only [List.getElem?_toArray, List.getElem?_cons_succ, List.getElem?_cons_zero]; rfl))
    (focus rfl)
    intro K hK
    go_simp
    have sC := sA.alloc sA.size (.cells #[.int .u32 x0, .int .u32 x1, .int .u32 x2, .int .u32 x3, .int .u32 x4, .int .u32 x5, .int .u32 x6, .int .u32 x7] 329)
    refine hK _ _ ⟨sC, ?_⟩
    clear hK K sB
    refine seqP_nil ?_
    have hBN : Blk (w2.alloc (.cells #[.int .u32 x0, .int .u32 x1, .int .u32 x2, .int .u32 x3, .int .u32 x4, .int .u32 x5, .int .u32 x6, .int .u32 x7] 329)) w2.heap.size 329 #[.int .u32 x0, .int .u32 x1, .int .u32 x2, .int .u32 x3, .int .u32 x4, .int .u32 x5, .int .u32 x6, .int .u32 x7] := Blk.new w2 _ _
    clear b2
    generalize (w2.alloc (.cells #[.int .u32 x0, .int .u32 x1, .int .u32 x2, .int .u32 x3, .int .u32 x4, .int .u32 x5, .int .u32 x6, .int .u32 x7] 329)) = W5 at sC hBN ⊢
    generalize w2.heap.size = q5 at hBN ⊢
    have k0 := hBN.cell 0
    have k1 := hBN.cell 1
    have k2 := hBN.cell 2
    have k3 := hBN.cell 3
    have k4 := hBN.cell 4
    have k5 := hBN.cell 5
    have k6 := hBN.cell 6
    have k7 := hBN.cell 7
    go_wp2_with fail
    refine sum_loop w.heap.size [x0, x1, x2, x3, x4, x5, x6, x7] rfl W5 sC.size _ ?_
    intro u6 u8 u29 u30 u31 u32 u33 u34 u35 u36 u37 u38 u39 u40 u41 u42 u43 u44 u45 u46 W6 hO6 hb6
    have hcv := conv_own hO6
    have HB6 := Lib.hid (sC.trans hb6)
    clear hO6 hb6 sC k0 k1 k2 k3 k4 k5 k6 k7 hBN
    go_wp2_with fail
    go_ret
    rw [HF.out]
    exact ⟨rfl, HB6.out⟩
  · intro K hK
    go_simp
    have sB := hS1.drew.alloc (by show w.heap.size ≤ W1.heap.size; omega) (.cells #[.int .u32 0, .int .u32 0, .int .u32 0, .int .u32 0, .int .u32 0, .int .u32 0, .int .u32 0, .int .u32 0] 329)
    have hbl : Below W1.heap.size W1 (W1.drew.alloc (.cells #[.int .u32 0, .int .u32 0, .int .u32 0, .int .u32 0, .int .u32 0, .int .u32 0, .int .u32 0, .int .u32 0] 329)) := (Below.refl _ W1).drew.alloc (Nat.le_refl _) _
    refine hK _ _ ⟨sB, ?_⟩
    clear hK K
    apply seqP_eff
    (focus (simp only [List.getElem?_toArray, List.getElem?_cons_succ, List.getElem?_cons_zero]; rfl))
    (focus rfl)
    intro K hK
    go_simp
    go_at_call 262
    refine (block_last h0 h1 h2 h3 h4 h5 h6 h7 w.heap.size 0 64 BS (M : Int) _ HBL.out (HBC.out _ hbl)).mono ?_
    rintro e w2 ⟨rfl, b2⟩
    rw [show blockF [h0, h1, h2, h3, h4, h5, h6, h7] BS (M : Int) true = [x0, x1, x2, x3, x4, x5, x6, x7] from HXX.out]
    rw [show eU [x0, x1, x2, x3, x4, x5, x6, x7] = #[.int .u32 x0, .int .u32 x1, .int .u32 x2, .int .u32 x3, .int .u32 x4, .int .u32 x5, .int .u32 x6, .int .u32 x7] from rfl]
    have hq : Blk w2 (w.heap.size + 1) 329 #[.int .u32 0, .int .u32 0, .int .u32 0, .int .u32 0, .int .u32 0, .int .u32 0, .int .u32 0, .int .u32 0] := by
      have := (Blk.new W1.drew 329 #[.int .u32 0, .int .u32 0, .int .u32 0, .int .u32 0, .int .u32 0, .int .u32 0, .int .u32 0, .int .u32 0]).below b2 (Blk.new _ _ _).lt
      rwa [show W1.drew.heap.size = w.heap.size + 1 from hz1] at this
    have sD : Below w.heap.size w w2 := sB.trans (b2.mono (by rw [World.size_alloc]; show w.heap.size ≤ W1.heap.size + 1; omega))
    refine hK _ _ ⟨sD, ?_⟩
    clear hK K
    apply seqP_eff
    (focus (simp only [List.getElem?_toArray, List.getElem?_cons_succ, List.getElem?_cons_zero]; rfl))
    (focus rfl)
    intro K hK
    have y0 := hq.cell 0
    have z0 := hq.frozen 0
    have y1 := hq.cell 1
    have z1 := hq.frozen 1
    have y2 := hq.cell 2
    have z2 := hq.frozen 2
    have y3 := hq.cell 3
    have z3 := hq.frozen 3
    have y4 := hq.cell 4
    have z4 := hq.frozen 4
    have y5 := hq.cell 5
    have z5 := hq.frozen 5
    have y6 := hq.cell 6
    have z6 := hq.frozen 6
    have y7 := hq.cell 7
    have z7 := hq.frozen 7
    go_simp
    have k0 : Blk (w2.setCell ⟨w.heap.size + 1, 0, none⟩ (.int .u32 x0)) (w.heap.size + 1) 329 #[.int .u32 x0, .int .u32 0, .int .u32 0, .int .u32 0, .int .u32 0, .int .u32 0, .int .u32 0, .int .u32 0] := hq.set_ 0 (.int .u32 x0)
    have k1 : Blk ((w2.setCell ⟨w.heap.size + 1, 0, none⟩ (.int .u32 x0)).setCell ⟨w.heap.size + 1, 1, none⟩ (.int .u32 x1)) (w.heap.size + 1) 329 #[.int .u32 x0, .int .u32 x1, .int .u32 0, .int .u32 0, .int .u32 0, .int .u32 0, .int .u32 0, .int .u32 0] := k0.set_ 1 (.int .u32 x1)
    have k2 : Blk (((w2.setCell ⟨w.heap.size + 1, 0, none⟩ (.int .u32 x0)).setCell ⟨w.heap.size + 1, 1, none⟩ (.int .u32 x1)).setCell ⟨w.heap.size + 1, 2, none⟩ (.int .u32 x2)) (w.heap.size + 1) 329 #[.int .u32 x0, .int .u32 x1, .int .u32 x2, .int .u32 0, .int .u32 0, .int .u32 0, .int .u32 0, .int .u32 0] := k1.set_ 2 (.int .u32 x2)
    have k3 : Blk ((((w2.setCell ⟨w.heap.size + 1, 0, none⟩ (.int .u32 x0)).setCell ⟨w.heap.size + 1, 1, none⟩ (.int .u32 x1)).setCell ⟨w.heap.size + 1, 2, none⟩ (.int .u32 x2)).setCell ⟨w.heap.size + 1, 3, none⟩ (.int .u32 x3)) (w.heap.size + 1) 329 #[.int .u32 x0, .int .u32 x1, .int .u32 x2, .int .u32 x3, .int .u32 0, .int .u32 0, .int .u32 0, .int .u32 0] := k2.set_ 3 (.int .u32 x3)
    have k4 : Blk (((((w2.setCell ⟨w.heap.size + 1, 0, none⟩ (.int .u32 x0)).setCell ⟨w.heap.size + 1, 1, none⟩ (.int .u32 x1)).setCell ⟨w.heap.size + 1, 2, none⟩ (.int .u32 x2)).setCell ⟨w.heap.size + 1, 3, none⟩ (.int .u32 x3)).setCell ⟨w.heap.size + 1, 4, none⟩ (.int .u32 x4)) (w.heap.size + 1) 329 #[.int .u32 x0, .int .u32 x1, .int .u32 x2, .int .u32 x3, .int .u32 x4, .int .u32 0, .int .u32 0, .int .u32 0] := k3.set_ 4 (.int .u32 x4)
    have k5 : Blk ((((((w2.setCell ⟨w.heap.size + 1, 0, none⟩ (.int .u32 x0)).setCell ⟨w.heap.size + 1, 1, none⟩ (.int .u32 x1)).setCell ⟨w.heap.size + 1, 2, none⟩ (.int .u32 x2)).setCell ⟨w.heap.size + 1, 3, none⟩ (.int .u32 x3)).setCell ⟨w.heap.size + 1, 4, none⟩ (.int .u32 x4)).setCell ⟨w.heap.size + 1, 5, none⟩ (.int .u32 x5)) (w.heap.size + 1) 329 #[.int .u32 x0, .int .u32 x1, .int .u32 x2, .int .u32 x3, .int .u32 x4, .int .u32 x5, .int .u32 0, .int .u32 0] := k4.set_ 5 (.int .u32 x5)
    have k6 : Blk (((((((w2.setCell ⟨w.heap.size + 1, 0, none⟩ (.int .u32 x0)).setCell ⟨w.heap.size + 1, 1, none⟩ (.int .u32 x1)).setCell ⟨w.heap.size + 1, 2, none⟩ (.int .u32 x2)).setCell ⟨w.heap.size + 1, 3, none⟩ (.int .u32 x3)).setCell ⟨w.heap.size + 1, 4, none⟩ (.int .u32 x4)).setCell ⟨w.heap.size + 1, 5, none⟩ (.int .u32 x5)).setCell ⟨w.heap.size + 1, 6, none⟩ (.int .u32 x6)) (w.heap.size + 1) 329 #[.int .u32 x0, .int .u32 x1, .int .u32 x2, .int .u32 x3, .int .u32 x4, .int .u32 x5, .int .u32 x6, .int .u32 0] := k5.set_ 6 (.int .u32 x6)
    have hbB : Blk ((((((((w2.setCell ⟨w.heap.size + 1, 0, none⟩ (.int .u32 x0)).setCell ⟨w.heap.size + 1, 1, none⟩ (.int .u32 x1)).setCell ⟨w.heap.size + 1, 2, none⟩ (.int .u32 x2)).setCell ⟨w.heap.size + 1, 3, none⟩ (.int .u32 x3)).setCell ⟨w.heap.size + 1, 4, none⟩ (.int .u32 x4)).setCell ⟨w.heap.size + 1, 5, none⟩ (.int .u32 x5)).setCell ⟨w.heap.size + 1, 6, none⟩ (.int .u32 x6)).setCell ⟨w.heap.size + 1, 7, none⟩ (.int .u32 x7)) (w.heap.size + 1) 329 #[.int .u32 x0, .int .u32 x1, .int .u32 x2, .int .u32 x3, .int .u32 x4, .int .u32 x5, .int .u32 x6, .int .u32 x7] := k6.set_ 7 (.int .u32 x7)
    have sC : Below w.heap.size w ((((((((w2.setCell ⟨w.heap.size + 1, 0, none⟩ (.int .u32 x0)).setCell ⟨w.heap.size + 1, 1, none⟩ (.int .u32 x1)).setCell ⟨w.heap.size + 1, 2, none⟩ (.int .u32 x2)).setCell ⟨w.heap.size + 1, 3, none⟩ (.int .u32 x3)).setCell ⟨w.heap.size + 1, 4, none⟩ (.int .u32 x4)).setCell ⟨w.heap.size + 1, 5, none⟩ (.int .u32 x5)).setCell ⟨w.heap.size + 1, 6, none⟩ (.int .u32 x6)).setCell ⟨w.heap.size + 1, 7, none⟩ (.int .u32 x7)) := below_sets (Nat.le_succ _) [.int .u32 x0, .int .u32 x1, .int .u32 x2, .int .u32 x3, .int .u32 x4, .int .u32 x5, .int .u32 x6, .int .u32 x7] 0 w2 sD
    clear y0 z0 y1 z1 y2 z2 y3 z3 y4 z4 y5 z5 y6 z6 y7 z7
    refine hK _ _ ⟨sC, ?_⟩
    clear hK K sB sD hq k0 k1 k2 k3 k4 k5 k6
    refine seqP_nil ?_
    have hBN : Blk ((((((((w2.setCell ⟨w.heap.size + 1, 0, none⟩ (.int .u32 x0)).setCell ⟨w.heap.size + 1, 1, none⟩ (.int .u32 x1)).setCell ⟨w.heap.size + 1, 2, none⟩ (.int .u32 x2)).setCell ⟨w.heap.size + 1, 3, none⟩ (.int .u32 x3)).setCell ⟨w.heap.size + 1, 4, none⟩ (.int .u32 x4)).setCell ⟨w.heap.size + 1, 5, none⟩ (.int .u32 x5)).setCell ⟨w.heap.size + 1, 6, none⟩ (.int .u32 x6)).setCell ⟨w.heap.size + 1, 7, none⟩ (.int .u32 x7)) (w.heap.size + 1) 329 #[.int .u32 x0, .int .u32 x1, .int .u32 x2, .int .u32 x3, .int .u32 x4, .int .u32 x5, .int .u32 x6, .int .u32 x7] := hbB
    clear b2
    generalize ((((((((w2.setCell ⟨w.heap.size + 1, 0, none⟩ (.int .u32 x0)).setCell ⟨w.heap.size + 1, 1, none⟩ (.int .u32 x1)).setCell ⟨w.heap.size + 1, 2, none⟩ (.int .u32 x2)).setCell ⟨w.heap.size + 1, 3, none⟩ (.int .u32 x3)).setCell ⟨w.heap.size + 1, 4, none⟩ (.int .u32 x4)).setCell ⟨w.heap.size + 1, 5, none⟩ (.int .u32 x5)).setCell ⟨w.heap.size + 1, 6, none⟩ (.int .u32 x6)).setCell ⟨w.heap.size + 1, 7, none⟩ (.int .u32 x7)) = W5 at sC hBN ⊢
    generalize (w.heap.size + 1) = q5 at hBN ⊢
    have k0 := hBN.cell 0
    have k1 := hBN.cell 1
    have k2 := hBN.cell 2
    have k3 := hBN.cell 3
    have k4 := hBN.cell 4
    have k5 := hBN.cell 5
    have k6 := hBN.cell 6
    have k7 := hBN.cell 7
    go_wp2_with fail
    refine sum_loop w.heap.size [x0, x1, x2, x3, x4, x5, x6, x7] rfl W5 sC.size _ ?_
    intro u6 u8 u29 u30 u31 u32 u33 u34 u35 u36 u37 u38 u39 u40 u41 u42 u43 u44 u45 u46 W6 hO6 hb6
    have hcv := conv_own hO6
    have HB6 := Lib.hid (sC.trans hb6)
    clear hO6 hb6 sC k0 k1 k2 k3 k4 k5 k6 k7 hBN
    go_wp2_with fail
    go_ret
    rw [HF.out]
    exact ⟨rfl, HB6.out⟩
set_option maxRecDepth 20000
def digB (l : List UInt8) : List UInt8 := finB (absorb H0L 0 l).1 (absorb H0L 0 l).2.1 (absorb H0L 0 l).2.2
theorem finB_len (H : List Int) (m : Nat) (r : List UInt8) : (finB H m r).length = 32 := by
  rw [finB, le4_len, blockF_len]
theorem digB_len (l : List UInt8) : (digB l).length = 32 := finB_len ..
set_option maxHeartbeats 1000000 in
theorem digest_any (s : ByteArray) (w : World) (hs : s.size ≤ 140737488355200) :
    Calls Tryz.prog 146 #[.string s] w fun e w' => e = .returned (.string (mkS (digB (sl s)))) ∧ Below w.heap.size w w' := by
  have HD : Hid (digB (sl s) = finB (absorb H0L 0 ([] ++ sl s)).1 (absorb H0L 0 ([] ++ sl s)).2.1 (absorb H0L 0 ([] ++ sl s)).2.2) := rfl
  have HO := Lib.hid (absorb_ok ([] ++ sl s).length H0L 0 ([] ++ sl s) (Nat.le_refl _) rfl)
  have HL : Hid (([] ++ sl s).length = s.size) := by show _ = _; rw [List.nil_append, sl_len]
  go_enter Tryz.func146, Tryz.ntmps146
  go_wp2_with fail
  refine (newH_any _).mono ?_
  rintro e w1 ⟨p, rfl, hp, hh1, b1⟩
  go_wp2_with fail
  refine (writeH_any _ p 0 H0L [] s w1 hh1 hp (by simp) (by simp; omega)).mono ?_
  rintro e w2 ⟨rfl, hh2, b2⟩
  go_wp2_with fail
  refine (sumH_any _ p _ _ _ w2 hh2 HO.out.2.1 (by have := HO.out.2.2; have := HL.out; omega)).mono ?_
  rintro e w3 ⟨rfl, b3⟩
  have HB := Lib.hid ((b1.trans b2).trans (b3.mono (Nat.le_trans b1.size b2.size)))
  rw [← HD.out]
  go_wp2_with fail
  go_ret
  exact ⟨rfl, HB.out⟩
def hexDig : List UInt8 := [48, 49, 50, 51, 52, 53, 54, 55, 56, 57, 97, 98, 99, 100, 101, 102]
def hx (n : Nat) : UInt8 := hexDig.getD n 0
def hexC (c : UInt8) : List UInt8 := [hx (c.toNat / 16), hx (c.toNat % 16)]
theorem hx_ix (n : Nat) (h : n < 16) (w : World) : (Instr.index 9 (.string { data := #[48, 49, 50, 51, 52, 53, 54, 55, 56, 57, 97, 98, 99, 100, 101, 102] }) (.int .u8 (n : Int))).run Tryz.prog w = .ok (bv (hx n)) w := by
  have hc : n = 0 ∨ n = 1 ∨ n = 2 ∨ n = 3 ∨ n = 4 ∨ n = 5 ∨ n = 6 ∨ n = 7 ∨ n = 8 ∨ n = 9 ∨ n = 10 ∨ n = 11 ∨ n = 12 ∨ n = 13 ∨ n = 14 ∨ n = 15 := by omega
  rcases hc with rfl | rfl | rfl | rfl | rfl | rfl | rfl | rfl | rfl | rfl | rfl | rfl | rfl | rfl | rfl | rfl <;> (show _ = _; kernel_rfl)
theorem hexC_len (l : List UInt8) : (l.flatMap hexC).length = 2 * l.length := by
  induction l with
  | nil => rfl
  | cons x X ih => rw [List.flatMap_cons, List.length_append, ih, List.length_cons]; simp [hexC]; omega
set_option maxHeartbeats 2000000 in
theorem hex_any (s : ByteArray) (w : World) (hs : s.size ≤ 70368744177664) :
    Calls Tryz.prog 145 #[.string s] w fun e w' => e = .returned (.string (mkS ((sl s).flatMap hexC))) ∧ Below w.heap.size w w' := by
  go_enter Tryz.func145, Tryz.ntmps145
  go_wp2_with fail
  go_loopw [3, 7] (fun o iv wr => ∃ i : Nat, iv = .int .i64 (i : Int) ∧ i ≤ s.size ∧ Owns wr w.heap.size 5 1 eb o (((sl s).take i).flatMap hexC) ∧ Below w.heap.size w wr) (fun _ iv _ => s.size - (intOf iv).toNat)
  case atStart => exact ⟨0, rfl, by omega, Owns.nil .., Below.refl _ _⟩
  case round =>
    obtain ⟨i, rfl, hi, hO, hbe⟩ := hrel
    by_cases hlt : i < s.size
    · have HT : Hid (((sl s).take (i + 1)).flatMap hexC = ((sl s).take i).flatMap hexC ++ hexC s[i]) := by
        show _ = _
        rw [take_succ_of (sl_getElem? s i hlt), List.flatMap_append, List.flatMap_singleton]
      have HL : Hid ((((sl s).take i).flatMap hexC).length = 2 * i) := by show _ = _; rw [hexC_len, List.length_take, sl_len]; omega
      have h0 : ∀ w : World, (Instr.index 9 (.string { data := #[48, 49, 50, 51, 52, 53, 54, 55, 56, 57, 97, 98, 99, 100, 101, 102] }) (.int .u8 ((s[i].toNat : Int) / 16))).run Tryz.prog w = .ok (.int .u8 ((hx (s[i].toNat / 16)).toNat : Int)) w := hx_ix (s[i].toNat / 16) (by have := s[i].toNat_lt; omega)
      have h1 : ∀ w : World, (Instr.index 9 (.string { data := #[48, 49, 50, 51, 52, 53, 54, 55, 56, 57, 97, 98, 99, 100, 101, 102] }) (.int .u8 ((s[i].toNat : Int) % 16))).run Tryz.prog w = .ok (.int .u8 ((hx (s[i].toNat % 16)).toNat : Int)) w := hx_ix (s[i].toNat % 16) (by omega)
      have h2 : bits .and .u8 (s[i].toNat : Int) 15 = (s[i].toNat : Int) % 16 := by
        have : ∀ n : Fin 256, bits .and .u8 ((n.val : Nat) : Int) 15 = ((n.val : Nat) : Int) % 16 := by decide +kernel
        exact this ⟨s[i].toNat, s[i].toNat_lt⟩
      have hli : (i : Int) < (s.size : Int) := by omega
      have HO := Lib.hid hO
      clear hO
      generalize ((sl s).take i).flatMap hexC = L at *
      go_wp2_with fail
      refine wp_region_seq [(true, 0), (true, 1), (true, 2), (true, 3), (true, 4), (true, 5), (true, 6), (true, 7), (true, 8), (true, 9), (true, 10), (false, 11), (false, 12), (true, 13)] (fun w' => Below w.heap.size w w') (by kernel_rfl) (by kernel_rfl) (fun _ _ _ _ _ h => h) (by kernel_rfl) (by kernel_rfl) (by first | exact (Below.refl _ _).drew | exact Below.drew (by assumption)) ?_
      have bS : Below w.heap.size w _ := (by first | exact Below.drew (by assumption) | exact (Below.refl _ w).drew)
      iterate 11 (first | (apply seqH_skip; (focus (simp only [List.getElem?_toArray, List.getElem?_cons_succ, List.getElem?_cons_zero]; rfl)); (focus rfl); simp only [Act.put, List.setIfInBounds_toArray, List.set_cons_zero, List.set_cons_succ]) | (apply seqH_take; (focus (simp only [List.getElem?_toArray, List.getElem?_cons_succ, List.getElem?_cons_zero]; rfl)); (focus rfl); (focus (intro w' hS; skip; first | (go_simp; rfl) | (go_simp; done))); simp only [Act.put, List.setIfInBounds_toArray, List.set_cons_zero, List.set_cons_succ]) | (apply seqH_pass; (focus (simp only [List.getElem?_toArray, List.getElem?_cons_succ, List.getElem?_cons_zero]; rfl)); (focus rfl); (focus assumption); simp only [Act.put, List.setIfInBounds_toArray, List.set_cons_zero, List.set_cons_succ]))
      apply seqH_eff
      (focus (simp only [List.getElem?_toArray, List.getElem?_cons_succ, List.getElem?_cons_zero]; rfl))
      (focus rfl)
      intro K hK
      go_simp
      have sB := hbe.drew.alloc (by have := hbe.size; show w.heap.size ≤ wr.heap.size; omega) (.cells #[.int .u8 ((hx (s[i].toNat / 16)).toNat : Int), .int .u8 ((hx (s[i].toNat % 16)).toNat : Int)] 5)
      have HOB := Lib.hid (HO.out.drew.alloc (.cells #[.int .u8 ((hx (s[i].toNat / 16)).toNat : Int), .int .u8 ((hx (s[i].toNat % 16)).toNat : Int)] 5))
      have HNA : Hid (SlR (wr.drew.alloc (.cells #[.int .u8 ((hx (s[i].toNat / 16)).toNat : Int), .int .u8 ((hx (s[i].toNat % 16)).toNat : Int)] 5)) eb (.slice (some ⟨wr.heap.size, 0, none⟩) 2 2) (hexC s[i])) := SlR.lit (enc := eb) wr.drew [bv (hx (s[i].toNat / 16)), bv (hx (s[i].toNat % 16))] 5 (hexC s[i]) rfl
      refine hK _ _ ⟨sB, ?_⟩
      clear hK K
      apply seqH_eff
      (focus (simp only [List.getElem?_toArray, List.getElem?_cons_succ, List.getElem?_cons_zero]; rfl))
      (focus rfl)
      intro K hK
      refine wp_append_owns (.tmp 10) (.tmp 21) _ rfl w.heap.size 5 (.int .u8 0) 1 1 eb Tryz.underlying135 byteInfo rfl (by decide) (fun _ => rfl) _ L rfl HOB.out _ (hexC s[i]) rfl HNA.out (eb_one _) (by have := HL.out; have : (hexC s[i]).length = 2 := rfl; simp only [maxLen]; omega) (by have := HL.out; have : (hexC s[i]).length = 2 := rfl; omega) (by have := hbe.size; simp; omega) ?_
      intro v3 w3 hown3 hg3
      have sC := sB.grown hg3 sB.size (fun k hk => (HOB.out.lt k hk).1)
      have HO3 := Lib.hid hown3
      clear hown3 hg3
      refine hK _ _ ⟨sC, ?_⟩
      clear hK K sB
      iterate 1 (first | (apply seqH_skip; (focus (simp only [List.getElem?_toArray, List.getElem?_cons_succ, List.getElem?_cons_zero]; rfl)); (focus rfl); simp only [Act.put, List.setIfInBounds_toArray, List.set_cons_zero, List.set_cons_succ]) | (apply seqH_take; (focus (simp only [List.getElem?_toArray, List.getElem?_cons_succ, List.getElem?_cons_zero]; rfl)); (focus rfl); (focus (intro w' hS; skip; first | (go_simp; rfl) | (go_simp; done))); simp only [Act.put, List.setIfInBounds_toArray, List.set_cons_zero, List.set_cons_succ]) | (apply seqH_pass; (focus (simp only [List.getElem?_toArray, List.getElem?_cons_succ, List.getElem?_cons_zero]; rfl)); (focus rfl); (focus assumption); simp only [Act.put, List.setIfInBounds_toArray, List.set_cons_zero, List.set_cons_succ]))
      refine seqH_nil ?_
      go_wp2_with fail
      go_roundw
      case rel => exact ⟨i + 1, by go_num, hlt, by rw [HT.out]; exact HO3.out, sC⟩
      case measure => simp [intOf]; omega
    · obtain rfl : i = s.size := by omega
      rw [List.take_of_length_le (by rw [sl_len]; omega)] at hO
      have hcv := conv_own hO
      clear hO
      go_wp2_with fail
      go_ret
      exact ⟨rfl, hbe⟩
set_option maxRecDepth 20000
open Go.RowKit Go.Shelf
attribute [local go_sem] Oper.semAt_some
theorem wpIn_rangeFunc_raw {F : Fence} {n : Nat} {P : Program} {g : Operand} {ps : Array Tmp} {assign body : Code} {Q : Exit → Act → World → Prop} {a : Act} {w : World}
    (hro : F.round = none) (h1 : 1 ≤ n) {gf : Nat} {lb : Array Value} (hg : a.eval g = .func (.func gf) #[] lb) (hFg : F.fn gf) (eg : ∀ args w, (callFunc gf args).run P w = .ok (.enter gf args) w)
    (h : ∀ rec : Loop, F.fn rec.fn → rec.state = .ready → rec.pending = none → rec.tmps = a.tmps → rec.params = ps → rec.assign = assign → rec.body = body →
      CallsIn F (n - 1) P gf (#[.func (.yield (w.heap.size + 1)) #[] #[]] ++ lb) ((w.alloc (.deferred (some []))).alloc (.loop rec)) fun e W2 => (∃ v, e = .returned v) ∧ W2.heap[w.heap.size + 1]? = some (.loop rec) ∧
        Q .normal { a with defers := { target := .collected w.heap.size, args := #[] } :: a.defers } (W2.putObj (w.heap.size + 1) (.loop { rec with state := .exhausted }))) :
    (Code.rangeFunc g ps assign body).wpIn F n P Q a w := by
  refine wpIn_rangeFunc ?_
  intro fn hfn
  rw [hro]
  obtain ⟨rec, hrec⟩ : ∃ rec : Loop, rec = { state := .ready, pending := none, fn, tmps := a.tmps, params := ps, assign, body, defers := w.heap.size } := ⟨_, rfl⟩
  refine ⟨w.heap.size + 1, [{ target := .collected w.heap.size, args := #[] }], (w.alloc (.deferred (some []))).alloc (.loop rec), { target := .fn (.func gf) lb, args := #[.func (.yield (w.heap.size + 1)) #[] #[]] }, (w.alloc (.deferred (some []))).alloc (.loop rec), gf,
    #[.func (.yield (w.heap.size + 1)) #[] #[]] ++ lb, (w.alloc (.deferred (some []))).alloc (.loop rec), ?_, ?_, ?_, ?_, fun _ => h1, ?_⟩
  · rw [hrec]; exact run_enterLoop_outer _ _ _ _ _
  · simp only [resolve, hg]
    simp [go_sem]
  · intro f' hf'; simp [Target.leads] at hf'; subst hf'; exact hFg
  · simp [invoke, go_sem, eg]
  · refine (h rec (by rw [hrec]; exact hfn) (by rw [hrec]) (by rw [hrec]) (by rw [hrec]) (by rw [hrec]) (by rw [hrec]) (by rw [hrec])).mono ?_
    rintro e W2 ⟨⟨v, rfl⟩, hl, hq⟩
    refine ⟨none, _, ?_, hq⟩
    have := run_endLoop (P := P) hl (by rw [hrec]; simp)
    rw [this, hrec]
theorem yieldAt_go {F : Fence} {m D : Nat} {P : Program} {rec : Loop} {W : World} {args : Array Value} {R : Ending → World → Prop} (a₁ : Act) (hF : F.fn rec.fn) (hl : W.heap[D]? = some (.loop rec)) (hr : rec.state = .ready) (hp : rec.pending = none) (hs : args.size = rec.params.size)
    (hassign : ∀ K : Act → World → Prop, K a₁ W → rec.assign.wpIn (F.inRound D) m P (Exit.then K (fun _ _ _ => False)) { tmps := (rec.params.zip args).foldl (fun tmps (t, a) => tmps.setIfInBounds t a) rec.tmps, defers := [] } W)
    (hbody : rec.body.wpIn (F.inRound D) m P (fun e _ W3 => e = .normal ∧ W3.heap[D]? = some (.loop { rec with state := .busy }) ∧ R (.returned (.bool true)) (W3.putObj D (.loop rec))) a₁ (W.putObj D (.loop { rec with state := .busy }))) :
    YieldAt F m P D args W R := yieldAt_of hF hl hr hp hs (hassign _ ⟨hl, hbody⟩)
section
variable {w0 : World} {n0 c qs qc B D : Nat} {s : ByteArray} {rec rec' : Loop} {pre : List (List UInt8)} {W W' : World}
theorem CO.put (h : CO w0 n0 c qs qc B D s rec pre W) (hD : w0.heap.size ≤ D) : CO w0 n0 c qs qc B D s rec' pre (W.putObj (D + 1) (.loop rec')) := by
  have hg := grownBy_put W (D + 1) (.loop rec')
  have ne : ∀ {k : Nat} {t : TypeId} {cs : Array Value}, Blk W k t cs → some k ≠ some (D + 1) := fun {k t cs} hb e => by
    injection e with e
    subst e
    unfold Blk at hb
    rw [h.lr] at hb
    cases hb
  obtain ⟨o, h1, h2⟩ := h.out
  refine ⟨h.bs.kept hg (ne h.bs), h.bc.kept hg (ne h.bc), ⟨o, h1.kept hg (ne h1), h2.grownOther hg ?_⟩, (hg.block _ (heap_lt h.ld) (by simp)).trans h.ld, World.putObj_heap_same (heap_lt h.lr), h.kt.grown h.kt.size hg (fun k hk => .inl (by cases hk; omega)), Nat.le_trans h.sz hg.size⟩
  cases hv : o.ownBlock with
  | none => exact .inl rfl
  | some k => exact .inr fun e => by injection e with e; have := (h2.lt k hv).1; omega
theorem CO.grow {o v' : Value} {w1 : World} {p : List UInt8} (h : CO w0 n0 c qs qc B D s rec pre W) (hw : w0.heap.size ≤ B) (hq : qs < D) (hp : qc < D) (hB : B < D) (hqB : qs ≠ B) (hpB : qc ≠ B) (ho1 : Blk W B 69 #[o]) (ho2 : Owns W (D + 2) 9 1 es o (pre.map mkS))
    (hg : W.grownBy w1 o.ownBlock) (hv : Owns w1 (D + 2) 9 1 es v' ((pre ++ [p]).map mkS)) : CO w0 n0 c qs qc B D s rec (pre ++ [p]) (w1.setCell ⟨B, 0, none⟩ v') := by
  have far : ∀ k, k < D + 2 → some k ≠ o.ownBlock := fun k hk e => by have := (ho2.lt k e.symm).1; omega
  have hb1 : Blk w1 B 69 #[o] := ho1.kept hg (far _ (by omega))
  have hg2 := grownBy_set w1 B 0 v'
  have s1 : ∀ {a b : Nat}, a ≠ b → some a ≠ some b := fun h e => h (by injection e)
  have d1 := (hg.block _ (heap_lt h.ld) (far _ (by omega))).trans h.ld
  have l1 := (hg.block _ (heap_lt h.lr) (far _ (by omega))).trans h.lr
  have k1 := h.kt.grown h.kt.size hg (fun k hk => .inl (by have := (ho2.lt k hk).1; omega))
  refine ⟨(h.bs.kept hg (far _ (by omega))).kept hg2 (s1 hqB), (h.bc.kept hg (far _ (by omega))).kept hg2 (s1 hpB), ⟨v', hb1.set_ 0 v', hv.grownOther hg2 ?_⟩, (hg2.block _ (heap_lt d1) (s1 (by omega))).trans d1, (hg2.block _ (heap_lt l1) (s1 (by omega))).trans l1, k1.grown k1.size hg2 (fun k hk => .inl (by cases hk; exact hw)), Nat.le_trans (Nat.le_trans h.sz hg.size) hg2.size⟩
  cases hv' : v'.ownBlock with
  | none => exact .inl rfl
  | some k => exact .inr (s1 (by have := (hv.lt k hv').1; omega))
theorem Cutter.put {S : Nat} {r : List UInt8} (hc : Cutter W n0 c S r) (h : W.heap[D]? = some (.loop rec)) : Cutter (W.putObj D (.loop rec')) n0 c S r :=
  hc.kept (grownBy_put W D _) (fun k hk => by cases hk; exact obj_notT h (by intros; simp))
end
theorem pieces_make (w : World) (c : Nat) (s : ByteArray) :
    Calls Tryz.prog 260 #[.pointer (some ⟨c, 0, none⟩), .string s] w fun e w' => e = .returned (.func (.func 295) #[] #[.pointer (some ⟨w.heap.size + 1, 0, none⟩), .pointer (some ⟨w.heap.size, 0, none⟩)]) ∧ w' = (w.alloc (.cells #[.pointer (some ⟨c, 0, none⟩)] 280)).alloc (.cells #[.string s] 9) := by
  have hmf : ∀ (fn : Fn) (first cap : Array Value) (w : World), (Instr.makeFunc fn first cap).run Tryz.prog w = .ok (.func fn first cap) w := fun _ _ _ _ => rfl
  go_enter Tryz.func260, Tryz.ntmps260
  go_wp2_with fail
  go_ret
  exact ⟨rfl, rfl⟩
set_option maxHeartbeats 1600000 in
theorem write_any (n0 c S : Nat) (r : List UInt8) (s : ByteArray) (w : World) (hc : Cutter w n0 c S r) (hn0 : n0 ≤ c) (hS : S < 4294967296) (hr : r.length < 128) (hlen : r.length + s.size ≤ 140737488355328) :
    Calls Tryz.prog 203 #[.pointer (some ⟨c, 0, none⟩), .string s] w fun e w' => ∃ v, e = .returned v ∧ Owns w' w.heap.size 9 1 es v ((Pc.cuts gear S r (sl s)).1.map mkS) ∧ Cutter w' n0 c (Pc.cuts gear S r (sl s)).2.1 (Pc.cuts gear S r (sl s)).2.2 ∧ KT n0 w.heap.size w w' := by
  refine (callsIn_wide (n := 4)).1 ?_
  refine callsIn_of_wp_marks Tryz.func203 rfl trivial ?_ rfl
  simp only [Tryz.ntmps203, List.size_toArray, List.length_cons, List.length_nil, Nat.reduceAdd, Nat.reduceSub, Array.replicate_succ, Array.replicate_zero, List.push_toArray, List.append_toArray, List.nil_append, List.cons_append]
  gi_wp2_with (refine ⟨trivial, ?_⟩; gi_at_call 260; refine (callsIn_wide.2 (pieces_make _ _ _)).mono ?_; rintro e w' ⟨rfl, rfl⟩)
  have hB0 : Blk (((w.alloc (.cells #[.slice none 0 0] 69)).alloc (.cells #[.pointer (some ⟨c, 0, none⟩)] 280)).alloc (.cells #[.string s] 9)) w.heap.size 69 #[.slice none 0 0] := ((Blk.new w _ _).alloc _).alloc _
  have hP0 : Blk (((w.alloc (.cells #[.slice none 0 0] 69)).alloc (.cells #[.pointer (some ⟨c, 0, none⟩)] 280)).alloc (.cells #[.string s] 9)) (w.heap.size + 1) 280 #[.pointer (some ⟨c, 0, none⟩)] := by
    have := (Blk.new (w.alloc (.cells #[.slice none 0 0] 69)) 280 #[.pointer (some ⟨c, 0, none⟩)]).alloc (.cells #[.string s] 9)
    rwa [World.size_alloc] at this
  have hS0 : Blk (((w.alloc (.cells #[.slice none 0 0] 69)).alloc (.cells #[.pointer (some ⟨c, 0, none⟩)] 280)).alloc (.cells #[.string s] 9)) (w.heap.size + 1 + 1) 9 #[.string s] := by
    have := Blk.new ((w.alloc (.cells #[.slice none 0 0] 69)).alloc (.cells #[.pointer (some ⟨c, 0, none⟩)] 280)) 9 #[.string s]
    rwa [World.size_alloc, World.size_alloc] at this
  have hb0 : Below w.heap.size w (((w.alloc (.cells #[.slice none 0 0] 69)).alloc (.cells #[.pointer (some ⟨c, 0, none⟩)] 280)).alloc (.cells #[.string s] 9)) := (((Below.refl _ w).alloc (Nat.le_refl _) _).alloc (by simp) _).alloc (by simp; omega) _
  have kt0 : KT n0 w.heap.size w (((w.alloc (.cells #[.slice none 0 0] 69)).alloc (.cells #[.pointer (some ⟨c, 0, none⟩)] 280)).alloc (.cells #[.string s] 9)) := (((KT.refl n0 w.heap.size w).alloc (Nat.le_refl _) _).alloc (by simp) _).alloc (by simp; omega) _
  have hz0 : (((w.alloc (.cells #[.slice none 0 0] 69)).alloc (.cells #[.pointer (some ⟨c, 0, none⟩)] 280)).alloc (.cells #[.string s] 9)).heap.size = w.heap.size + 1 + 1 + 1 := by simp
  have hc0 := hc.kt (Nat.le_refl _) hb0
  generalize ((w.alloc (.cells #[.slice none 0 0] 69)).alloc (.cells #[.pointer (some ⟨c, 0, none⟩)] 280)).alloc (.cells #[.string s] 9) = W0 at *
  refine wpIn_rangeFunc_raw rfl (by decide) (gf := 295) (lb := #[.pointer (some ⟨w.heap.size + 1 + 1, 0, none⟩), .pointer (some ⟨w.heap.size + 1, 0, none⟩)]) rfl trivial (enters_of Tryz.func295 (by kernel_rfl) rfl) ?_
  intro rec hF hst hpe htm hpa has hbo
  have hl1 : ((W0.alloc (.deferred (some []))).alloc (.loop rec)).heap[W0.heap.size + 1]? = some (.loop rec) := by
    have := World.alloc_heap_new (W0.alloc (.deferred (some []))) (.loop rec); rwa [World.size_alloc] at this
  have hd1 : ((W0.alloc (.deferred (some []))).alloc (.loop rec)).heap[W0.heap.size]? = some (.deferred (some [])) :=
    (Below.heap_alloc _ _ _ (by simp)).trans (World.alloc_heap_new W0 _)
  have hco1 : CO w n0 c (w.heap.size + 1 + 1) (w.heap.size + 1) w.heap.size W0.heap.size s rec [] ((W0.alloc (.deferred (some []))).alloc (.loop rec)) :=
    ⟨(hS0.alloc _).alloc _, (hP0.alloc _).alloc _, ⟨_, (hB0.alloc _).alloc _, Owns.nil ..⟩, hd1, hl1, (kt0.alloc kt0.size _).alloc (Nat.le_trans kt0.size (le_alloc _ _)) _, by simp⟩
  have hcu1 : Cutter ((W0.alloc (.deferred (some []))).alloc (.loop rec)) n0 c S r :=
    (hc0.kept (World.grownBy_alloc W0 _ none) (fun _ e => by cases e)).kept (World.grownBy_alloc _ _ none) (fun _ e => by cases e)
  refine (pieces_in w n0 c (w.heap.size + 1 + 1) (w.heap.size + 1) w.heap.size W0.heap.size 3 s rec S r hS hr (by decide) hn0 hlen ?round _ hcu1 hco1).mono ?_
  case round =>
    intro p pre S' r' W hcu hco hpl
    refine yieldAt_go { tmps := #[.pointer (some ⟨c, 0, none⟩), .string s, undef, undef, .slice none 0 0, .pointer (some ⟨w.heap.size, 0, none⟩), .string (mkS p), .pointer (some ⟨c, 0, none⟩), .string s, .func (.func 295) #[] #[.pointer (some ⟨w.heap.size + 1 + 1, 0, none⟩), .pointer (some ⟨w.heap.size + 1, 0, none⟩)], .string (mkS p), undef, undef, undef, undef, undef], defers := [] } hF hco.lr hst hpe (by rw [hpa]; rfl) ?_ ?_
    · intro K hK
      rw [has, htm, hpa]
      gi_wp2
      exact hK
    · have hcb : CO w n0 c (w.heap.size + 1 + 1) (w.heap.size + 1) w.heap.size W0.heap.size s { rec with state := .busy } pre (W.putObj (W0.heap.size + 1) (.loop { rec with state := .busy })) := hco.put (by omega)
      have hub : Cutter (W.putObj (W0.heap.size + 1) (.loop { rec with state := .busy })) n0 c S' r' := hcu.put hco.lr
      generalize W.putObj (W0.heap.size + 1) (.loop { rec with state := .busy }) = Wb at *
      generalize ({ rec with state := .busy } : Loop) = recB at *
      rw [hbo]
      clear hst hpe htm hpa has hbo hcu1 hco1 hl1 hd1 hcu hco
      obtain ⟨o, ho1, ho2⟩ := hcb.out
      have b0 := ho1.cell 0
      obtain ⟨i0, hi, hi0, hi1, hi2⟩ := info_parts stringInfo
      have hrow : Wb.ownsRow (W0.heap.size + 2) 9 1 o (pre.map mkS).length ((pre.map mkS).flatMap es) := ho2
      have hml : (pre.map mkS).length = pre.length := List.length_map ..
      have HZ := Lib.hid hz0
      clear hz0
      gi_wp2_with (gi_at_builtin; refine wpListIn_append_own _ rfl _ _ 69 rfl (W0.heap.size + 2) 9 i0 (.string ByteArray.empty) 1 16 Tryz.underlying69 hi hi0 hi1 hi2 rfl (by decide) _ _ _ rfl (hrow.alloc _) ⟨Wb.heap.size, 0, none⟩ 1 1 [.string (mkS p)] rfl rfl (new_cells _ [.string (mkS p)] _) (by simp [Value.oneCell']) (by rw [hml]; simp only [maxLen]; omega) (by rw [hml]; omega) (by have := hcb.sz; simp; omega) ?_; intro v' w1 hown' hgrow _; obtain ⟨g', cap', rfl⟩ := ownsRow_succ hown'; have hv1 := (ho1.alloc (.cells #[.string (mkS p)] 9)).kept hgrow (by intro e; have := (ho2.lt _ e.symm).1; have := HZ.out; omega); have hc1 := hv1.cell 0; have hf1 := hv1.frozen 0)
      have hco3 := (CO.alloc hcb (.cells #[.string (mkS p)] 9)).grow (p := p) (Nat.le_refl _) (by have := HZ.out; omega) (by have := HZ.out; omega) (by have := HZ.out; omega) (by omega) (by omega) (ho1.alloc _) (ho2.alloc _) hgrow (v' := .slice (some ⟨g', 0, none⟩) (pre.length + 1) cap') (by
        have := hown'
        unfold Owns
        rw [List.map_append, List.length_append, List.flatMap_append]
        simp only [List.map_cons, List.map_nil, List.length_cons, List.length_nil, List.flatMap_cons, List.flatMap_nil, List.append_nil, es, Nat.zero_add, hml] at this ⊢
        exact this)
      have hcu3 : Cutter (w1.setCell ⟨w.heap.size, 0, none⟩ (.slice (some ⟨g', 0, none⟩) (pre.length + 1) cap')) n0 c S' r' :=
        ((hub.kept (World.grownBy_alloc Wb _ none) (fun _ e => by cases e)).kept hgrow (fun k hk => ((ho2.alloc _).notT k hk).2)).kept (grownBy_set _ _ _ _) (fun k hk => by cases hk; exact hv1.notT (by decide))
      exact ⟨hco3.lr, hcu3.put hco3.lr, hco3.put (by have := HZ.out; omega)⟩
  · rintro e W2 ⟨hv, hcu2, hco2⟩
    refine ⟨hv, hco2.lr, ?_⟩
    obtain ⟨o, ho1, ho2⟩ := hco2.out
    have hg := grownBy_put W2 (W0.heap.size + 1) (.loop { rec with state := .exhausted })
    have h1 := ho1.kept hg (by intro e; injection e with e; omega)
    have h2 := ho2.grownOther hg (by
      cases hv : o.ownBlock with
      | none => exact .inl rfl
      | some k => exact .inr fun e => by injection e with e; have := (ho2.lt k hv).1; omega)
    have hK : (W2.putObj (W0.heap.size + 1) (.loop { rec with state := .exhausted })).heap[W0.heap.size]? = some (.deferred (some [])) := (World.putObj_heap_other (by omega)).trans hco2.ld
    have k2 := hco2.kt.grown hco2.kt.size hg (fun k hk => .inl (by cases hk; omega))
    have c2 : Cutter (W2.putObj (W0.heap.size + 1) (.loop { rec with state := .exhausted })) n0 c _ _ := hcu2.put hco2.lr
    have HZ := Lib.hid hz0
    clear hz0
    generalize W2.putObj (W0.heap.size + 1) (.loop { rec with state := .exhausted }) = W3 at *
    have b1 := h1.cell 0
    gi_wp2
    refine ⟨by simp, .inl ⟨_, _, rfl, run_takeDeferred hK, ?_⟩⟩
    have hg4 := grownBy_put W3 W0.heap.size (.deferred none)
    refine ⟨_, results_tmp rfl _ _ _, o, rfl, ?_, c2.kept hg4 (fun k hk => by cases hk; exact obj_notT hK (by intros; simp)), k2.grown k2.size hg4 (fun k hk => .inl (by cases hk; have := HZ.out; omega))⟩
    refine (h2.mono (by have := HZ.out; omega)).grownOther hg4 ?_
    cases hv : o.ownBlock with
    | none => exact .inl rfl
    | some k => exact .inr fun e => by injection e with e; have := (h2.lt k hv).1; omega
set_option maxRecDepth 20000
theorem Owns.ktS {α : Type} {w w' : World} {n0 b s : Nat} {en : α → List Value} {v : Value} {xs : List α} (h : Owns w b 9 s en v xs) (hk : KT n0 w.heap.size w w') : Owns w' b 9 s en v xs := by
  have hn := h.notT
  obtain ⟨h1, h2⟩ := h
  refine ⟨h1, ?_⟩
  rcases h2 with h2 | ⟨g, cap, cur, hv, hb, hh, rest⟩
  · exact .inl h2
  · refine .inr ⟨g, cap, cur, hv, hb, ?_, rest⟩
    exact (hk.block g (heap_lt hh) (.inr (hn g (by rw [hv]; rfl)).2)).trans hh
theorem newC_any (w : World) :
    Calls Tryz.prog 202 #[] w fun e w' => e = .returned (.pointer (some ⟨w.heap.size, 0, none⟩)) ∧ Cutter w' w.heap.size w.heap.size 0 [] ∧ Below w.heap.size w w' ∧ w'.heap.size = w.heap.size + 1 := by
  go_enter Tryz.func202, Tryz.ntmps202
  go_wp2_with fail
  go_ret
  exact ⟨rfl, ⟨_, Blk.new w _ _, Owns.nil ..⟩, (Below.refl _ w).alloc (Nat.le_refl _) _, by simp⟩
theorem endC_any (n0 c S : Nat) (r : List UInt8) (w : World) (hc : Cutter w n0 c S r) (hn0 : n0 ≤ c) :
    Calls Tryz.prog 204 #[.pointer (some ⟨c, 0, none⟩)] w fun e w' => ∃ v, e = .returned v ∧ Owns w' w.heap.size 9 1 es v ((Pc.tl r).map mkS) ∧ Cutter w' n0 c 0 [] ∧ KT n0 w.heap.size w w' := by
  obtain ⟨v, hb, ho⟩ := hc
  have c0 := hb.cell 0
  have c1 := hb.cell 1
  have f0 := hb.frozen 0
  have f1 := hb.frozen 1
  have hcv := conv_own ho
  have hg0 := grownBy_set w c 0 (.int .u32 0)
  have hb0 : Blk (w.setCell ⟨c, 0, none⟩ (.int .u32 0)) c 326 #[.int .u32 0, v] := hb.set_ 0 (.int .u32 0)
  have hb1 : Blk ((w.setCell ⟨c, 0, none⟩ (.int .u32 0)).setCell ⟨c, 1, none⟩ (.slice none 0 0)) c 326 #[.int .u32 0, .slice none 0 0] := hb0.set_ 1 (.slice none 0 0)
  have hg1 := grownBy_set (w.setCell ⟨c, 0, none⟩ (.int .u32 0)) c 1 (.slice none 0 0)
  have k1 := ((KT.refl n0 w.heap.size w).grown (Nat.le_refl _) hg0 (fun k hk => by cases hk; exact .inr ⟨hn0, hb.isT⟩)).grown hg0.size hg1 (fun k hk => by cases hk; exact .inr ⟨hn0, hb0.isT⟩)
  have hz : ((w.setCell ⟨c, 0, none⟩ (.int .u32 0)).setCell ⟨c, 1, none⟩ (.slice none 0 0)).heap.size = w.heap.size := by simp
  by_cases hr : r = []
  · subst hr
    have hm : mkS [] = ByteArray.empty := rfl
    rw [hm] at hcv
    go_enter Tryz.func204, Tryz.ntmps204
    go_wp2_with fail
    go_ret
    exact ⟨_, rfl, Owns.nil .., ⟨_, hb1, Owns.nil ..⟩, k1⟩
  · have hm : (mkS r).toList.isEmpty = false := isEmpty_no _ (by rw [mkS_size]; exact List.length_pos_iff.2 hr)
    have ht : (Pc.tl r).map mkS = [mkS r] := by simp [Pc.tl, hr]
    rw [ht]
    go_enter Tryz.func204, Tryz.ntmps204
    go_wp2_with fail
    go_ret
    refine ⟨_, rfl, ?_, ⟨_, hb1.alloc _, Owns.nil ..⟩, k1.alloc (by rw [hz]; exact Nat.le_refl _) _⟩
    have := Owns.lit (size := 1) (enc := es) ((w.setCell ⟨c, 0, none⟩ (.int .u32 0)).setCell ⟨c, 1, none⟩ (.slice none 0 0)) w.heap.size (e := 9) #[.string (mkS r)] [mkS r] (by rw [hz]; exact Nat.le_refl _) (by simp [maxLen]) rfl rfl
    rw [hz] at this
    exact this
theorem cut_len (s : List UInt8) (h : s.length ≤ 140737488355328) : ((Pc.cuts gear 0 [] s).1.length + (Pc.tl (Pc.cuts gear 0 [] s).2.2).length) * 16 ≤ 140737488355328 := by
  have h1 := flat_ge _ (Pc.cuts_sizes gear 0 [] s (by decide)).1
  have h2 := congrArg List.length (Pc.cuts_flat gear 0 [] s)
  have h3 : (Pc.tl (Pc.cuts gear 0 [] s).2.2).length ≤ (Pc.cuts gear 0 [] s).2.2.length := by
    unfold Pc.tl
    split
    · simp
    · have := List.length_pos_iff.2 ‹_›
      simp only [List.length_cons, List.length_nil]
      omega
  have h4 : (Pc.tl (Pc.cuts gear 0 [] s).2.2).length ≤ 1 := by unfold Pc.tl; split <;> simp
  simp only [List.length_append, List.length_nil, Nat.zero_add] at h2
  generalize (Pc.tl (Pc.cuts gear 0 [] s).2.2).length = a at *
  generalize (Pc.cuts gear 0 [] s).2.2.length = b at *
  generalize (Pc.cuts gear 0 [] s).1.flatten.length = d at *
  generalize (Pc.cuts gear 0 [] s).1.length = f at *
  omega
set_option maxHeartbeats 1000000 in
theorem ckCut_any (s : ByteArray) (w : World) (hs : s.size ≤ 140737488355328) :
    Calls Tryz.prog 143 #[.string s] w fun e w' => ∃ v, e = .returned v ∧ Owns w' w.heap.size 9 1 es v ((Pc.cut gear (sl s)).map mkS) ∧ Below w.heap.size w w' := by
  have HL := Lib.hid (cut_len (sl s) (by rw [sl_len]; exact hs))
  have HT : Hid ((Pc.cut gear (sl s)).map mkS = (Pc.cuts gear 0 [] (sl s)).1.map mkS ++ (Pc.tl (Pc.cuts gear 0 [] (sl s)).2.2).map mkS) := List.map_append ..
  go_enter Tryz.func143, Tryz.ntmps143
  go_wp2_with fail
  refine (newC_any _).mono ?_
  rintro e w1 ⟨rfl, hc1, b1, z1⟩
  go_wp2_with fail
  refine (write_any _ _ _ _ s w1 hc1 (Nat.le_refl _) (by decide) (by decide) (by simp only [List.length_nil, Nat.zero_add]; exact hs)).mono ?_
  rintro e w2 ⟨v2, rfl, ho2, hc2, k2⟩
  go_wp2_with fail
  refine (endC_any _ _ _ _ w2 hc2 (Nat.le_refl _)).mono ?_
  rintro e w3 ⟨v3, rfl, ho3, hc3, k3⟩
  have hoA := ho2.ktS k3
  have hxl : (((Pc.cuts gear 0 [] (sl s)).1.map mkS).length + ((Pc.tl (Pc.cuts gear 0 [] (sl s)).2.2).map mkS).length) * 16 ≤ 140737488355328 := by
    rw [List.length_map, List.length_map]; exact HL.out
  generalize (Pc.cuts gear 0 [] (sl s)).1.map mkS = xs at *
  generalize (Pc.tl (Pc.cuts gear 0 [] (sl s)).2.2).map mkS = ys at *
  have bA := (b1.trans (k2.below b1.size)).trans (k3.below (Nat.le_trans b1.size k2.size))
  have hsz : w1.heap.size ≤ w3.heap.size := Nat.le_trans k2.size k3.size
  have HO := Lib.hid (SlR.of_owns ho3)
  have HA := Lib.hid hoA
  clear hc1 hc2 hc3 ho2 ho3 hoA HL
  go_wp2_with (at_builtin; go_must (refine wpList_append_slr rfl (.tmp 7) (.tmp 9) _ rfl w1.heap.size 9 (.string ByteArray.empty) 1 16 es Tryz.underlying69 stringInfo rfl (by decide) (fun _ => rfl) _ xs rfl HA.out _ ys rfl HO.out (es_one _) (by simp only [maxLen]; omega) hxl hsz ?_); intro v' w4 hown hgrow)
  go_ret
  refine ⟨_, rfl, ?_, bA.grown hgrow (Nat.le_trans b1.size hsz) (fun k hk => Nat.le_trans b1.size (HA.out.lt k hk).1)⟩
  rw [HT.out]
  exact hown.mono b1.size
set_option maxRecDepth 20000
set_option maxRecDepth 20000
section
variable {es : List Pe} {ds fs : List ByteArray} {t : ByteArray}
end
end Go.Proofs.YtgjfhgcjiglfkaaGreatDoor
