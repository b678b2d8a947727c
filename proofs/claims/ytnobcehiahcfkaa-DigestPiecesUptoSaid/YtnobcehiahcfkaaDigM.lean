/- digest: (*Hash).Sum, Sum, Hex. -/
import Derived.Test.YtnobcehiahcfkaaDigK
import Derived.Test.YtnobcehiahcfkaaRegionM
import Derived.Test.YtnobcehiahcfkaaRegionP
import Derived.Test.YtnobcehiahcfkaaCkB
namespace Go.Proofs.Ytnobcehiahcfkaa
set_option maxRecDepth 20000
open Go.RowKit
/-- What waits, with noughts behind it: 64 bytes. -/
def pad64 (r : List UInt8) : List UInt8 := r ++ List.replicate (64 - r.length) 0
theorem pad64_len (r : List UInt8) (h : r.length ≤ 64) : (pad64 r).length = 64 := by simp [pad64]; omega
def rowB (l : List UInt8) : Array Value := (l.map bv).toArray
theorem rowB_nil : rowB (pad64 []) = #[.int .u8 0, .int .u8 0, .int .u8 0, .int .u8 0, .int .u8 0, .int .u8 0, .int .u8 0, .int .u8 0, .int .u8 0, .int .u8 0, .int .u8 0, .int .u8 0, .int .u8 0, .int .u8 0, .int .u8 0, .int .u8 0, .int .u8 0, .int .u8 0, .int .u8 0, .int .u8 0, .int .u8 0, .int .u8 0, .int .u8 0, .int .u8 0, .int .u8 0, .int .u8 0, .int .u8 0, .int .u8 0, .int .u8 0, .int .u8 0, .int .u8 0, .int .u8 0, .int .u8 0, .int .u8 0, .int .u8 0, .int .u8 0, .int .u8 0, .int .u8 0, .int .u8 0, .int .u8 0, .int .u8 0, .int .u8 0, .int .u8 0, .int .u8 0, .int .u8 0, .int .u8 0, .int .u8 0, .int .u8 0, .int .u8 0, .int .u8 0, .int .u8 0, .int .u8 0, .int .u8 0, .int .u8 0, .int .u8 0, .int .u8 0, .int .u8 0, .int .u8 0, .int .u8 0, .int .u8 0, .int .u8 0, .int .u8 0, .int .u8 0, .int .u8 0] := by kernel_rfl
theorem copy_in (w : World) (n0 g : Nat) (v : Value) (r : List UInt8) (ty : TypeId) (hb : Blk w g 107 (rowB (pad64 []))) (ho : OwnB w n0 5 v r) (hr : r.length ≤ 64) :
    (Builtin.copy_ #[78, 78] ty #[.slice (some ⟨g, 0, none⟩) 64 64, v]).run Try.prog w = .ok (.int .i64 (r.length : Int)) (w.setRow g (rowB (pad64 r))) := by
  rcases ho.form with ⟨rfl, rfl⟩ | ⟨b, off, cap, rfl, hc⟩
  · rw [run_copy_nil Try.prog w _ _ ty _ _ 64 64 Try.underlying78 (by kernel_rfl), setRow_self w g _ _ _ hb]
    rfl
  · rw [run_copy_row Try.prog w _ _ ty 5 g 0 64 64 ⟨b, off, none⟩ r.length cap (rowB (pad64 [])) 107 (r.map bv) Try.underlying78 (by kernel_rfl) hb (by rw [List.length_map]; exact (Nat.min_eq_left hr).symm) (by
      intro j u hj
      rw [List.getElem?_map] at hj
      cases hcj : r[j]? with
      | none => rw [hcj] at hj; cases hj
      | some c =>
        rw [hcj] at hj
        cases hj
        rw [Addr.add_lit]
        exact ho.cells j c hcj) (by rw [List.length_map]; show 0 + r.length ≤ (rowB (pad64 [])).size; simp [rowB, pad64]; omega) (by simp [bv, Value.oneCell'])]
    have e1 : ((rowB (pad64 [])).toList.take 0 ++ r.map bv ++ (rowB (pad64 [])).toList.drop (0 + (r.map bv).length)).toArray = rowB (pad64 r) := by
      simp only [rowB, pad64, List.length_nil, Nat.sub_zero, List.nil_append, List.take_zero, List.length_map, Nat.zero_add, List.map_append, List.map_replicate, List.drop_replicate]
    rw [e1, List.length_map]
    rfl
/-- A number's four bytes. -/
def byteOf (x : Int) : UInt8 := UInt8.ofNat (x % 256).toNat
theorem byteOf_wrap (x : Int) : IntKind.u8.wrap x = ((byteOf x).toNat : Int) := by
  rw [IntKind.wrap_u8]
  unfold byteOf
  rw [UInt8.toNat_ofNat']
  have : (x % 256).toNat < 256 := by omega
  rw [Nat.mod_eq_of_lt (by simpa using this)]
  omega
def le4 (x : Int) : List UInt8 := [byteOf x, byteOf (x / 256), byteOf (x / 65536), byteOf (x / 16777216)]
/-- What Sum answers. -/
def finB (H : List Int) (m : Nat) (r : List UInt8) : List UInt8 := (blockF H (bsI (pad64 r)) ((m + r.length : Nat) : Int) true).flatMap le4
noncomputable def sumLoop : Code := (lps (Try.f35.body.getD .skip)).getD 0 .skip
theorem eU_ix (X : List Int) (h8 : X.length = 8) (i : Nat) (h : i < 8) (w : World) : (Instr.index 101 (.agg (eU X)) (.int .i64 (i : Int))).run Try.prog w = .ok (.int .u32 (X.getD i 0)) w := by
  obtain ⟨x0, x1, x2, x3, x4, x5, x6, x7, rfl⟩ := list8 X h8
  have hc : i = 0 ∨ i = 1 ∨ i = 2 ∨ i = 3 ∨ i = 4 ∨ i = 5 ∨ i = 6 ∨ i = 7 := by omega
  rcases hc with rfl | rfl | rfl | rfl | rfl | rfl | rfl | rfl <;> (show _ = _; kernel_rfl)
theorem take_le4 (X : List Int) (i : Nat) (h : i < X.length) : (X.take (i + 1)).flatMap le4 = (X.take i).flatMap le4 ++ le4 (X.getD i 0) := by
  rw [List.take_add_one, List.getElem?_eq_getElem h, Option.toList_some, List.flatMap_append, List.flatMap_singleton, List.getD_eq_getElem?_getD, List.getElem?_eq_getElem h]
  rfl
theorem le4_len (X : List Int) : (X.flatMap le4).length = 4 * X.length := by
  induction X with
  | nil => rfl
  | cons x X ih => rw [List.flatMap_cons, List.length_append, ih, List.length_cons]; simp [le4]; omega
set_option maxHeartbeats 1000000 in
theorem sum_loop {c0 c1 c2 c3 c4 c5 c7 c8 c9 c10 c11 c12 c13 c14 c15 c16 c17 c18 c19 c20 c21 c22 c23 c24 c25 c26 c27 c30 c31 c32 c33 c34 c35 c36 c37 c38 c39 c40 c41 c42 c43 c44 c45 c46 c47 c48 : Value} (B : Nat) (X : List Int) (hX : X.length = 8) (w : World) (hB : B ≤ w.heap.size) (Q0 : Exit → Act → World → Prop)
    (hexit : ∀ (u6 u8 u29 u30 u31 u32 u33 u34 u35 u36 u37 u38 u39 u40 u41 u42 u43 u44 u45 u46 : Value) (w' : World), Owns w' B 5 1 eb u6 (X.flatMap le4) → Below B w w' → Q0 (.exit 0) ⟨(c0 :: c1 :: c2 :: c3 :: c4 :: c5 :: u6 :: c7 :: u8 :: c9 :: c10 :: c11 :: c12 :: c13 :: c14 :: c15 :: c16 :: c17 :: c18 :: c19 :: c20 :: c21 :: c22 :: c23 :: c24 :: c25 :: c26 :: c27 :: .agg (eU X) :: u29 :: u30 :: u31 :: u32 :: u33 :: u34 :: u35 :: u36 :: u37 :: u38 :: u39 :: u40 :: u41 :: u42 :: u43 :: u44 :: u45 :: u46 :: c47 :: c48 :: []).toArray, []⟩ w') :
    Code.wp Try.prog sumLoop Q0 ⟨(c0 :: c1 :: c2 :: c3 :: c4 :: c5 :: .slice none 0 0 :: c7 :: c8 :: c9 :: c10 :: c11 :: c12 :: c13 :: c14 :: c15 :: c16 :: c17 :: c18 :: c19 :: c20 :: c21 :: c22 :: c23 :: c24 :: c25 :: c26 :: c27 :: .agg (eU X) :: .int .i64 0 :: c30 :: c31 :: c32 :: c33 :: c34 :: c35 :: c36 :: c37 :: c38 :: c39 :: c40 :: c41 :: c42 :: c43 :: c44 :: c45 :: c46 :: c47 :: c48 :: []).toArray, []⟩ w := by
  have HX := Lib.hid hX
  clear hX
  conv => arg 2; whnf
  go_loopw [6, 29] (fun o iv wr => ∃ i : Nat, iv = .int .i64 (i : Int) ∧ i ≤ 8 ∧ Owns wr B 5 1 eb o ((X.take i).flatMap le4) ∧ Below B w wr) (fun _ iv _ => 8 - (intOf iv).toNat)
  case atStart => exact ⟨0, rfl, by omega, Owns.nil .., Below.refl _ _⟩
  case round =>
    obtain ⟨i, rfl, hi, hO, hbe⟩ := hrel
    by_cases hlt : i < 8
    · have hix := eU_ix X HX.out i hlt
      have HT := Lib.hid (take_le4 X i (by rw [HX.out]; exact hlt))
      have HL : Hid (((X.take i).flatMap le4).length = 4 * i) := by show _ = _; rw [le4_len, List.length_take, HX.out]; omega
      have HE := Lib.hid hexit
      clear hexit
      generalize X.getD i 0 = x at hix HT
      have hw0 := byteOf_wrap x
      have hw1 := byteOf_wrap (x / 256)
      have hw2 := byteOf_wrap (x / 65536)
      have hw3 := byteOf_wrap (x / 16777216)
      have HO := Lib.hid hO
      have hli : (i : Int) < 8 := by omega
      clear hO
      have hb0 := bel_size hbe hB
      generalize (X.take i).flatMap le4 = L at *
      have hL8 : L.length ≤ 32 := by have := HL.out; omega
      go_wp2_with (at_builtin; go_must (refine wpList_append_owns rfl (.tmp 32) (.tmp 44) _ rfl B 5 (.int .u8 0) 1 1 eb Try.underlying78 byteInfo rfl (by decide) _ L rfl (HO.out.alloc _) ⟨wr.heap.size, 0, none⟩ 4 4 (le4 x) rfl rfl rfl (by rw [eb_map]; exact new_cells _ [bv (byteOf x), bv (byteOf (x / 256)), bv (byteOf (x / 65536)), bv (byteOf (x / 16777216))] _) (eb_one _) (by simp only [maxLen]; omega) (by omega) (hb0 _) ?_); intro v3 w3 hown3 hg3)
      go_roundw
      case rel => exact ⟨i + 1, by go_num, hlt, by rw [HT.out]; exact hown3, bel_append hbe hB HO.out hg3⟩
      case measure => simp [intOf]; omega
    · obtain rfl : i = 8 := by omega
      rw [List.take_of_length_le (by rw [HX.out]; omega)] at hO
      go_wp2_with fail
      exact hexit _ _ _ _ _ _ _ _ _ _ _ _ _ _ _ _ _ _ _ _ _ hO hbe
set_option maxHeartbeats 4000000 in
theorem sumH_any (n0 p m : Nat) (H : List Int) (r : List UInt8) (w : World) (hh : Hsh w n0 p H m r) (hr : r.length ≤ 64) (hlen : m + r.length ≤ 140737488355200) :
    Calls Try.prog 35 #[.pointer (some ⟨p, 0, none⟩)] w fun e w' => e = .returned (.string (mkS (finB H m r))) ∧ Below w.heap.size w w' := by
  obtain ⟨h0, h1, h2, h3, h4, h5, h6, h7, v, hH, hb, ho⟩ := hh
  have hB0 : Blk (w.alloc (.cells #[.int .u8 0, .int .u8 0, .int .u8 0, .int .u8 0, .int .u8 0, .int .u8 0, .int .u8 0, .int .u8 0, .int .u8 0, .int .u8 0, .int .u8 0, .int .u8 0, .int .u8 0, .int .u8 0, .int .u8 0, .int .u8 0, .int .u8 0, .int .u8 0, .int .u8 0, .int .u8 0, .int .u8 0, .int .u8 0, .int .u8 0, .int .u8 0, .int .u8 0, .int .u8 0, .int .u8 0, .int .u8 0, .int .u8 0, .int .u8 0, .int .u8 0, .int .u8 0, .int .u8 0, .int .u8 0, .int .u8 0, .int .u8 0, .int .u8 0, .int .u8 0, .int .u8 0, .int .u8 0, .int .u8 0, .int .u8 0, .int .u8 0, .int .u8 0, .int .u8 0, .int .u8 0, .int .u8 0, .int .u8 0, .int .u8 0, .int .u8 0, .int .u8 0, .int .u8 0, .int .u8 0, .int .u8 0, .int .u8 0, .int .u8 0, .int .u8 0, .int .u8 0, .int .u8 0, .int .u8 0, .int .u8 0, .int .u8 0, .int .u8 0, .int .u8 0] 107)) w.heap.size 107 (rowB (pad64 [])) := by rw [rowB_nil]; exact Blk.new w _ _
  have hS0 : Below w.heap.size w (w.alloc (.cells #[.int .u8 0, .int .u8 0, .int .u8 0, .int .u8 0, .int .u8 0, .int .u8 0, .int .u8 0, .int .u8 0, .int .u8 0, .int .u8 0, .int .u8 0, .int .u8 0, .int .u8 0, .int .u8 0, .int .u8 0, .int .u8 0, .int .u8 0, .int .u8 0, .int .u8 0, .int .u8 0, .int .u8 0, .int .u8 0, .int .u8 0, .int .u8 0, .int .u8 0, .int .u8 0, .int .u8 0, .int .u8 0, .int .u8 0, .int .u8 0, .int .u8 0, .int .u8 0, .int .u8 0, .int .u8 0, .int .u8 0, .int .u8 0, .int .u8 0, .int .u8 0, .int .u8 0, .int .u8 0, .int .u8 0, .int .u8 0, .int .u8 0, .int .u8 0, .int .u8 0, .int .u8 0, .int .u8 0, .int .u8 0, .int .u8 0, .int .u8 0, .int .u8 0, .int .u8 0, .int .u8 0, .int .u8 0, .int .u8 0, .int .u8 0, .int .u8 0, .int .u8 0, .int .u8 0, .int .u8 0, .int .u8 0, .int .u8 0, .int .u8 0, .int .u8 0] 107)) := (Below.refl _ w).alloc (Nat.le_refl _) _
  have ho0 := ho.alloc (.cells #[.int .u8 0, .int .u8 0, .int .u8 0, .int .u8 0, .int .u8 0, .int .u8 0, .int .u8 0, .int .u8 0, .int .u8 0, .int .u8 0, .int .u8 0, .int .u8 0, .int .u8 0, .int .u8 0, .int .u8 0, .int .u8 0, .int .u8 0, .int .u8 0, .int .u8 0, .int .u8 0, .int .u8 0, .int .u8 0, .int .u8 0, .int .u8 0, .int .u8 0, .int .u8 0, .int .u8 0, .int .u8 0, .int .u8 0, .int .u8 0, .int .u8 0, .int .u8 0, .int .u8 0, .int .u8 0, .int .u8 0, .int .u8 0, .int .u8 0, .int .u8 0, .int .u8 0, .int .u8 0, .int .u8 0, .int .u8 0, .int .u8 0, .int .u8 0, .int .u8 0, .int .u8 0, .int .u8 0, .int .u8 0, .int .u8 0, .int .u8 0, .int .u8 0, .int .u8 0, .int .u8 0, .int .u8 0, .int .u8 0, .int .u8 0, .int .u8 0, .int .u8 0, .int .u8 0, .int .u8 0, .int .u8 0, .int .u8 0, .int .u8 0, .int .u8 0] 107)
  have hz0 : (w.alloc (.cells #[.int .u8 0, .int .u8 0, .int .u8 0, .int .u8 0, .int .u8 0, .int .u8 0, .int .u8 0, .int .u8 0, .int .u8 0, .int .u8 0, .int .u8 0, .int .u8 0, .int .u8 0, .int .u8 0, .int .u8 0, .int .u8 0, .int .u8 0, .int .u8 0, .int .u8 0, .int .u8 0, .int .u8 0, .int .u8 0, .int .u8 0, .int .u8 0, .int .u8 0, .int .u8 0, .int .u8 0, .int .u8 0, .int .u8 0, .int .u8 0, .int .u8 0, .int .u8 0, .int .u8 0, .int .u8 0, .int .u8 0, .int .u8 0, .int .u8 0, .int .u8 0, .int .u8 0, .int .u8 0, .int .u8 0, .int .u8 0, .int .u8 0, .int .u8 0, .int .u8 0, .int .u8 0, .int .u8 0, .int .u8 0, .int .u8 0, .int .u8 0, .int .u8 0, .int .u8 0, .int .u8 0, .int .u8 0, .int .u8 0, .int .u8 0, .int .u8 0, .int .u8 0, .int .u8 0, .int .u8 0, .int .u8 0, .int .u8 0, .int .u8 0, .int .u8 0] 107)).heap.size = w.heap.size + 1 := by simp
  obtain ⟨M, hM⟩ : ∃ M, M = m + r.length := ⟨_, rfl⟩
  have hwr : IntKind.u64.wrap (r.length : Int) = (r.length : Int) := by rw [IntKind.wrap_u64]; omega
  have hwM : IntKind.u64.wrap ((m : Int) + (r.length : Int)) = (M : Int) := by rw [IntKind.wrap_u64]; omega
  have HF : Hid (finB H m r = (blockF [h0, h1, h2, h3, h4, h5, h6, h7] (bsI (pad64 r)) (M : Int) true).flatMap le4) := by show _ = _; rw [hM]; unfold finB; rw [hH]
  have HRL := Lib.hid hr
  clear hM hr hlen hH
  go_enter Try.func35, Try.ntmps35
  go_wp2_with fail
  generalize w.alloc (.cells #[.int .u8 0, .int .u8 0, .int .u8 0, .int .u8 0, .int .u8 0, .int .u8 0, .int .u8 0, .int .u8 0, .int .u8 0, .int .u8 0, .int .u8 0, .int .u8 0, .int .u8 0, .int .u8 0, .int .u8 0, .int .u8 0, .int .u8 0, .int .u8 0, .int .u8 0, .int .u8 0, .int .u8 0, .int .u8 0, .int .u8 0, .int .u8 0, .int .u8 0, .int .u8 0, .int .u8 0, .int .u8 0, .int .u8 0, .int .u8 0, .int .u8 0, .int .u8 0, .int .u8 0, .int .u8 0, .int .u8 0, .int .u8 0, .int .u8 0, .int .u8 0, .int .u8 0, .int .u8 0, .int .u8 0, .int .u8 0, .int .u8 0, .int .u8 0, .int .u8 0, .int .u8 0, .int .u8 0, .int .u8 0, .int .u8 0, .int .u8 0, .int .u8 0, .int .u8 0, .int .u8 0, .int .u8 0, .int .u8 0, .int .u8 0, .int .u8 0, .int .u8 0, .int .u8 0, .int .u8 0, .int .u8 0, .int .u8 0, .int .u8 0, .int .u8 0] 107) = W0 at hB0 hS0 ho0 hz0 ⊢
  refine wp_region_mid [(true, 0), (true, 1), (true, 2), (true, 3), (true, 4), (false, 5), (true, 6)] 5 (fun w' => Below w.heap.size w w') (by kernel_rfl) (by kernel_rfl) (by kernel_rfl) (fun _ _ _ _ _ h => h) (by kernel_rfl) (by kernel_rfl) ?_ ?_
  · exact hS0.drew
  iterate 5 (first | (apply seqM_skip; (focus (simp only [List.getElem?_toArray, List.getElem?_cons_succ, List.getElem?_cons_zero]; rfl)); (focus rfl); simp only [Act.put, List.setIfInBounds_toArray, List.set_cons_zero, List.set_cons_succ]) | (apply seqM_take; (focus (simp only [List.getElem?_toArray, List.getElem?_cons_succ, List.getElem?_cons_zero]; rfl)); (focus rfl); (focus (intro w' hS; have hS := hS (by decide); have hq := hb.below hS hb.lt; have y0 := hq.cell 0; have y1 := hq.cell 1; have y2 := hq.cell 2; have y3 := hq.cell 3; have y4 := hq.cell 4; have y5 := hq.cell 5; have y6 := hq.cell 6; have y7 := hq.cell 7; have y8 := hq.cell 8; have y9 := hq.cell 9; first | (go_simp; rfl) | (go_simp; done))); simp only [Act.put, List.setIfInBounds_toArray, List.set_cons_zero, List.set_cons_succ]))
  apply seqM_eff
  (focus (simp only [List.getElem?_toArray, List.getElem?_cons_succ, List.getElem?_cons_zero]; rfl))
  (focus rfl)
  intro K hK
  go_simp
  rw [copy_in W0.drew n0 w.heap.size v r _ hB0.drew ho0.drew HRL.out]
  go_simp
  have hS1 : Below w.heap.size w (W0.drew.setRow w.heap.size (rowB (pad64 r))) := below_setRow hS0.drew (Nat.le_refl _) _
  have hB1 : Blk (W0.drew.setRow w.heap.size (rowB (pad64 r))) w.heap.size 107 (rowB (pad64 r)) := setRow_heap _ _ _ _ _ _ hB0
  have hz1 : (W0.drew.setRow w.heap.size (rowB (pad64 r))).heap.size = w.heap.size + 1 := by simp; exact hz0
  refine hK _ _ ?_
  clear hK K
  generalize W0.drew.setRow w.heap.size (rowB (pad64 r)) = W1 at hB1 hS1 hz1 ⊢
  iterate 1 (first | (apply seqM_skip; (focus (simp only [List.getElem?_toArray, List.getElem?_cons_succ, List.getElem?_cons_zero]; rfl)); (focus rfl); simp only [Act.put, List.setIfInBounds_toArray, List.set_cons_zero, List.set_cons_succ]) | (apply seqM_take; (focus (simp only [List.getElem?_toArray, List.getElem?_cons_succ, List.getElem?_cons_zero]; rfl)); (focus rfl); (focus (intro w' hS; skip; first | (go_simp; rfl) | (go_simp; done))); simp only [Act.put, List.setIfInBounds_toArray, List.set_cons_zero, List.set_cons_succ]))
  refine seqM_nil ?_
  clear hB0 hS0 ho0 hz0
  go_wp2_with fail
  have HBC : Hid (∀ W', Below W1.heap.size W1 W' → ∀ j x, (bsI (pad64 r))[j]? = some x → W'.cell? ⟨w.heap.size, 0 + j, none⟩ = some (.int .u8 x)) := by
    intro W' hW' j x hj
    rw [Nat.zero_add]
    refine ((hB1.below hW' hB1.lt).cell j).trans ?_
    unfold bsI at hj
    rw [List.getElem?_map] at hj
    unfold rowB
    rw [List.getElem?_toArray, List.getElem?_map]
    cases hc : (pad64 r)[j]? with
    | none => rw [hc] at hj; cases hj
    | some c => rw [hc] at hj; cases hj; rfl
  have HBL : Hid ((bsI (pad64 r)).length = 64) := (bsI_len _).trans (pad64_len r HRL.out)
  generalize bsI (pad64 r) = BS at HBC HBL HF
  have HXL : Hid ((blockF [h0, h1, h2, h3, h4, h5, h6, h7] BS (M : Int) true).length = 8) := blockF_len ..
  obtain ⟨x0, x1, x2, x3, x4, x5, x6, x7, hX⟩ := list8 _ HXL.out
  have HXX := Lib.hid hX
  rw [hX] at HF
  clear hX HXL
  refine wp_region_plan (.take 0 (.take 1 (.take 2 (.take 3 (.take 4 (.take 5 (.take 6 (.take 7 (.take 8 (.take 9 (.take 10 (.take 11 (.two 12 (.eff 13 (.eff 14 .nil)) 13 (.eff 12 (.eff 14 .nil))))))))))))))) (fun w' => Below w.heap.size w w') (by kernel_rfl) (by kernel_rfl) (fun _ _ _ _ _ h => h) (by kernel_rfl) (by kernel_rfl) hS1.drew ?_
  iterate 12 (first | (apply seqP_skip; (focus (simp only [List.getElem?_toArray, List.getElem?_cons_succ, List.getElem?_cons_zero]; rfl)); (focus rfl); simp only [Act.put, List.setIfInBounds_toArray, List.set_cons_zero, List.set_cons_succ]) | (apply seqP_take; (focus (simp only [List.getElem?_toArray, List.getElem?_cons_succ, List.getElem?_cons_zero]; rfl)); (focus rfl); (focus (intro w' hS; have hq := hb.below hS hb.lt; have y0 := hq.cell 0; have y1 := hq.cell 1; have y2 := hq.cell 2; have y3 := hq.cell 3; have y4 := hq.cell 4; have y5 := hq.cell 5; have y6 := hq.cell 6; have y7 := hq.cell 7; have y8 := hq.cell 8; have y9 := hq.cell 9; first | (go_simp; rfl) | (go_simp; done))); simp only [Act.put, List.setIfInBounds_toArray, List.set_cons_zero, List.set_cons_succ]))
  apply seqP_two
  (focus (simp only [List.getElem?_toArray, List.getElem?_cons_succ, List.getElem?_cons_zero]; rfl))
  (focus (simp only [List.getElem?_toArray, List.getElem?_cons_succ, List.getElem?_cons_zero]; rfl))
  (focus rfl)
  (focus rfl)
  · intro K hK
    go_simp
    go_at_call 53
    refine (block_last h0 h1 h2 h3 h4 h5 h6 h7 w.heap.size 0 64 BS (M : Int) _ HBL.out (HBC.out _ (Below.refl _ W1).drew)).mono ?_
    rintro e w2 ⟨rfl, b2⟩
    rw [show blockF [h0, h1, h2, h3, h4, h5, h6, h7] BS (M : Int) true = [x0, x1, x2, x3, x4, x5, x6, x7] from HXX.out]
    rw [show eU [x0, x1, x2, x3, x4, x5, x6, x7] = #[.int .u32 x0, .int .u32 x1, .int .u32 x2, .int .u32 x3, .int .u32 x4, .int .u32 x5, .int .u32 x6, .int .u32 x7] from rfl]
    have sA : Below w.heap.size w w2 := hS1.drew.trans (b2.mono (by show w.heap.size ≤ W1.heap.size; omega))
    refine hK _ _ ⟨sA, ?_⟩
    clear hK K
    apply seqP_eff
    (focus (simp only [List.getElem?_toArray, List.getElem?_cons_succ, List.getElem?_cons_zero]; rfl))
    (focus rfl)
    intro K hK
    go_simp
    have sB := sA.alloc sA.size (.cells #[.int .u32 0, .int .u32 0, .int .u32 0, .int .u32 0, .int .u32 0, .int .u32 0, .int .u32 0, .int .u32 0] 101)
    refine hK _ _ ⟨sB, ?_⟩
    clear hK K
    apply seqP_eff
    (focus (simp only [List.getElem?_toArray, List.getElem?_cons_succ, List.getElem?_cons_zero]; rfl))
    (focus rfl)
    intro K hK
    go_simp
    have sC := sA.alloc sA.size (.cells #[.int .u32 x0, .int .u32 x1, .int .u32 x2, .int .u32 x3, .int .u32 x4, .int .u32 x5, .int .u32 x6, .int .u32 x7] 101)
    refine hK _ _ ⟨sC, ?_⟩
    clear hK K sB
    refine seqP_nil ?_
    have hBN : Blk (w2.alloc (.cells #[.int .u32 x0, .int .u32 x1, .int .u32 x2, .int .u32 x3, .int .u32 x4, .int .u32 x5, .int .u32 x6, .int .u32 x7] 101)) w2.heap.size 101 #[.int .u32 x0, .int .u32 x1, .int .u32 x2, .int .u32 x3, .int .u32 x4, .int .u32 x5, .int .u32 x6, .int .u32 x7] := Blk.new w2 _ _
    clear b2
    generalize (w2.alloc (.cells #[.int .u32 x0, .int .u32 x1, .int .u32 x2, .int .u32 x3, .int .u32 x4, .int .u32 x5, .int .u32 x6, .int .u32 x7] 101)) = W5 at sC hBN ⊢
    generalize w2.heap.size = q5 at hBN ⊢
    have k0 := hBN.cell 0
    have k1 := hBN.cell 1
    have k2 := hBN.cell 2
    have k3 := hBN.cell 3
    have k4 := hBN.cell 4
    have k5 := hBN.cell 5
    have k6 := hBN.cell 6
    have k7 := hBN.cell 7
    go_wp2_with fail
    refine sum_loop w.heap.size [x0, x1, x2, x3, x4, x5, x6, x7] rfl W5 sC.size _ ?_
    intro u6 u8 u29 u30 u31 u32 u33 u34 u35 u36 u37 u38 u39 u40 u41 u42 u43 u44 u45 u46 W6 hO6 hb6
    have hcv := conv_own hO6
    have HB6 := Lib.hid (sC.trans hb6)
    clear hO6 hb6 sC k0 k1 k2 k3 k4 k5 k6 k7 hBN
    go_wp2_with fail
    go_ret
    rw [HF.out]
    exact ⟨rfl, HB6.out⟩
  · intro K hK
    go_simp
    have sB := hS1.drew.alloc (by show w.heap.size ≤ W1.heap.size; omega) (.cells #[.int .u32 0, .int .u32 0, .int .u32 0, .int .u32 0, .int .u32 0, .int .u32 0, .int .u32 0, .int .u32 0] 101)
    have hbl : Below W1.heap.size W1 (W1.drew.alloc (.cells #[.int .u32 0, .int .u32 0, .int .u32 0, .int .u32 0, .int .u32 0, .int .u32 0, .int .u32 0, .int .u32 0] 101)) := (Below.refl _ W1).drew.alloc (Nat.le_refl _) _
    refine hK _ _ ⟨sB, ?_⟩
    clear hK K
    apply seqP_eff
    (focus (simp only [List.getElem?_toArray, List.getElem?_cons_succ, List.getElem?_cons_zero]; rfl))
    (focus rfl)
    intro K hK
    go_simp
    go_at_call 53
    refine (block_last h0 h1 h2 h3 h4 h5 h6 h7 w.heap.size 0 64 BS (M : Int) _ HBL.out (HBC.out _ hbl)).mono ?_
    rintro e w2 ⟨rfl, b2⟩
    rw [show blockF [h0, h1, h2, h3, h4, h5, h6, h7] BS (M : Int) true = [x0, x1, x2, x3, x4, x5, x6, x7] from HXX.out]
    rw [show eU [x0, x1, x2, x3, x4, x5, x6, x7] = #[.int .u32 x0, .int .u32 x1, .int .u32 x2, .int .u32 x3, .int .u32 x4, .int .u32 x5, .int .u32 x6, .int .u32 x7] from rfl]
    have hq : Blk w2 (w.heap.size + 1) 101 #[.int .u32 0, .int .u32 0, .int .u32 0, .int .u32 0, .int .u32 0, .int .u32 0, .int .u32 0, .int .u32 0] := by
      have := (Blk.new W1.drew 101 #[.int .u32 0, .int .u32 0, .int .u32 0, .int .u32 0, .int .u32 0, .int .u32 0, .int .u32 0, .int .u32 0]).below b2 (Blk.new _ _ _).lt
      rwa [show W1.drew.heap.size = w.heap.size + 1 from hz1] at this
    have sD : Below w.heap.size w w2 := sB.trans (b2.mono (by rw [World.size_alloc]; show w.heap.size ≤ W1.heap.size + 1; omega))
    refine hK _ _ ⟨sD, ?_⟩
    clear hK K
    apply seqP_eff
    (focus (simp only [List.getElem?_toArray, List.getElem?_cons_succ, List.getElem?_cons_zero]; rfl))
    (focus rfl)
    intro K hK
    have y0 := hq.cell 0
    have z0 := hq.frozen 0
    have y1 := hq.cell 1
    have z1 := hq.frozen 1
    have y2 := hq.cell 2
    have z2 := hq.frozen 2
    have y3 := hq.cell 3
    have z3 := hq.frozen 3
    have y4 := hq.cell 4
    have z4 := hq.frozen 4
    have y5 := hq.cell 5
    have z5 := hq.frozen 5
    have y6 := hq.cell 6
    have z6 := hq.frozen 6
    have y7 := hq.cell 7
    have z7 := hq.frozen 7
    go_simp
    have k0 : Blk (w2.setCell ⟨w.heap.size + 1, 0, none⟩ (.int .u32 x0)) (w.heap.size + 1) 101 #[.int .u32 x0, .int .u32 0, .int .u32 0, .int .u32 0, .int .u32 0, .int .u32 0, .int .u32 0, .int .u32 0] := hq.set_ 0 (.int .u32 x0)
    have k1 : Blk ((w2.setCell ⟨w.heap.size + 1, 0, none⟩ (.int .u32 x0)).setCell ⟨w.heap.size + 1, 1, none⟩ (.int .u32 x1)) (w.heap.size + 1) 101 #[.int .u32 x0, .int .u32 x1, .int .u32 0, .int .u32 0, .int .u32 0, .int .u32 0, .int .u32 0, .int .u32 0] := k0.set_ 1 (.int .u32 x1)
    have k2 : Blk (((w2.setCell ⟨w.heap.size + 1, 0, none⟩ (.int .u32 x0)).setCell ⟨w.heap.size + 1, 1, none⟩ (.int .u32 x1)).setCell ⟨w.heap.size + 1, 2, none⟩ (.int .u32 x2)) (w.heap.size + 1) 101 #[.int .u32 x0, .int .u32 x1, .int .u32 x2, .int .u32 0, .int .u32 0, .int .u32 0, .int .u32 0, .int .u32 0] := k1.set_ 2 (.int .u32 x2)
    have k3 : Blk ((((w2.setCell ⟨w.heap.size + 1, 0, none⟩ (.int .u32 x0)).setCell ⟨w.heap.size + 1, 1, none⟩ (.int .u32 x1)).setCell ⟨w.heap.size + 1, 2, none⟩ (.int .u32 x2)).setCell ⟨w.heap.size + 1, 3, none⟩ (.int .u32 x3)) (w.heap.size + 1) 101 #[.int .u32 x0, .int .u32 x1, .int .u32 x2, .int .u32 x3, .int .u32 0, .int .u32 0, .int .u32 0, .int .u32 0] := k2.set_ 3 (.int .u32 x3)
    have k4 : Blk (((((w2.setCell ⟨w.heap.size + 1, 0, none⟩ (.int .u32 x0)).setCell ⟨w.heap.size + 1, 1, none⟩ (.int .u32 x1)).setCell ⟨w.heap.size + 1, 2, none⟩ (.int .u32 x2)).setCell ⟨w.heap.size + 1, 3, none⟩ (.int .u32 x3)).setCell ⟨w.heap.size + 1, 4, none⟩ (.int .u32 x4)) (w.heap.size + 1) 101 #[.int .u32 x0, .int .u32 x1, .int .u32 x2, .int .u32 x3, .int .u32 x4, .int .u32 0, .int .u32 0, .int .u32 0] := k3.set_ 4 (.int .u32 x4)
    have k5 : Blk ((((((w2.setCell ⟨w.heap.size + 1, 0, none⟩ (.int .u32 x0)).setCell ⟨w.heap.size + 1, 1, none⟩ (.int .u32 x1)).setCell ⟨w.heap.size + 1, 2, none⟩ (.int .u32 x2)).setCell ⟨w.heap.size + 1, 3, none⟩ (.int .u32 x3)).setCell ⟨w.heap.size + 1, 4, none⟩ (.int .u32 x4)).setCell ⟨w.heap.size + 1, 5, none⟩ (.int .u32 x5)) (w.heap.size + 1) 101 #[.int .u32 x0, .int .u32 x1, .int .u32 x2, .int .u32 x3, .int .u32 x4, .int .u32 x5, .int .u32 0, .int .u32 0] := k4.set_ 5 (.int .u32 x5)
    have k6 : Blk (((((((w2.setCell ⟨w.heap.size + 1, 0, none⟩ (.int .u32 x0)).setCell ⟨w.heap.size + 1, 1, none⟩ (.int .u32 x1)).setCell ⟨w.heap.size + 1, 2, none⟩ (.int .u32 x2)).setCell ⟨w.heap.size + 1, 3, none⟩ (.int .u32 x3)).setCell ⟨w.heap.size + 1, 4, none⟩ (.int .u32 x4)).setCell ⟨w.heap.size + 1, 5, none⟩ (.int .u32 x5)).setCell ⟨w.heap.size + 1, 6, none⟩ (.int .u32 x6)) (w.heap.size + 1) 101 #[.int .u32 x0, .int .u32 x1, .int .u32 x2, .int .u32 x3, .int .u32 x4, .int .u32 x5, .int .u32 x6, .int .u32 0] := k5.set_ 6 (.int .u32 x6)
    have hbB : Blk ((((((((w2.setCell ⟨w.heap.size + 1, 0, none⟩ (.int .u32 x0)).setCell ⟨w.heap.size + 1, 1, none⟩ (.int .u32 x1)).setCell ⟨w.heap.size + 1, 2, none⟩ (.int .u32 x2)).setCell ⟨w.heap.size + 1, 3, none⟩ (.int .u32 x3)).setCell ⟨w.heap.size + 1, 4, none⟩ (.int .u32 x4)).setCell ⟨w.heap.size + 1, 5, none⟩ (.int .u32 x5)).setCell ⟨w.heap.size + 1, 6, none⟩ (.int .u32 x6)).setCell ⟨w.heap.size + 1, 7, none⟩ (.int .u32 x7)) (w.heap.size + 1) 101 #[.int .u32 x0, .int .u32 x1, .int .u32 x2, .int .u32 x3, .int .u32 x4, .int .u32 x5, .int .u32 x6, .int .u32 x7] := k6.set_ 7 (.int .u32 x7)
    have sC : Below w.heap.size w ((((((((w2.setCell ⟨w.heap.size + 1, 0, none⟩ (.int .u32 x0)).setCell ⟨w.heap.size + 1, 1, none⟩ (.int .u32 x1)).setCell ⟨w.heap.size + 1, 2, none⟩ (.int .u32 x2)).setCell ⟨w.heap.size + 1, 3, none⟩ (.int .u32 x3)).setCell ⟨w.heap.size + 1, 4, none⟩ (.int .u32 x4)).setCell ⟨w.heap.size + 1, 5, none⟩ (.int .u32 x5)).setCell ⟨w.heap.size + 1, 6, none⟩ (.int .u32 x6)).setCell ⟨w.heap.size + 1, 7, none⟩ (.int .u32 x7)) := below_sets (Nat.le_succ _) [.int .u32 x0, .int .u32 x1, .int .u32 x2, .int .u32 x3, .int .u32 x4, .int .u32 x5, .int .u32 x6, .int .u32 x7] 0 w2 sD
    clear y0 z0 y1 z1 y2 z2 y3 z3 y4 z4 y5 z5 y6 z6 y7 z7
    refine hK _ _ ⟨sC, ?_⟩
    clear hK K sB sD hq k0 k1 k2 k3 k4 k5 k6
    refine seqP_nil ?_
    have hBN : Blk ((((((((w2.setCell ⟨w.heap.size + 1, 0, none⟩ (.int .u32 x0)).setCell ⟨w.heap.size + 1, 1, none⟩ (.int .u32 x1)).setCell ⟨w.heap.size + 1, 2, none⟩ (.int .u32 x2)).setCell ⟨w.heap.size + 1, 3, none⟩ (.int .u32 x3)).setCell ⟨w.heap.size + 1, 4, none⟩ (.int .u32 x4)).setCell ⟨w.heap.size + 1, 5, none⟩ (.int .u32 x5)).setCell ⟨w.heap.size + 1, 6, none⟩ (.int .u32 x6)).setCell ⟨w.heap.size + 1, 7, none⟩ (.int .u32 x7)) (w.heap.size + 1) 101 #[.int .u32 x0, .int .u32 x1, .int .u32 x2, .int .u32 x3, .int .u32 x4, .int .u32 x5, .int .u32 x6, .int .u32 x7] := hbB
    clear b2
    generalize ((((((((w2.setCell ⟨w.heap.size + 1, 0, none⟩ (.int .u32 x0)).setCell ⟨w.heap.size + 1, 1, none⟩ (.int .u32 x1)).setCell ⟨w.heap.size + 1, 2, none⟩ (.int .u32 x2)).setCell ⟨w.heap.size + 1, 3, none⟩ (.int .u32 x3)).setCell ⟨w.heap.size + 1, 4, none⟩ (.int .u32 x4)).setCell ⟨w.heap.size + 1, 5, none⟩ (.int .u32 x5)).setCell ⟨w.heap.size + 1, 6, none⟩ (.int .u32 x6)).setCell ⟨w.heap.size + 1, 7, none⟩ (.int .u32 x7)) = W5 at sC hBN ⊢
    generalize (w.heap.size + 1) = q5 at hBN ⊢
    have k0 := hBN.cell 0
    have k1 := hBN.cell 1
    have k2 := hBN.cell 2
    have k3 := hBN.cell 3
    have k4 := hBN.cell 4
    have k5 := hBN.cell 5
    have k6 := hBN.cell 6
    have k7 := hBN.cell 7
    go_wp2_with fail
    refine sum_loop w.heap.size [x0, x1, x2, x3, x4, x5, x6, x7] rfl W5 sC.size _ ?_
    intro u6 u8 u29 u30 u31 u32 u33 u34 u35 u36 u37 u38 u39 u40 u41 u42 u43 u44 u45 u46 W6 hO6 hb6
    have hcv := conv_own hO6
    have HB6 := Lib.hid (sC.trans hb6)
    clear hO6 hb6 sC k0 k1 k2 k3 k4 k5 k6 k7 hBN
    go_wp2_with fail
    go_ret
    rw [HF.out]
    exact ⟨rfl, HB6.out⟩
end Go.Proofs.Ytnobcehiahcfkaa
