/- SpanAgain: the law's walk. -/
import Derived.Test.YthhhlaoiampinaaMrgD
import Derived.Test.YthhhlaoiampinaaEqSlc
namespace Go.Proofs.Ythhhlaoiampinaa
set_option maxRecDepth 20000
open Go.RowKit
namespace Mrg
theorem copySlc_any (v : Value) (l : List (Int × Int)) (w : World) (h : SlR w e_ii v l) (hl : l.length * 16 ≤ 140737488355328) :
    Calls Try.prog 10 #[v] w fun e w' => RetSlc w.heap.size l e w' ∧ Below w.heap.size w w' := by
  go_enter Try.func10, Try.ntmps10
  go_wp2_with (at_builtin; go_must (refine wpList_append_slr rfl (.const (.slice none 0 0)) (.tmp 3) _ rfl w.heap.size 26 (.agg #[.int .i64 0, .int .i64 0]) 2 16 e_ii Try.underlying22 slcInfoB rfl (by decide) (fun _ => rfl) _ [] rfl (Owns.nil w w.heap.size 26 2 e_ii) _ l rfl h (ii_oneB l) (by simp [maxLen]; omega) (by simp; omega) (by simp) ?_); intro v' w2 hown' hgrow)
  go_ret
  exact ⟨⟨_, rfl, hown'⟩, (Below.refl _ _).grown hgrow (Nat.le_refl _) (fun k hk => by have hk' : (none : Option Nat) = some k := hk; cases hk')⟩
theorem len_two (l : List (Int × Int)) : l.length ≤ (l.map (fun _ => 2)).sum := by
  induction l with
  | nil => exact Nat.le_refl _
  | cons d l ih => rw [List.map_cons, List.sum_cons, List.length_cons]; omega
/-- Merge of what is read, in a short form. -/
theorem mergeR_any (v : Value) (l : List (Int × Int)) (w : World) (h : SlR w e_ii v l) (hl : l.length ≤ 4194304) :
    Calls Try.prog 7 #[v] w fun e w' => (∃ u m, e = .returned u ∧ Owns w' w.heap.size 26 2 e_ii u m ∧ MergedOf l m ∧ m.length ≤ l.length) ∧ Below w.heap.size w w' :=
  (merge_any v l w h (by omega)).mono fun e w' ⟨⟨u, m, h1, h2, h3⟩, hb⟩ => ⟨⟨u, m, h1, h2, h3, h3.2.2⟩, hb⟩
set_option maxHeartbeats 2000000 in
theorem spanAgain_walk (v : Value) (l : List (Int × Int)) (u : Value) (k : List (Int × Int)) (w : World) (h : SlR w e_ii v l) (hl : l.length ≤ 1048576) (hu : SlR w e_ii u k) (hk : k.length ≤ 1048576) :
    Calls Try.prog 4 #[v, u] w fun e w' => e = .returned (.bool true) ∧ Below w.heap.size w w' := by
  have HV := Lib.hid (fun w' (hb : Below w.heap.size w w') => h.below hb)
  have HU := Lib.hid (fun w' (hb : Below w.heap.size w w') => hu.below hb)
  have HLk : Hid ((l ++ k).length ≤ 2097152 ∧ (k ++ l).length ≤ 2097152) := by show _ ∧ _; rw [List.length_append, List.length_append]; omega
  clear h hu
  go_enter Try.func4, Try.ntmps4
  go_wp2_with fail
  refine (copySlc_any v l _ (HV.out _ (Below.refl _ _)) (by omega)).mono ?_
  rintro e w1 ⟨⟨c1, rfl, o1⟩, B1⟩
  have hu1 := HU.out _ B1
  go_wp2_with (at_builtin; go_must (refine wpList_append_slr rfl (.tmp 10) (.tmp 11) _ rfl w.heap.size 26 (.agg #[.int .i64 0, .int .i64 0]) 2 16 e_ii Try.underlying22 slcInfoB rfl (by decide) (fun _ => rfl) _ l rfl o1 _ k rfl hu1 (ii_oneB k) (by simp only [maxLen]; omega) (by omega) B1.size ?_); intro x1 w2 p1 g1)
  have B2 := B1.grown g1 B1.size (fun j hj => (o1.lt j hj).1)
  have HP := Lib.hid (SlR.of_owns p1)
  clear hu1 o1 p1 g1 B1
  refine (mergeR_any x1 (l ++ k) w2 HP.out (Nat.le_trans HLk.out.1 (by decide))).mono ?_
  rintro e w3 ⟨⟨a, la, rfl, oa, ma, za⟩, b3⟩
  have B3 := belT B2 b3
  have MA := Lib.hid ma
  have HA := Lib.hid (SlR.of_owns oa)
  have ZA := Lib.hid (Nat.le_trans za HLk.out.1)
  clear ma oa za HP B2 b3
  go_wp2_with fail
  refine (copySlc_any u k _ (HU.out _ B3) (by omega)).mono ?_
  rintro e w4 ⟨⟨c4, rfl, o4⟩, b4⟩
  have B4 := belT B3 b4
  have hv4 := HV.out _ B4
  go_wp2_with (at_builtin; go_must (refine wpList_append_slr rfl (.tmp 15) (.tmp 16) _ rfl w3.heap.size 26 (.agg #[.int .i64 0, .int .i64 0]) 2 16 e_ii Try.underlying22 slcInfoB rfl (by decide) (fun _ => rfl) _ k rfl o4 _ l rfl hv4 (ii_oneB l) (by simp only [maxLen]; omega) (by omega) b4.size ?_); intro x4 w5 p4 g4)
  have b5 := b4.grown g4 b4.size (fun j hj => (o4.lt j hj).1)
  have B5 := belT B3 b5
  have HP := Lib.hid (SlR.of_owns p4)
  have HA5 := Lib.hid (HA.out.below b5)
  clear hv4 o4 p4 g4 B3 B4 b4 b5 HA
  refine (mergeR_any x4 (k ++ l) w5 HP.out (Nat.le_trans HLk.out.2 (by decide))).mono ?_
  rintro e w6 ⟨⟨b, lb, rfl, ob, mb, zb⟩, b6⟩
  have B6 := belT B5 b6
  have MB := Lib.hid mb
  have HB := Lib.hid (SlR.of_owns ob)
  have HA6 := Lib.hid (HA5.out.below b6)
  clear mb ob zb HP B5 b6 HA5
  go_wp2_with fail
  refine (mergeR_any v l _ (HV.out _ B6) (by omega)).mono ?_
  rintro e w7 ⟨⟨x7, l7, rfl, o7, m7, z7⟩, b7⟩
  have B7 := belT B6 b7
  have M7 := Lib.hid m7
  have O7 := Lib.hid o7
  clear m7 o7
  go_wp2_with fail
  refine (mergeR_any u k _ (HU.out _ B7) (by omega)).mono ?_
  rintro e w8 ⟨⟨x8, l8, rfl, o8, m8, z8⟩, b8⟩
  have B8 := belT B7 b8
  have M8 := Lib.hid m8
  have O78 := Lib.hid (O7.out.below b8)
  have HS8 := Lib.hid (SlR.of_owns o8)
  have h78 := belT b7 b8
  clear m8 o8 O7 B7 b7 b8
  go_wp2_with (at_builtin; go_must (refine wpList_append_slr rfl (.tmp 20) (.tmp 22) _ rfl w6.heap.size 26 (.agg #[.int .i64 0, .int .i64 0]) 2 16 e_ii Try.underlying22 slcInfoB rfl (by decide) (fun _ => rfl) _ l7 rfl O78.out _ l8 rfl HS8.out (ii_oneB l8) (by simp only [maxLen]; omega) (by omega) h78.size ?_); intro x9 w9 p9 g9)
  have b9 := h78.grown g9 h78.size (fun j hj => (O78.out.lt j hj).1)
  have HP := Lib.hid (SlR.of_owns p9)
  have B9 := belT B6 b9
  have HA9 := Lib.hid (HA6.out.below b9)
  have HB9 := Lib.hid (HB.out.below b9)
  have h78l : (l7 ++ l8).length ≤ 4194304 := by rw [List.length_append]; omega
  obtain rfl : la = lb := merged_swap MA.out MB.out
  clear HA6 HB O78 HS8 p9 g9 h78 B8 B6 b9 MB
  refine (mergeR_any x9 (l7 ++ l8) w9 HP.out h78l).mono ?_
  rintro e w10 ⟨⟨c, lc, rfl, oc, mc, zc⟩, b10⟩
  obtain rfl : la = lc := merged_parts MA.out M7.out M8.out mc
  have B10 := belT B9 b10
  have HA10 := Lib.hid (HA9.out.below b10)
  have HB10 := Lib.hid (HB9.out.below b10)
  have HC10 := Lib.hid (SlR.of_owns oc)
  clear HA9 HB9 HP oc mc zc b10 M7 M8 B9 h78l
  have hlit := SlR.lit (enc := e_ii) w10 [.int .i64 3, .int .i64 5, .int .i64 1, .int .i64 3] 26 [(3, 5), (1, 3)] rfl
  have hbl : Below w10.heap.size w10 (w10.alloc (.cells #[.int .i64 3, .int .i64 5, .int .i64 1, .int .i64 3] 26)) := (Below.refl _ _).alloc (Nat.le_refl _) _
  have HLit := Lib.hid hlit
  clear hlit
  go_wp2_with fail
  refine (mergeR_any _ [(3, 5), (1, 3)] _ HLit.out (by decide)).mono ?_
  rintro e w11 ⟨⟨d, ld, rfl, od, md, zd⟩, b11⟩
  obtain rfl : ld = [(1, 5)] := merged_known md
  have b11' : Below w10.heap.size w10 w11 := belT hbl b11
  have B11 := belT B10 b11'
  obtain ⟨A3, c3, hv⟩ : ∃ A3 c3, d = Value.slice A3 1 c3 := od.slice
  subst hv
  have hz : la.length ≤ 140737488351232 := by have := ZA.out; omega
  have HE1 := Lib.hid (fun w' (hb : Below w11.heap.size w11 w') => eqSlc_any a b la la w' ((HA10.out.below b11').below hb) ((HB10.out.below b11').below hb) hz hz)
  have HE2 := Lib.hid (fun w' (hb : Below w11.heap.size w11 w') => eqSlc_any a c la la w' ((HA10.out.below b11').below hb) ((HC10.out.below b11').below hb) hz hz)
  have HE3 := Lib.hid (fun x w' (hb : Below w11.heap.size w11 w') (hx : SlR w' e_ii x la) => eqSlc_any x a la la w' hx ((HA10.out.below b11').below hb) hz hz)
  have HM := Lib.hid (fun w' (hb : Below w11.heap.size w11 w') => mergeR_any a la w' ((HA10.out.below b11').below hb) (Nat.le_trans ZA.out (by decide)))
  simp only [decide_true] at HE1 HE2 HE3
  clear hbl HLit b11 b11' od md zd HA10 HB10 HC10 hz
  have b0 := Below.refl w11.heap.size w11
  go_wp2_with fail
  refine (HE1.out _ b0).mono ?_
  rintro e w12 ⟨rfl, b12⟩
  go_wp2_with fail
  refine (HE2.out _ b12).mono ?_
  rintro e w13 ⟨rfl, b13⟩
  have h13 := belT b12 b13
  go_wp2_with fail
  refine (HM.out _ h13).mono ?_
  rintro e w14 ⟨⟨x14, l14, rfl, o14, m14, z14⟩, b14⟩
  obtain rfl : l14 = la := merged_again MA.out m14
  have h14 := belT h13 b14
  go_wp2_with fail
  refine (HE3.out _ _ h14 (SlR.of_owns o14)).mono ?_
  rintro e w15 ⟨rfl, b15⟩
  go_wp2_with fail
  go_ret
  exact ⟨rfl, belT B11 (belT h14 b15)⟩
end Mrg
end Go.Proofs.Ythhhlaoiampinaa
