/- FreshTold: the law's walk. -/
import Derived.Test.YtiijgbgknolmcaaDoorFrsT
namespace Go.Proofs.YtiijgbgknolmcaaDoor
set_option maxRecDepth 20000
open Go.RowKit
abbrev HasMax := HasMaxL
open Fr
namespace Fr
theorem wt_le {l : List Fld} (h : (l.map (fun d => d.1.size + d.2.size + 2)).sum ≤ 1048576) : wt l ≤ 4398046511104 := by
  have : wt l ≤ 1048576 := h
  omega
theorem wt_append (l m : List Fld) : wt (l ++ m) = wt l + wt m := by unfold wt; rw [List.map_append, List.sum_append]
theorem wt_filter (p : Fld → Bool) : ∀ l : List Fld, wt (l.filter p) ≤ wt l
  | [] => Nat.le_refl _
  | x :: l => by
    have ih := wt_filter p l
    unfold wt at *
    rw [List.filter_cons]
    split
    · simp only [List.map_cons, List.sum_cons]; omega
    · simp only [List.map_cons, List.sum_cons]; omega
theorem wt_set (l : List Fld) (n a : ByteArray) : wt (setF l n a) ≤ wt l + n.size + a.size + 2 := by
  have h1 : wt [(n, a)] = n.size + a.size + 2 := by simp [wt]
  rcases setF_shape l n with ⟨_, hs⟩ | ⟨k, hk, _, _, hs⟩
  · rw [hs, wt_append, h1]; omega
  · rw [hs, wt_append, wt_append, h1]
    have h2 : wt (dropF (l.drop (k + 1)) n) ≤ wt (l.drop (k + 1)) := wt_filter _ _
    have h3 : wt l = wt (l.take k) + (wt [l[k]] + wt (l.drop (k + 1))) := by
      conv => lhs; rw [← List.take_append_drop k l, wt_append, List.drop_eq_getElem_cons hk, show l[k] :: l.drop (k + 1) = [l[k]] ++ l.drop (k + 1) from rfl, wt_append]
    omega
theorem wt_drop (l : List Fld) (n : ByteArray) : wt (dropF l n) ≤ wt l := wt_filter _ _
theorem HB.set6 {w : World} {g : Nat} {x : Hd} {u : Value} (h : HB w g x u) (v : Value) : HB (w.setCell ⟨g, 6, none⟩ v) g x v := by
  obtain ⟨h0, h1, h2, h3, h4, h5, h6, h7, h8, h9, h10, h11⟩ := h
  refine ⟨by simpa using h0, ?_, ?_, ?_, ?_, ?_, ?_, ?_, ?_, ?_, ?_, ?_⟩ <;> simp [go_sem, h1, h2, h3, h4, h5, h6, h7, h8, h9, h10, h11]
end Fr
set_option maxHeartbeats 12800000 in
theorem freshTold_walk (x : Hd) (u : Value) (l : List Fld) (a0 b0 n0 : Int) (w : World) (h : SlR w e_ss u l) (hs : (l.map (fun d => d.1.size + d.2.size + 2)).sum ≤ 1048576) (hc : (Lit.int .i64 x.code).wf = true) (has : (Lit.int .i64 x.asked).wf = true) (hca : (Lit.int .i64 x.came).wf = true) (hwa : (Lit.int .i64 a0).wf = true) (hwb : (Lit.int .i64 b0).wf = true) (hwn : (Lit.int .i64 n0).wf = true) (hmax : HasMax w) (hp10 : HasP10 w) :
    Calls Tryd.prog 11 #[hv x u, .int .i64 a0, .int .i64 b0, .int .i64 n0] w fun e w' => e = .returned (.bool true) ∧ Below w.heap.size w w' := by
  obtain ⟨D, hD⟩ := isDate_ex
  have hL : LOk w u l := ⟨h, wt_le hs⟩
  have hls : wt l ≤ 1048576 := hs
  have B1 : Below w.heap.size w (hA w x u) := (Below.refl _ _).alloc (Nat.le_refl _) _
  obtain ⟨a, hae, ha5⟩ : ∃ a : Nat, a0 % 100000 = (a : Int) ∧ a < 100000 := ⟨(a0 % 100000).toNat, by omega, by omega⟩
  obtain ⟨b, hbe, hb5⟩ : ∃ b : Nat, b0 % 100000 = (b : Int) ∧ b < 100000 := ⟨(b0 % 100000).toNat, by omega, by omega⟩
  obtain ⟨n, hne, hn5⟩ : ∃ n : Nat, n0 % 253402300800 = (n : Int) ∧ n ≤ 253402300799 := ⟨(n0 % 253402300800).toNat, by omega, by omega⟩
  have HR1 := Lib.hid (fun w => rest_any a0 100000 w (wide_of hwa) (by omega))
  have HR2 := Lib.hid (fun w => rest_any b0 100000 w (wide_of hwb) (by omega))
  have HR3 := Lib.hid (fun w => rest_any n0 253402300800 w (wide_of hwn) (by omega))
  rw [hae] at HR1
  rw [hbe] at HR2
  rw [hne] at HR3
  have HAN := Lib.hid (fun w' (hb : Below w.heap.size w w') => anchored_any w' (hp10.below rfl hb) (hmax.below rfl hb))
  have HDP := Lib.hid (fun w' (hb : Below w.heap.size w w') => datePrint_ok n w' hn5 (hp10.below rfl hb))
  have HLI := Lib.hid (fun (v : Value) (L : List Fld) (w' : World) (hb : Below w.heap.size w w') (hl : LOk w' v L) => life_any D hD x v L w' hl (hp10.below rfl hb) (hmax.below rfl hb))
  have T1 := Lib.hid (told_max D (setF l nExp (mkS (Dt.printD n))) x.code x.came ha5)
  have T2 := Lib.hid (told_two D (setF l nExp (mkS (Dt.printD n))) x.code x.came ha5 hb5)
  have T3 := Lib.hid (told_exp hD l x.code x.came hn5)
  have ht : (mkS (Dt.printD n)).size = 29 := by rw [mkS_size, printD_len' n hn5]
  generalize mkS (Dt.printD n) = t at *
  have hd1 : (digS a).size ≤ 5 := by unfold digS; rw [mkS_size]; exact digL_5 ha5
  have hd2 : (digS b).size ≤ 5 := by unfold digS; rw [mkS_size]; exact digL_5 hb5
  have hm1 := maxS_size ha5
  have hm2 := twoS_size ha5 hb5
  have k1 : nCC.size = 13 := rfl
  have k2 : nExp.size = 7 := rfl
  have k3 : nDate.size = 4 := rfl
  have z1 := wt_set l nExp t
  have z2 := wt_set (setF l nExp t) nCC (maxS a)
  have z3 := wt_set (setF l nExp t) nCC (twoS a b)
  have z4 := wt_drop (setF l nExp t) nCC
  have z5 := wt_set (dropF (setF l nExp t) nCC) nDate t
  have y0 : (l.length + 1) * 32 ≤ 140737488355328 := by have := wt_len l; omega
  have y1 : ((setF l nExp t).length + 1) * 32 ≤ 140737488355328 := by have := wt_len (setF l nExp t); omega
  have y1' : (setF l nExp t).length * 32 ≤ 140737488355328 := by omega
  have y4 : ((dropF (setF l nExp t) nCC).length + 1) * 32 ≤ 140737488355328 := by have := wt_len (dropF (setF l nExp t) nCC); omega
  have q1 : wt (setF l nExp t) ≤ 4398046511104 := by omega
  have q2 : wt (setF (setF l nExp t) nCC (maxS a)) ≤ 4398046511104 := by omega
  have q3 : wt (setF (setF l nExp t) nCC (twoS a b)) ≤ 4398046511104 := by omega
  have q4 : wt (dropF (setF l nExp t) nCC) ≤ 4398046511104 := by omega
  have q5 : wt (setF (dropF (setF l nExp t) nCC) nDate t) ≤ 4398046511104 := by omega
  have HB1 := Lib.hid (HB.new w x u)
  have fz1 : (hA w x u).frozen? ⟨w.heap.size, 6, none⟩ = false := by go_simp
  have HL := Lib.hid hL
  clear h hs hc has hca hwa hwb hwn hmax hp10 hL hae hbe hne z1 z2 z3 z4 z5 hls k1 k2 k3
  obtain ⟨rm, rt, rf, rb, code, rs, bd, asked, came, mark⟩ := x
  unfold hv at *
  unfold hA at *
  dsimp only at *
  go_enter Tryd.func11, Tryd.ntmps11
  go_wp2_with fail
  generalize (w.alloc (.cells #[.string rm, .string rt, rf, .string rb, .int .i64 code, .string rs, u, .string bd, .int .i64 asked, .int .i64 came, .int .i64 mark] 44)) = w1 at *
  have hg1 : w.heap.size < w1.heap.size := HB1.out.lt
  refine (HAN.out _ B1).mono ?_
  rintro e w2 ⟨rfl, b2⟩
  have B2 := belT B1 b2
  go_wp2_with fail
  refine (HR1.out _).mono ?_
  rintro e w' ⟨rfl, rfl⟩
  go_wp2_with fail
  refine (HR2.out _).mono ?_
  rintro e w' ⟨rfl, rfl⟩
  go_wp2_with fail
  refine (HR3.out _).mono ?_
  rintro e w' ⟨rfl, rfl⟩
  go_wp2_with fail
  refine (HDP.out _ B2).mono ?_
  rintro e w3 ⟨rfl, b3⟩
  have B3 := belT B2 b3
  have b13 := belT b2 b3
  have HB3 := Lib.hid (HB1.out.below b13)
  have fz3 := (b13.frozen (p := ⟨w.heap.size, 6, none⟩) hg1).trans fz1
  have hg3 : w.heap.size < w3.heap.size := HB3.out.lt
  clear HB1 fz1 HAN HR1 HR2 HR3 HDP
  obtain ⟨gl, x0, x1, x2, x3, x4, x5, x6, x7, x8, x9, x10⟩ := HB3.out
  dsimp only at x0 x1 x2 x3 x4 x5 x6 x7 x8 x9 x10
  go_wp2_with fail
  clear x0 x1 x2 x3 x4 x5 x6 x7 x8 x9 x10 gl
  refine (set_any u l nExp t _ (HL.out.below B3).sl y0 (HL.out.below B3).lims (by decide)).mono ?_
  rintro e w4 ⟨⟨v4, rfl, o4⟩, b4⟩
  obtain ⟨A4, c4, hv4⟩ := o4.slice
  subst hv4
  go_wp2_with fail
  refine (digits_any a _ (by omega)).mono ?_
  rintro e w5 ⟨rfl, b5⟩
  have o5 := o4.below b5
  go_wp2_with fail
  refine (set_any _ (setF l nExp t) nCC (maxS a) _ (SlR.of_owns o5) y1 (LOk.lims ⟨SlR.of_owns o5, q1⟩) (by decide)).mono ?_
  rintro e w6 ⟨⟨v6, rfl, o6⟩, b6⟩
  have gq6 : w3.heap.size ≤ w5.heap.size := Nat.le_trans b4.size b5.size
  obtain ⟨A6, c6, hv6⟩ := o6.slice
  subst hv6
  have HB6 := Lib.hid (HB3.out.below (belT (belT b4 b5) b6))
  have fz6 := (((belT (belT b4 b5) b6)).frozen (p := ⟨w.heap.size, 6, none⟩) HB3.out.lt).trans fz3
  have B6 := belT B3 (belT (belT b4 b5) b6)
  have HS6 := Lib.hid (HB6.out.set6 (.slice A6 (setF (setF l nExp t) nCC (maxS a)).length c6))
  have fs6 : (w6.setCell ⟨w.heap.size, 6, none⟩ (.slice A6 (setF (setF l nExp t) nCC (maxS a)).length c6)).frozen? ⟨w.heap.size, 6, none⟩ = false := by simp [go_sem, fz6]
  have BS6 : Below w.heap.size w (w6.setCell ⟨w.heap.size, 6, none⟩ (.slice A6 (setF (setF l nExp t) nCC (maxS a)).length c6)) := B6.setCell (p := ⟨w.heap.size, 6, none⟩) (Nat.le_refl _) _
  have OV6 := o6.setFar ⟨w.heap.size, 6, none⟩ (.slice A6 (setF (setF l nExp t) nCC (maxS a)).length c6) (fun e => by have q := (o6.lt _ e).1; have := HB3.out.lt; have := ((belT (belT b4 b5) b6)).size; have := gq6; simp only at q; omega)
  have OL6 := (o5.below b6).setFar ⟨w.heap.size, 6, none⟩ (.slice A6 (setF (setF l nExp t) nCC (maxS a)).length c6) (fun e => by have q := ((o5.below b6).lt _ e).1; simp only at q; omega)
  obtain ⟨gl, x0, x1, x2, x3, x4, x5, x6, x7, x8, x9, x10⟩ := HB6.out
  dsimp only at x0 x1 x2 x3 x4 x5 x6 x7 x8 x9 x10
  go_wp2_with fail
  clear x0 x1 x2 x3 x4 x5 x6 x7 x8 x9 x10 gl
  generalize w6.setCell ⟨w.heap.size, 6, none⟩ (.slice A6 (setF (setF l nExp t) nCC (maxS a)).length c6) = w7 at *
  refine (HLI.out _ _ _ BS6 ⟨SlR.of_owns OV6, q2⟩).mono ?_
  rintro e w8 ⟨rfl, b8⟩
  rw [T1.out]
  have B8 := belT BS6 b8
  have o8 := OL6.below b8
  have hg8 : w.heap.size < w8.heap.size := Nat.lt_of_lt_of_le HS6.out.lt b8.size
  clear OV6 b4 b5 b6 o4 o5 o6 B6 HB6 fz6
  go_wp2_with fail
  refine (digits_any b _ (by omega)).mono ?_
  rintro e w9 ⟨rfl, b9⟩
  have o9 := o8.below b9
  go_wp2_with fail
  refine (set_any _ (setF l nExp t) nCC (twoS a b) _ (SlR.of_owns o9) y1 (LOk.lims ⟨SlR.of_owns o9, q1⟩) (by decide)).mono ?_
  rintro e w10 ⟨⟨v10, rfl, o10⟩, b10⟩
  have gq10 : w8.heap.size ≤ w9.heap.size := b9.size
  obtain ⟨A10, c10, hv10⟩ := o10.slice
  subst hv10
  have HB10 := Lib.hid (HS6.out.below (belT (belT b8 b9) b10))
  have fz10 := (((belT (belT b8 b9) b10)).frozen (p := ⟨w.heap.size, 6, none⟩) HS6.out.lt).trans fs6
  have B10 := belT BS6 (belT (belT b8 b9) b10)
  have HS10 := Lib.hid (HB10.out.set6 (.slice A10 (setF (setF l nExp t) nCC (twoS a b)).length c10))
  have fs10 : (w10.setCell ⟨w.heap.size, 6, none⟩ (.slice A10 (setF (setF l nExp t) nCC (twoS a b)).length c10)).frozen? ⟨w.heap.size, 6, none⟩ = false := by simp [go_sem, fz10]
  have BS10 : Below w.heap.size w (w10.setCell ⟨w.heap.size, 6, none⟩ (.slice A10 (setF (setF l nExp t) nCC (twoS a b)).length c10)) := B10.setCell (p := ⟨w.heap.size, 6, none⟩) (Nat.le_refl _) _
  have OV10 := o10.setFar ⟨w.heap.size, 6, none⟩ (.slice A10 (setF (setF l nExp t) nCC (twoS a b)).length c10) (fun e => by have q := (o10.lt _ e).1; have := HS6.out.lt; have := ((belT (belT b8 b9) b10)).size; have := gq10; simp only at q; omega)
  have OL10 := (o9.below b10).setFar ⟨w.heap.size, 6, none⟩ (.slice A10 (setF (setF l nExp t) nCC (twoS a b)).length c10) (fun e => by have q := ((o9.below b10).lt _ e).1; simp only at q; omega)
  obtain ⟨gl, x0, x1, x2, x3, x4, x5, x6, x7, x8, x9, x10⟩ := HB10.out
  dsimp only at x0 x1 x2 x3 x4 x5 x6 x7 x8 x9 x10
  go_wp2_with fail
  clear x0 x1 x2 x3 x4 x5 x6 x7 x8 x9 x10 gl
  generalize w10.setCell ⟨w.heap.size, 6, none⟩ (.slice A10 (setF (setF l nExp t) nCC (twoS a b)).length c10) = w11 at *
  refine (HLI.out _ _ _ BS10 ⟨SlR.of_owns OV10, q3⟩).mono ?_
  rintro e w12 ⟨rfl, b12⟩
  rw [T2.out]
  have B12 := belT BS10 b12
  have o12 := OL10.below b12
  have hg12 : w.heap.size < w12.heap.size := Nat.lt_of_lt_of_le HS10.out.lt b12.size
  go_wp2_with fail
  refine (drop_any _ (setF l nExp t) nCC _ (SlR.of_owns o12) y1' (LOk.lims ⟨SlR.of_owns o12, q1⟩) (by decide)).mono ?_
  rintro e w13 ⟨⟨v13, rfl, o13⟩, b13'⟩
  obtain ⟨A13, c13, hv13⟩ := o13.slice
  subst hv13
  go_wp2_with fail
  refine (set_any _ (dropF (setF l nExp t) nCC) nDate t _ (SlR.of_owns o13) y4 (LOk.lims ⟨SlR.of_owns o13, q4⟩) (by decide)).mono ?_
  rintro e w14 ⟨⟨v14, rfl, o14⟩, b14⟩
  have gq14 : w12.heap.size ≤ w13.heap.size := b13'.size
  obtain ⟨A14, c14, hv14⟩ := o14.slice
  subst hv14
  have HB14 := Lib.hid (HS10.out.below (belT (belT b12 b13') b14))
  have fz14 := (((belT (belT b12 b13') b14)).frozen (p := ⟨w.heap.size, 6, none⟩) HS10.out.lt).trans fs10
  have B14 := belT BS10 (belT (belT b12 b13') b14)
  have HS14 := Lib.hid (HB14.out.set6 (.slice A14 (setF (dropF (setF l nExp t) nCC) nDate t).length c14))
  have fs14 : (w14.setCell ⟨w.heap.size, 6, none⟩ (.slice A14 (setF (dropF (setF l nExp t) nCC) nDate t).length c14)).frozen? ⟨w.heap.size, 6, none⟩ = false := by simp [go_sem, fz14]
  have BS14 : Below w.heap.size w (w14.setCell ⟨w.heap.size, 6, none⟩ (.slice A14 (setF (dropF (setF l nExp t) nCC) nDate t).length c14)) := B14.setCell (p := ⟨w.heap.size, 6, none⟩) (Nat.le_refl _) _
  have OV14 := o14.setFar ⟨w.heap.size, 6, none⟩ (.slice A14 (setF (dropF (setF l nExp t) nCC) nDate t).length c14) (fun e => by have q := (o14.lt _ e).1; have := HS10.out.lt; have := ((belT (belT b12 b13') b14)).size; have := gq14; simp only at q; omega)
  obtain ⟨gl, x0, x1, x2, x3, x4, x5, x6, x7, x8, x9, x10⟩ := HB14.out
  dsimp only at x0 x1 x2 x3 x4 x5 x6 x7 x8 x9 x10
  go_wp2_with fail
  clear x0 x1 x2 x3 x4 x5 x6 x7 x8 x9 x10 gl
  generalize w14.setCell ⟨w.heap.size, 6, none⟩ (.slice A14 (setF (dropF (setF l nExp t) nCC) nDate t).length c14) = w15 at *
  refine (HLI.out _ _ _ BS14 ⟨SlR.of_owns OV14, q5⟩).mono ?_
  rintro e w16 ⟨rfl, b16⟩
  rw [T3.out]
  go_wp2_with fail
  go_ret
  exact ⟨rfl, belT BS14 b16⟩
end Go.Proofs.YtiijgbgknolmcaaDoor
