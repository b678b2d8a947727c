import Derived.Test.YtgnblkmpoigejaaGreatDoorV26
set_option linter.unusedVariables false
set_option linter.unusedSimpArgs false
namespace Go.Proofs.YtgnblkmpoigejaaGreatDoor
set_option maxRecDepth 20000
open Go.RowKit Go.Shelf
namespace Ca
open Bk
theorem renew_last {room : Int} {made : Nat} {xs zs : List Ce} {m t : ByteArray} {l f : List Fld} {asked came : Int} {x : Ce} (hb : bestC xs m t l = some x) (hz : zs.map Ce.pl = renewX ((touchC xs (some x)).map Ce.pl) m t l f asked came) :
    (bestC (touchC xs (some x)) m t l).isSome = true ∧ ∃ init z, zs = init ++ [z] ∧ z.pl = { x.pl with x := renewH x.pl.x f asked came } := by
  have h1 := bestC_pl xs m t l
  rw [hb] at h1
  have h2 := best_touch (e := x.pl) h1.symm
  have h3 := touchE_pl xs x
  rw [h3] at h2
  have h4 := bestC_pl (touchC xs (some x)) m t l
  rw [h2] at h4
  refine ⟨?_, ?_⟩
  · cases hq : bestC (touchC xs (some x)) m t l with
    | none => rw [hq] at h4; cases h4
    | some y => rfl
  · unfold renewX at hz
    rw [h2] at hz
    unfold touchE at hz
    dsimp only at hz
    obtain ⟨init, r, rfl, h5, h6⟩ := List.map_eq_append_iff.1 hz
    obtain ⟨z, r', rfl, h7, h8⟩ := List.map_eq_cons_iff.1 h6
    have : r' = [] := by simpa using h8
    subst this
    exact ⟨init, z, rfl, h7⟩
set_option maxHeartbeats 8000000 in
theorem cacheRenews_walk (v : Value) (ys : List Stq) (m t : ByteArray) (u : Value) (b : ByteArray) (l : List Fld) (fv : Value) (f : List Fld) (asked came : Int) (w : World) (h : SlR w e_sq v ys) (hok : ∀ y ∈ ys, y.Ok w) (hs : (ys.map Stq.wt).sum ≤ 1048576) (hu : SlR w e_ss u l) (hl : (l.map (fun d => d.1.size + d.2.size + 2)).sum ≤ 1048576) (hm0 : m.size ≤ 1048576) (ht : t.size ≤ 1048576) (hb0 : b.size ≤ 1048576) (hf : SlR w e_ss fv f) (hfl : (f.map (fun d => d.1.size + d.2.size + 2)).sum ≤ 1048576) (hwa : (Lit.int .i64 asked).wf = true) (hwc : (Lit.int .i64 came).wf = true) (hmx : HasMax w) (hp10 : HasP10 w) :
    Calls Tryz.prog 5 #[v, .agg #[.string m, .string t, u, .string b], fv, .int .i64 asked, .int .i64 came] w fun e w' => e = .returned (.bool true) ∧ Below w.heap.size w w' := by
  have he : EnvK w.heap.size w := EnvK.of hmx hp10
  obtain ⟨D, hD⟩ := Fr.isDate_ex
  obtain ⟨Au, cu, rfl, -⟩ := hu.form
  obtain ⟨Af, cf, rfl, -⟩ := hf.form
  have hb1 := (Below.refl w.heap.size w).alloc (Nat.le_refl _) (.cells #[.string m, .string t, .slice Au l.length cu, .string b] 25)
  have hB := Blk.new w 25 #[.string m, .string t, .slice Au l.length cu, .string b]
  have hwl : Vy.wt l ≤ 1048576 := hl
  have hwf : Fr.wt f ≤ 1048576 := hfl
  have hEn : EnvK (w.alloc (.cells #[.string m, .string t, .slice Au l.length cu, .string b] 25)).heap.size (w.alloc (.cells #[.string m, .string t, .slice Au l.length cu, .string b] 25)) := EnvK.of (he.below hb1).max (he.below hb1).p10
  have HCa := Lib.hid (cached_any 100000 v ys _ (h.below hb1) (fun y hy => (hok y hy).below hb1) hs (by decide) (by decide) hEn)
  have HU := Lib.hid (hu.below hb1)
  have HF := Lib.hid (hf.below hb1)
  have HB1 := Lib.hid hb1
  have HEn := Lib.hid hEn
  obtain ⟨Av, cv, rfl, -⟩ := h.form
  have hyl : ys.length ≤ 1048576 := Nat.le_trans (len_wt ys) hs
  clear h hok hs hu hl he hb1 hEn hf hfl hmx hp10 hwa hwc
  go_enter Tryz.func5, Tryz.ntmps5
  go_wp2_with fail
  generalize (w.alloc _) = w1 at *
  refine HCa.out.mono ?_
  rintro e w2 ⟨A, M, xs, rfl, hex, hS, hpl, hM, b2⟩
  have hB2 := hB.below b2 hB.lt
  have HB2 := Lib.hid b2
  have hmd : (runM 100000 ys).2 ≤ 1048576 := by
    have h1 := (runM_inv (room := 100000) (by decide) ys).2
    omega
  have HFi := Lib.hid (find_any D hD w1.heap.size M (runM 100000 ys).2 A 100000 xs m t (.slice Au l.length cu) b l 0 w2 hS (by omega) (by omega) (fun W hW => HU.out.below (b2.trans hW.bel)) (by omega) (by omega) (HEn.out.bel b2))
  have HBC := Lib.hid (fun (x : Ce) (hx : bestC xs m t l = some x) => hx)
  have hnb : bestC xs m t l = none → bestC (touchC xs none) m t l = none := fun h => h
  obtain ⟨o, hoe⟩ : ∃ o, o = bestC xs m t l := ⟨_, rfl⟩
  rw [← hoe] at HFi
  have HOE := Lib.hid hoe
  clear hS hpl b2 HCa hB HBC hnb hoe
  unfold rqV at HFi
  go_wp2_with (first
    | refine wpList_load_row rfl 25 (.tmp 6) rfl w.heap.size rfl 25 _ (0, 0) _ hB2 Tryz.underlying25 rfl (by kernel_rfl) ?_)
  refine HFi.out.mono ?_
  rintro e w3 ⟨hans, hS3, hr3⟩
  have hB3 := Blk.rm hB2 hr3 (by decide)
  have HB3 := Lib.hid (HB2.out.trans hr3.bel)
  have HS3 := Lib.hid hS3
  clear hS3 hr3 hB2 HFi
  cases o with
  | none =>
    have he : e = .returned (.tuple #[.agg hZ, .int .i64 0, .bool false]) := hans
    subst he
    have hst : (storeCells ⟨w3.heap.size, 0, none⟩ hZ.toList).run Tryz.prog (w3.alloc (.cells hZ 29)) = .ok () (w3.alloc (.cells hZ 29)) := run_storeCells_new (P := Tryz.prog) w3 29 hZ hZ (by kernel_rfl) rfl (by simp [hZ, Value.oneCell'])
    have b4 := (Below.refl w3.heap.size w3).alloc (Nat.le_refl _) (.cells hZ 29)
    have hB4 := hB3.below b4 hB3.lt
    have HB4 := Lib.hid (HB3.out.trans (b4.mono HB3.out.size))
    have hE4 := HEn.out.bel HB4.out
    have HRe := Lib.hid (renew_any w1.heap.size M (runM 100000 ys).2 A 100000 xs m t (.slice Au l.length cu) b l (.slice Af f.length cf) f asked came _ (HS3.out.below b4) (by omega) (by omega) (fun W hW => HU.out.below (HB4.out.trans hW.bel)) (by omega) (by omega) (fun W hW => HF.out.below (HB4.out.trans hW.bel)) (by omega) hE4)
    rw [← HOE.out] at HRe
    unfold rqV at HRe
    unfold hZ at *
    go_wp2_with (first
      | refine wpList_load_row rfl 25 (.tmp 6) rfl w.heap.size rfl 25 _ (0, 0) _ hB4 Tryz.underlying25 rfl (by kernel_rfl) ?_)
    refine HRe.out.mono ?_
    rintro e w5 ⟨rfl, -, hr5⟩
    rw [show (none : Option Ce).isSome = false from rfl]
    have HB5 := Lib.hid (HB1.out.trans ((HB4.out.trans hr5.bel).mono HB1.out.size))
    go_wp2_with fail
    go_ret
    exact ⟨rfl, HB5.out⟩
  | some x =>
    obtain ⟨u5, v5, he5, hok5⟩ := hans
    subst he5
    obtain ⟨A1, c1, hA1, -⟩ := (SlR.of_owns hok5.1).form
    obtain ⟨A2, c2, hA2, -⟩ := (SlR.of_owns hok5.2).form
    dsimp only at hA1 hA2
    subst hA1 hA2
    have b4 := (Below.refl w3.heap.size w3).alloc (Nat.le_refl _) (.cells (hdC x (.slice A1 x.l.length c1) (.slice A2 x.k.length c2)) 29)
    have hH := Blk.new w3 29 (hdC x (.slice A1 x.l.length c1) (.slice A2 x.k.length c2))
    have hst := ho_store w3 x A1 A2 x.l.length c1 x.k.length c2
    have hB4 := hB3.below b4 hB3.lt
    have HB4 := Lib.hid (HB3.out.trans (b4.mono HB3.out.size))
    have hok4 := hok5.below b4
    have hE4 := HEn.out.bel HB4.out
    have HRe := Lib.hid (renew_any w1.heap.size M (runM 100000 ys).2 A 100000 (touchC xs (some x)) m t (.slice Au l.length cu) b l (.slice Af f.length cf) f asked came _ (HS3.out.below b4) (by omega) (by omega) (fun W hW => HU.out.below (HB4.out.trans hW.bel)) (by omega) (by omega) (fun W hW => HF.out.below (HB4.out.trans hW.bel)) (by omega) hE4)
    have HXE := Lib.hid ((HS3.out.t.ent x (by unfold touchC; simp)))
    unfold rqV at HRe
    unfold hZ at hst
    unfold hdC at *
    clear hok5
    go_wp2_with (first
      | refine wpList_load_row rfl 25 (.tmp 6) rfl w.heap.size rfl 25 _ (0, 0) _ hB4 Tryz.underlying25 rfl (by kernel_rfl) ?_)
    clear hst
    generalize w3.alloc _ = w4 at *
    refine HRe.out.mono ?_
    rintro e w5 ⟨rfl, ⟨zs, hzs, hS5⟩, hr5⟩
    obtain ⟨hsome, init, z, hzi, hzp⟩ := renew_last (room := 100000) (made := 0) HOE.out.symm hzs
    rw [hsome]
    have hH5 := Blk.rm hH hr5 (by decide)
    have hok5 : HoOk w5 w2.heap.size (x, .slice A1 x.l.length c1, .slice A2 x.k.length c2) := ⟨Owns.rm hok4.1 hr5 (by decide), Owns.rm hok4.2 hr5 (by decide)⟩
    have HB5 := Lib.hid (HB4.out.trans hr5.bel)
    have HAl := Lib.hid (all_any w1.heap.size (M + Fr.wt f) (runM 100000 ys).2 A 100000 zs w5 hS5 (by omega) (by omega))
    have HZE := Lib.hid (hS5.t.ent z (by rw [hzi]; simp))
    have hz20 := hS5.t.len
    clear hB3 hB4 hS5 hr5 hH hok4 HRe hzs hsome hE4 b4
    go_wp2_with fail
    refine HAl.out.mono ?_
    rintro e w6 ⟨⟨vv, hs, rfl, ho, hhs, hoks⟩, b6⟩
    have hH6 := hH5.below b6 hH5.lt
    have hok6 := hok5.below b6
    have HB6 := Lib.hid (HB5.out.trans (b6.mono HB5.out.size))
    rw [hzi] at hhs
    obtain ⟨hi, hr, rfl, -, hhr⟩ := List.map_eq_append_iff.1 hhs
    obtain ⟨y, hr', rfl, hy, hr'n⟩ := List.map_eq_cons_iff.1 hhr
    have hrn : hr' = [] := by simpa using hr'n
    subst hrn
    obtain ⟨z', u7, v7⟩ := y
    dsimp only at hy
    subst hy
    have hoz := hoks (z', u7, v7) (by simp)
    have hlen : (hi ++ [(z', u7, v7)]).length = hi.length + 1 := by simp
    have hi20 : hi.length ≤ 20 := by
      have := congrArg List.length hhs
      rw [List.length_map, ← hzi] at this
      rw [hlen] at this
      omega
    obtain ⟨bb, off, ch, hve, hbb, hcell⟩ := ho_at (W := w6) ho (by simp)
    have hC := hcell hi.length (by simp) w6 (Below.refl _ _)
    rw [hlen] at hve
    subst hve
    have hge : (hi ++ [(z', u7, v7)])[hi.length]'(by simp) = (z', u7, v7) := by simp
    rw [hge] at hC
    obtain ⟨A3, c3, hA3, -⟩ := (SlR.of_owns hoz.1).form
    obtain ⟨A4, c4, hA4, -⟩ := (SlR.of_owns hoz.2).form
    dsimp only at hA3 hA4
    subst hA3 hA4
    have HOZ := Lib.hid hoz
    have hB6lt := hH6.lt
    clear hH5 hok5 ho hhs hoks hcell hge HAl hhr hoz hlen hbb b6 hzi
    generalize hi.length = n at *
    have hsub : IntKind.i64.wrap ((n : Int) + 1 - 1) = (n : Int) := by rw [IntKind.wrap_i64]; omega
    have hne0 : ((n : Int) + 1 == 0) = false := by rw [beq_eq_false_iff_ne]; omega
    have hlt1 : (n : Int) < (n : Int) + 1 := by omega
    have hst := ho_store w6 z' A3 A4 z'.l.length c3 z'.k.length c4
    have hZn := Blk.new w6 29 (hdC z' (.slice A3 z'.l.length c3) (.slice A4 z'.k.length c4))
    have b7 := (Below.refl w6.heap.size w6).alloc (Nat.le_refl _) (.cells (hdC z' (.slice A3 z'.l.length c3) (.slice A4 z'.k.length c4)) 29)
    have hH7 := hH6.below b7 hH6.lt
    have hok7 := hok6.below b7
    have HOZ7 := Lib.hid (HOZ.out.below b7)
    have HB7 := Lib.hid (HB6.out.trans (b7.mono HB6.out.size))
    unfold hZ at hst
    unfold e_ho at hC
    unfold hdC at *
    dsimp only at hC
    have y6 : (w6.alloc (.cells #[.string z'.h.rm, .string z'.h.rt, .slice A3 z'.l.length c3, .string z'.h.rb, .int .i64 z'.h.code, .string z'.h.rs, .slice A4 z'.k.length c4, .string z'.h.bd, .int .i64 z'.h.asked, .int .i64 z'.h.came, .int .i64 z'.h.mark] 29)).cell? ⟨w3.heap.size, 6, none⟩ = some (.slice A2 x.k.length c2) := hH7.cell 6
    have HFr := Lib.hid (Pol.freshen_any (.slice A2 x.k.length c2) (.slice Af f.length cf) x.k f _ ⟨SlR.of_owns hok7.2, by have h1 := HXE.out.wk; have e : Fr.wt x.k = Pol.wt x.k := rfl; omega⟩ ⟨HF.out.below HB7.out, by have e : Fr.wt f = Pol.wt f := rfl; omega⟩ (by have h1 := HXE.out.wk; have e : Fr.wt x.k = Pol.wt x.k := rfl; have e2 : Fr.wt f = Pol.wt f := rfl; omega))
    go_wp2_with (first
      | refine wpList_load_mid rfl 29 (.tmp 47) rfl bb (off + n * 11) rfl _ _ hC Tryz.underlying29 rfl (by kernel_rfl) ?_)
    clear hst hC y6 hH6 hok6
    generalize w6.alloc _ = w7 at *
    refine HFr.out.mono ?_
    rintro e w8 ⟨⟨v9, rfl, o9⟩, b8⟩
    obtain ⟨A9, c9, rfl, -⟩ := (SlR.of_owns o9).form
    have hH8 := hH7.below b8 hH7.lt
    have hZ8 := hZn.below b8 hZn.lt
    have hok8 := hok7.below b8
    have hoz8 := HOZ7.out.below b8
    have HB8 := Lib.hid (HB7.out.trans (b8.mono HB7.out.size))
    have hzne : w6.heap.size ≠ w3.heap.size := by
      have := hH7.lt
      intro e
      have h1 := hB6lt
      omega
    have y6 : w8.cell? ⟨w3.heap.size, 6, none⟩ = some (.slice A2 x.k.length c2) := hH8.cell 6
    have y8 := hH8.cell 8
    have y9 := hH8.cell 9
    have f6 := hH8.frozen 6
    have f8 := hH8.frozen 8
    have f9 := hH8.frozen 9
    have g9 : w8.grownBy (((w8.setCell ⟨w3.heap.size, 6, none⟩ (.slice A9 (Pol.freshF x.k f).length c9)).setCell ⟨w3.heap.size, 8, none⟩ (.int .i64 asked)).setCell ⟨w3.heap.size, 9, none⟩ (.int .i64 came)) (some w3.heap.size) := gr_trans (gr_trans (gcell w8 ⟨w3.heap.size, 6, none⟩ _) (gcell _ ⟨w3.heap.size, 8, none⟩ _)) (gcell _ ⟨w3.heap.size, 9, none⟩ _)
    have hH9 : Blk (((w8.setCell ⟨w3.heap.size, 6, none⟩ (.slice A9 (Pol.freshF x.k f).length c9)).setCell ⟨w3.heap.size, 8, none⟩ (.int .i64 asked)).setCell ⟨w3.heap.size, 9, none⟩ (.int .i64 came)) w3.heap.size 29 #[.string x.h.rm, .string x.h.rt, .slice A1 x.l.length c1, .string x.h.rb, .int .i64 x.h.code, .string x.h.rs, .slice A9 (Pol.freshF x.k f).length c9, .string x.h.bd, .int .i64 asked, .int .i64 came, .int .i64 x.h.mark] := ((hH8.set_ 6 _).set_ 8 _).set_ 9 _
    have hZ9 := Blk.keptR hZ8 g9 (by intro e; injection e with e; exact hzne e)
    have HZ1 := Lib.hid (hoz8.1.grownOther g9 (ownNe hoz8.1 hH8 (by decide)))
    have HZ2 := Lib.hid (hoz8.2.grownOther g9 (ownNe hoz8.2 hH8 (by decide)))
    have HK1 := Lib.hid (hok8.1.grownOther g9 (ownNe hok8.1 hH8 (by decide)))
    have HK2 := Lib.hid (o9.grownOther g9 (ownNe o9 hH8 (by decide)))
    have hn1 : w1.heap.size ≤ w3.heap.size := HB3.out.size
    have HB9 := Lib.hid (HB1.out.trans ((HB8.out.grown g9 HB8.out.size (fun k hk => by cases hk; exact hn1)).mono HB1.out.size))
    clear g9 hoz8 hok8 o9 hH7 hZn hok7 b8 b7 HFr HOZ7 HOZ
    go_wp2_with (first
      | refine wpList_load_row rfl 29 (.tmp 16) rfl w6.heap.size rfl 29 _ (0, 0) _ hZ9 Tryz.underlying29 rfl (by kernel_rfl) ?_
      | refine wpList_load_row rfl 29 (.tmp 12) rfl w3.heap.size rfl 29 _ (0, 0) _ hH9 Tryz.underlying29 rfl (by kernel_rfl) ?_)
    have hwx := HXE.out.wl
    have hwz := HZE.out.wk
    obtain ⟨xb, xn, ⟨xrm, xrt, xrf, xrb, xcode, xrs, xbd, xasked, xcame, xmark⟩, xu, xl, xk, xkey, xpv⟩ := x
    obtain ⟨zb, zn, ⟨zrm, zrt, zrf, zrb, zcode, zrs, zbd, zasked, zcame, zmark⟩, zu, zl, zk, zkey, zpv⟩ := z'
    simp only [Ce.pl, plH, renewH, En.mk.injEq, Hp.mk.injEq] at hzp
    obtain ⟨-, ⟨rfl, rfl, rfl, rfl, rfl, rfl, rfl, rfl, rfl, rfl, rfl⟩, -⟩ := hzp
    dsimp only at *
    have hl1 : zl.length ≤ 140737488351232 := by have := Fr.wt_len zl; omega
    have hl2 : (Pol.freshF xk f).length ≤ 140737488351232 := by have := Fr.wt_len (Pol.freshF xk f); omega
    generalize ((w8.setCell _ _).setCell _ _).setCell _ _ = w9 at *
    have HSa := Lib.hid (sameHeld_true ⟨zrm, zrt, .slice A3 zl.length c3, zrb, zcode, zrs, zbd, zasked, zcame, zmark⟩ (.slice A3 zl.length c3) (.slice A1 zl.length c1) (.slice A4 (Pol.freshF xk f).length c4) (.slice A9 (Pol.freshF xk f).length c9) zl (Pol.freshF xk f) w9 (SlR.of_owns HZ1.out) (SlR.of_owns HK1.out) (SlR.of_owns HZ2.out) (SlR.of_owns HK2.out) hl1 hl2)
    unfold Fr.hv at HSa
    dsimp only at HSa
    refine HSa.out.mono ?_
    rintro e w10 ⟨rfl, b10⟩
    go_wp2_with fail
    go_ret
    exact ⟨rfl, HB9.out.trans (b10.mono HB9.out.size)⟩
end Ca
end Go.Proofs.YtgnblkmpoigejaaGreatDoor
