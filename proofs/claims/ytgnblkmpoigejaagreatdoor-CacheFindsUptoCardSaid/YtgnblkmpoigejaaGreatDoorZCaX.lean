import Derived.Test.YtgnblkmpoigejaaGreatDoorV25
import Derived.Test.YtgnblkmpoigejaaGreatDoorV26
set_option linter.unusedVariables false
set_option linter.unusedSimpArgs false
namespace Go.Proofs.YtgnblkmpoigejaaGreatDoor
set_option maxRecDepth 20000
open Go.RowKit Go.Shelf
namespace Ca
open Bk
theorem keep_no {xs : List En} {made : Nat} {h : Hp} (hk : (keepM 100000 xs made h).is = false) : (keepM 100000 xs made h).e ≠ 0 ∨ Dp.mayF h.rm h.l h.code h.k = false := by
  unfold keepM at hk ⊢
  split
  · rename_i h1
    exact .inl h1
  · rename_i h1
    rw [if_neg h1] at hk
    split
    · exact .inl (by show (2 : Int) ≠ 0; decide)
    · rename_i h2
      rw [if_neg h2] at hk
      split
      · rename_i h3
        exact .inr h3
      · rename_i h3
        rw [if_neg h3] at hk
        split
        · rename_i h4
          omega
        · rename_i h4
          rw [if_neg h4] at hk
          split
          · exact .inl (by show (9 : Int) ≠ 0; decide)
          · rename_i h5
            rw [if_neg h5] at hk
            cases hk
theorem findA_form {D : ByteArray → Option Nat} {l : List Fld} {now : Int} {base : Nat} {o : Option Ce} {e : Ending} {w' : World} (h : FindA D l now base o e w') : ∃ (X : Fr.Hd) (A1 A2 : Option Addr) (n1 c1 n2 c2 : Nat) (q : Int) (b : Bool), e = .returned (.tuple #[Fr.hv { X with rf := .slice A1 n1 c1 } (.slice A2 n2 c2), .int .i64 q, .bool b]) := by
  cases o with
  | none => exact ⟨⟨⟨#[]⟩, ⟨#[]⟩, .slice none 0 0, ⟨#[]⟩, 0, ⟨#[]⟩, ⟨#[]⟩, 0, 0, 0⟩, none, none, 0, 0, 0, 0, 0, false, h⟩
  | some x =>
    obtain ⟨u, v, he, hok⟩ := h
    obtain ⟨A1, c1, hA1, -⟩ := (SlR.of_owns hok.1).form
    obtain ⟨A2, c2, hA2, -⟩ := (SlR.of_owns hok.2).form
    dsimp only at hA1 hA2
    subst hA1 hA2
    exact ⟨x.h, A1, A2, _, c1, _, c2, _, true, he⟩
set_option maxHeartbeats 8000000 in
theorem cacheFinds_walk (v : Value) (ys : List Stq) (X : Fr.Hd) (u : Value) (l k : List Fld) (now : Int) (w : World) (h : SlR w e_sq v ys) (hok : ∀ y ∈ ys, y.Ok w) (hs : (ys.map Stq.wt).sum ≤ 1048576) (hl : SlR w e_ss X.rf l) (hk : SlR w e_ss u k) (hz : fwt l + fwt k ≤ 1048576) (ht : X.rt.size ≤ 1048576) (hb0 : X.bd.size ≤ 1048576) (hwn : (Lit.int .i64 now).wf = true) (hmx : HasMax w) (hp10 : HasP10 w) :
    Calls Tryz.prog 3 #[v, Fr.hv X u, .int .i64 now] w fun e w' => e = .returned (.bool true) ∧ Below w.heap.size w w' := by
  have he : EnvK w.heap.size w := EnvK.of hmx hp10
  obtain ⟨D, hD⟩ := Fr.isDate_ex
  obtain ⟨rm, rt, rf, rb, code, rs, bd, asked, came, mark⟩ := X
  dsimp only at *
  obtain ⟨Al, cl, rfl, -⟩ := hl.form
  obtain ⟨Ak, ck, rfl, -⟩ := hk.form
  unfold Fr.hv
  have hb1 := (Below.refl w.heap.size w).alloc (Nat.le_refl _) (.cells #[.string rm, .string rt, .slice Al l.length cl, .string rb, .int .i64 code, .string rs, .slice Ak k.length ck, .string bd, .int .i64 asked, .int .i64 came, .int .i64 mark] 29)
  have hB := Blk.new w 29 #[.string rm, .string rt, .slice Al l.length cl, .string rb, .int .i64 code, .string rs, .slice Ak k.length ck, .string bd, .int .i64 asked, .int .i64 came, .int .i64 mark]
  have hEn : EnvK (w.alloc (.cells #[.string rm, .string rt, .slice Al l.length cl, .string rb, .int .i64 code, .string rs, .slice Ak k.length ck, .string bd, .int .i64 asked, .int .i64 came, .int .i64 mark] 29)).heap.size (w.alloc (.cells #[.string rm, .string rt, .slice Al l.length cl, .string rb, .int .i64 code, .string rs, .slice Ak k.length ck, .string bd, .int .i64 asked, .int .i64 came, .int .i64 mark] 29)) := EnvK.of (he.below hb1).max (he.below hb1).p10
  have HCa := Lib.hid (cached_any 100000 v ys _ (h.below hb1) (fun y hy => (hok y hy).below hb1) hs (by decide) (by decide) hEn)
  have HL := Lib.hid (hl.below hb1)
  have HK := Lib.hid (hk.below hb1)
  have HB1 := Lib.hid hb1
  have HEn := Lib.hid hEn
  have hyl : ys.length ≤ 1048576 := Nat.le_trans (len_wt ys) hs
  obtain ⟨Av, cv, rfl, -⟩ := h.form
  have e1 : ∀ l, Fr.wt l = fwt l := fun _ => rfl
  have e2 : ∀ l, Vy.wt l = fwt l := fun _ => rfl
  clear h hok hs hl hk he hb1 hEn hmx hp10
  go_enter Tryz.func3, Tryz.ntmps3
  go_wp2_with fail
  generalize (w.alloc _) = w1 at *
  refine HCa.out.mono ?_
  rintro e w2 ⟨A, M, xs, rfl, hex, hS, hpl, hM, b2⟩
  have hB2 := hB.below b2 hB.lt
  have HB2 := Lib.hid b2
  have hmd : (runM 100000 ys).2 ≤ 1048576 := by
    have h1 := (runM_inv (room := 100000) (by decide) ys).2
    omega
  have HKp := Lib.hid (keep_any w1.heap.size 4194304 (runM 100000 ys).2 A 100000 xs ⟨rm, rt, .slice Al l.length cl, rb, code, rs, bd, asked, came, mark⟩ (.slice Ak k.length ck) l k w2 (hS.mono (by omega)) hex (by omega) (by decide) (fun W hW => HL.out.below (b2.trans hW.bel)) (fun W hW => HK.out.below (b2.trans hW.bel)) (by rw [e1]; omega) (by rw [e1]; omega) (by show rt.size ≤ _; omega) (by show bd.size ≤ _; omega) (HEn.out.bel b2))
  unfold KeepAns Fr.hv at HKp
  obtain ⟨R, hR⟩ : ∃ R, R = keepM 100000 (xs.map Ce.pl) (runM 100000 ys).2 (plH ⟨rm, rt, .slice Al l.length cl, rb, code, rs, bd, asked, came, mark⟩ l k) := ⟨_, rfl⟩
  have hno := keep_no (xs := xs.map Ce.pl) (made := (runM 100000 ys).2) (h := plH ⟨rm, rt, .slice Al l.length cl, rb, code, rs, bd, asked, came, mark⟩ l k)
  have hfi := fun h => keep_find (room := 100000) (xs := xs.map Ce.pl) (made := (runM 100000 ys).2) (h := plH ⟨rm, rt, .slice Al l.length cl, rb, code, rs, bd, asked, came, mark⟩ l k) h
  have hmk := keepM_made 100000 (xs.map Ce.pl) (runM 100000 ys).2 (plH ⟨rm, rt, .slice Al l.length cl, rb, code, rs, bd, asked, came, mark⟩ l k)
  rw [← hR] at HKp hno hfi hmk
  have HNO := Lib.hid hno
  have HFI := Lib.hid hfi
  obtain ⟨is, er, rxs, rmd⟩ := R
  dsimp only at HKp HNO HFI hmk
  clear hS hpl b2 HCa hB hR hno hfi
  go_wp2_with (first
    | refine wpList_load_row rfl 29 (.tmp 4) rfl w.heap.size rfl 29 _ (0, 0) _ hB2 Tryz.underlying29 rfl (by kernel_rfl) ?_)
  refine HKp.out.mono ?_
  rintro e w3 ⟨rfl, ⟨zs, hzs, hS3⟩, hr3⟩
  have hB3 := Blk.rm hB2 hr3 (by decide)
  have HS3 := Lib.hid hS3
  have HB3 := Lib.hid (HB2.out.trans hr3.bel)
  have HFi := Lib.hid (find_any D hD w1.heap.size 4194304 rmd A 100000 zs rm rt (.slice Al l.length cl) rb l now w3 hS3 (by omega) (by decide) (fun W hW => HL.out.below (HB3.out.trans hW.bel)) (by rw [e2]; omega) (by omega) (HEn.out.bel HB3.out))
  unfold rqV at HFi
  have hLq : w3.rangeAt w.heap.size 0 [.string rm, .string rt, .slice Al l.length cl, .string rb] := World.rangeAt_of_block hB3 0 4
  have hbp := bestC_pl zs rm rt l
  rw [hzs] at hbp
  have HBP := Lib.hid hbp
  clear hS3 hr3 HKp hB2 hbp hzs
  generalize bestC zs rm rt l = o at *
  go_wp2_with (first
    | refine wpList_load_mid rfl 25 (.tmp 25) rfl w.heap.size 0 rfl _ _ hLq Tryz.underlying25 rfl (by kernel_rfl) ?_)
  refine HFi.out.mono ?_
  rintro e w4 ⟨hans, -, hr4⟩
  have hB4 := Blk.rm hB3 hr4 (by decide)
  have HB4 := Lib.hid (HB3.out.trans hr4.bel)
  cases is with
  | false =>
    obtain ⟨X, A1, A2, n1, c1, n2, c2, q, bq, rfl⟩ := findA_form hans
    have hst : (storeCells ⟨w4.heap.size, 0, none⟩ [.string X.rm, .string X.rt, .slice A1 n1 c1, .string X.rb, .int .i64 X.code, .string X.rs, .slice A2 n2 c2, .string X.bd, .int .i64 X.asked, .int .i64 X.came, .int .i64 X.mark]).run Tryz.prog (w4.alloc (.cells hZ 29)) = .ok () (w4.alloc (.cells #[.string X.rm, .string X.rt, .slice A1 n1 c1, .string X.rb, .int .i64 X.code, .string X.rs, .slice A2 n2 c2, .string X.bd, .int .i64 X.asked, .int .i64 X.came, .int .i64 X.mark] 29)) :=
      run_storeCells_new (P := Tryz.prog) w4 29 hZ #[.string X.rm, .string X.rt, .slice A1 n1 c1, .string X.rb, .int .i64 X.code, .string X.rs, .slice A2 n2 c2, .string X.bd, .int .i64 X.asked, .int .i64 X.came, .int .i64 X.mark] (by kernel_rfl) (by simp [hZ]) (by simp [Value.oneCell'])
    unfold hZ at hst
    unfold Fr.hv
    dsimp only
    have b5 := (Below.refl w4.heap.size w4).alloc (Nat.le_refl _) (.cells #[.string X.rm, .string X.rt, .slice A1 n1 c1, .string X.rb, .int .i64 X.code, .string X.rs, .slice A2 n2 c2, .string X.bd, .int .i64 X.asked, .int .i64 X.came, .int .i64 X.mark] 29)
    have hB5 := hB4.below b5 hB4.lt
    have HB5 := Lib.hid (HB4.out.trans (b5.mono HB4.out.size))
    have hN := HNO.out rfl
    clear HNO HFI hans HFi HBP hr4 hB3 hLq hB4
    by_cases her : er = 0
    · have hmay : Dp.mayF rm l code k = false := hN.resolve_left (fun h => h her)
      subst her
      have HMay := Lib.hid (Dp.may_any rm rt (.slice Al l.length cl) rb l code rs (.slice Ak k.length ck) bd k _ ⟨HL.out.below HB5.out, by have : Dp.wt l = fwt l := rfl; omega⟩ ⟨HK.out.below HB5.out, by have : Dp.wt k = fwt k := rfl; omega⟩)
      rw [hmay] at HMay
      have k0 := hB5.cell 0
      have k1 := hB5.cell 1
      have k2 := hB5.cell 2
      have k3 := hB5.cell 3
      have k4 := hB5.cell 4
      have k5 := hB5.cell 5
      have k6 := hB5.cell 6
      have k7 := hB5.cell 7
      clear hN hmay
      go_wp2_with fail
      refine HMay.out.mono ?_
      rintro e w6 ⟨rfl, b6⟩
      go_wp2_with fail
      go_ret
      exact ⟨by simp, HB1.out.trans ((HB5.out.trans (b6.mono HB5.out.size)).mono HB1.out.size)⟩
    · have hne : (er != 0) = true := by rw [bne_iff_ne]; exact her
      clear hN her
      go_wp2_with fail
      go_ret
      exact ⟨by simp, HB1.out.trans (HB5.out.mono HB1.out.size)⟩
  | true =>
    obtain ⟨hn0, hmay, her, ee, hbe, hor⟩ := HFI.out rfl
    subst her
    have hbe' := hbe
    rw [show (plH ⟨rm, rt, .slice Al l.length cl, rb, code, rs, bd, asked, came, mark⟩ l k).rm = rm from rfl, show (plH ⟨rm, rt, .slice Al l.length cl, rb, code, rs, bd, asked, came, mark⟩ l k).rt = rt from rfl, show (plH ⟨rm, rt, .slice Al l.length cl, rb, code, rs, bd, asked, came, mark⟩ l k).l = l from rfl, ← HBP.out] at hbe'
    cases o with
    | none => cases hbe'
    | some x =>
      have hxe : x.pl = ee := by simpa using hbe'
      obtain ⟨u5, v5, he5, hok5⟩ := hans
      subst he5
      have hone := e_ho_one hok5
      obtain ⟨A1, c1, hA1, -⟩ := (SlR.of_owns hok5.1).form
      obtain ⟨A2, c2, hA2, -⟩ := (SlR.of_owns hok5.2).form
      dsimp only at hA1 hA2
      subst hA1 hA2
      have b5 := (Below.refl w4.heap.size w4).alloc (Nat.le_refl _) (.cells (hdC x (.slice A1 x.l.length c1) (.slice A2 x.k.length c2)) 29)
      have hH := Blk.new w4 29 (hdC x (.slice A1 x.l.length c1) (.slice A2 x.k.length c2))
      have hst : (storeCells ⟨w4.heap.size, 0, none⟩ (hdC x (.slice A1 x.l.length c1) (.slice A2 x.k.length c2)).toList).run Tryz.prog (w4.alloc (.cells hZ 29)) = .ok () (w4.alloc (.cells (hdC x (.slice A1 x.l.length c1) (.slice A2 x.k.length c2)) 29)) :=
        run_storeCells_new (P := Tryz.prog) w4 29 hZ _ (by kernel_rfl) (by simp [hZ, hdC]) (by simp [hdC, Value.oneCell'])
      have hB5 := hB4.below b5 hB4.lt
      have HB5 := Lib.hid (HB4.out.trans (b5.mono HB4.out.size))
      have HOk5 := Lib.hid (hok5.below b5)
      have HE5 := Lib.hid (HEn.out.bel HB5.out)
      have HWf := Lib.hid (HB1.out.trans (HB5.out.mono HB1.out.size))
      have hcm : x.h.came = ee.x.came := by rw [← hxe]; rfl
      have k9 : (w4.alloc (.cells (hdC x (.slice A1 x.l.length c1) (.slice A2 x.k.length c2)) 29)).cell? ⟨w.heap.size, 9, none⟩ = some (.int .i64 came) := hB5.cell 9
      clear hr4 hok5 hone hB3 hB4 hLq HNO HFI hbe hbe' HBP HFi
      unfold hZ at hst
      by_cases hcc : came < x.h.came
      · have hd : decide (came < x.h.came) = true := decide_eq_true hcc
        clear hor hcc hxe hcm
        have x9 := hH.cell 9
        unfold hdC at *
        go_wp2_with fail
        go_ret
        exact ⟨rfl, HWf.out⟩
      · have hd : decide (came < x.h.came) = false := decide_eq_false hcc
        have hxx : x.pl.x = plH ⟨rm, rt, .slice Al l.length cl, rb, code, rs, bd, asked, came, mark⟩ l k := by
          rcases hor with h | h
          · exfalso
            have h' : came < ee.x.came := h
            omega
          · rw [hxe]; exact h
        obtain ⟨xb, xn, ⟨xrm, xrt, xrf, xrb, xcode, xrs, xbd, xasked, xcame, xmark⟩, xu, xl, xk, xkey, xpv⟩ := x
        simp only [Ce.pl, plH, Hp.mk.injEq] at hxx
        obtain ⟨rfl, rfl, rfl, rfl, rfl, rfl, rfl, rfl, rfl, rfl, rfl⟩ := hxx
        clear hor hcc hxe hcm ee
        unfold hdC at *
        dsimp only at *
        have k0 := hB5.cell 0
        have k1 := hB5.cell 1
        have k2 := hB5.cell 2
        have k3 := hB5.cell 3
        have k4 := hB5.cell 4
        have k5 := hB5.cell 5
        have k6 := hB5.cell 6
        have k7 := hB5.cell 7
        have k8 := hB5.cell 8
        have k10 := hB5.cell 10
        have z0 := hH.cell 0
        have z1 := hH.cell 1
        have z2 := hH.cell 2
        have z3 := hH.cell 3
        have z4 := hH.cell 4
        have z5 := hH.cell 5
        have z6 := hH.cell 6
        have z7 := hH.cell 7
        have z8 := hH.cell 8
        have z9 := hH.cell 9
        have z10 := hH.cell 10
        go_wp2_with fail
        generalize w4.alloc _ = w5 at *
        have hl1 : xl.length ≤ 140737488351232 := by have := Fr.wt_len xl; have := e1 xl; omega
        have hl2 : xk.length ≤ 140737488351232 := by have := Fr.wt_len xk; have := e1 xk; omega
        have HSa := Lib.hid (sameHeld_true ⟨xrm, xrt, .slice Al xl.length cl, xrb, xcode, xrs, xbd, xasked, xcame, xmark⟩ (.slice A1 xl.length c1) (.slice Al xl.length cl) (.slice A2 xk.length c2) (.slice Ak xk.length ck) xl xk w5 (SlR.of_owns HOk5.out.1) (HL.out.below HB5.out) (SlR.of_owns HOk5.out.2) (HK.out.below HB5.out) hl1 hl2)
        unfold Fr.hv at HSa
        dsimp only at HSa
        refine HSa.out.mono ?_
        rintro e w6 ⟨rfl, b6⟩
        have hB6 := hB5.below b6 hB5.lt
        have HUs := Lib.hid (Fr.use_any D hD (.slice Al xl.length cl) xl ⟨xrm, xrt, .slice Al xl.length cl, xrb, xcode, xrs, xbd, xasked, xcame, xmark⟩ (.slice Ak xk.length ck) xk now w6 ⟨(HL.out.below HB5.out).below b6, by have e := e1 xl; omega⟩ ⟨(HK.out.below HB5.out).below b6, by have e := e1 xk; omega⟩ (HE5.out.below b6).p10 (HE5.out.below b6).max)
        unfold Fr.hv at HUs
        dsimp only at HUs
        have hq : Fr.useF (Fr.dirsF xl) (Fr.dirsF xk) (Fr.lifeF D xk xcode xcame) (Fr.ageF D xk xcame xasked now) = useC D xl (Ce.pl ⟨xb, xn, ⟨xrm, xrt, xrf, xrb, xcode, xrs, xbd, xasked, xcame, xmark⟩, xu, xl, xk, xkey, xpv⟩).x now := rfl
        rw [hq] at HUs
        generalize useC D xl (Ce.pl ⟨xb, xn, ⟨xrm, xrt, xrf, xrb, xcode, xrs, xbd, xasked, xcame, xmark⟩, xu, xl, xk, xkey, xpv⟩).x now = q at *
        clear k0 k1 k2 k3 k4 k5 k6 k7 k8 k9 k10 z0 z1 z2 z3 z4 z5 z6 z7 z8 z9 z10 hq HSa
        have k0 := hB6.cell 0
        have k1 := hB6.cell 1
        have k2 := hB6.cell 2
        have k3 := hB6.cell 3
        have k4 := hB6.cell 4
        have k5 := hB6.cell 5
        have k6 := hB6.cell 6
        have k7 := hB6.cell 7
        have k8 := hB6.cell 8
        have k9 := hB6.cell 9
        have k10 := hB6.cell 10
        go_wp2_with fail
        refine HUs.out.mono ?_
        rintro e w7 ⟨rfl, b7⟩
        go_wp2_with fail
        go_ret
        exact ⟨by simp, HWf.out.trans ((b6.trans (b7.mono b6.size)).mono HWf.out.size)⟩
end Ca
end Go.Proofs.YtgnblkmpoigejaaGreatDoor
