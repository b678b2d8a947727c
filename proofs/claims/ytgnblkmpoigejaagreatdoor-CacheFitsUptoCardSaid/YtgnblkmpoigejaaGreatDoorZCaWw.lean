import Derived.Test.YtgnblkmpoigejaaGreatDoorV25
set_option linter.unusedVariables false
set_option linter.unusedSimpArgs false
namespace Go.Proofs.YtgnblkmpoigejaaGreatDoor
set_option maxRecDepth 20000
open Go.RowKit Go.Shelf
namespace Ca
open Bk
set_option maxHeartbeats 8000000 in
theorem cacheFits_walk (v : Value) (ys : List Stq) (m t : ByteArray) (u : Value) (b : ByteArray) (l : List Fld) (now : Int) (w : World) (h : SlR w e_sq v ys) (hok : ∀ y ∈ ys, y.Ok w) (hs : (ys.map Stq.wt).sum ≤ 1048576) (hu : SlR w e_ss u l) (hl : (l.map (fun d => d.1.size + d.2.size + 2)).sum ≤ 1048576) (hm0 : m.size ≤ 1048576) (ht : t.size ≤ 1048576) (hb0 : b.size ≤ 1048576) (hwn : (Lit.int .i64 now).wf = true) (hmx : HasMax w) (hp10 : HasP10 w) :
    Calls Tryz.prog 4 #[v, .agg #[.string m, .string t, u, .string b], .int .i64 now] w fun e w' => e = .returned (.bool true) ∧ Below w.heap.size w w' := by
  have he : EnvK w.heap.size w := EnvK.of hmx hp10
  obtain ⟨D, hD⟩ := Fr.isDate_ex
  obtain ⟨Au, cu, rfl, -⟩ := hu.form
  have hb1 := (Below.refl w.heap.size w).alloc (Nat.le_refl _) (.cells #[.string m, .string t, .slice Au l.length cu, .string b] 25)
  have hB := Blk.new w 25 #[.string m, .string t, .slice Au l.length cu, .string b]
  have hwl : Vy.wt l ≤ 1048576 := hl
  have hEn : EnvK (w.alloc (.cells #[.string m, .string t, .slice Au l.length cu, .string b] 25)).heap.size (w.alloc (.cells #[.string m, .string t, .slice Au l.length cu, .string b] 25)) := EnvK.of (he.below hb1).max (he.below hb1).p10
  have HCa := Lib.hid (cached_any 100000 v ys _ (h.below hb1) (fun y hy => (hok y hy).below hb1) hs (by decide) (by decide) hEn)
  have HU := Lib.hid (hu.below hb1)
  have HB1 := Lib.hid hb1
  have HEn := Lib.hid hEn
  obtain ⟨Av, cv, rfl, -⟩ := h.form
  have hyl : ys.length ≤ 1048576 := Nat.le_trans (len_wt ys) hs
  clear h hok hs hu hl he hb1 hEn
  go_enter Tryz.func4, Tryz.ntmps4
  go_wp2_with fail
  generalize (w.alloc _) = w1 at *
  refine HCa.out.mono ?_
  rintro e w2 ⟨A, M, xs, rfl, hex, hS, hpl, hM, b2⟩
  have hB2 := hB.below b2 hB.lt
  have HS2 := Lib.hid hS
  have HPL := Lib.hid hpl
  have HB2 := Lib.hid b2
  have hmd : (runM 100000 ys).2 ≤ 4611686018427387904 := by
    have h1 := (runM_inv (room := 100000) (by decide) ys).2
    omega
  have HFi := Lib.hid (find_any D hD w1.heap.size M (runM 100000 ys).2 A 100000 xs m t (.slice Au l.length cu) b l now w2 hS (by omega) (by omega) (fun W hW => HU.out.below (b2.trans hW.bel)) (by omega) (by omega) (HEn.out.bel b2))
  have hkey := fun (x : Ce) (hx : x ∈ xs) => runM_key (room := 100000) (by decide) hpl hx
  have hfit := fun (x : Ce) (hx : bestC xs m t l = some x) => bestC_fit hx
  have hnt := hS.t
  clear hS hpl b2 HCa hB
  generalize bestC xs m t l = o at *
  unfold rqV at HFi
  go_wp2_with (first
    | refine wpList_load_row rfl 25 (.tmp 4) rfl w.heap.size rfl 25 _ (0, 0) _ hB2 Tryz.underlying25 rfl (by kernel_rfl) ?_)
  refine HFi.out.mono ?_
  rintro e w3 ⟨hans, hS3, hr3⟩
  have hB3 := Blk.rm hB2 hr3 (by decide)
  have HB3 := Lib.hid (HB1.out.trans ((HB2.out.trans hr3.bel).mono HB1.out.size))
  cases o with
  | none =>
    have he : e = .returned (.tuple #[.agg hZ, .int .i64 0, .bool false]) := hans
    subst he
    have hst : (storeCells ⟨w3.heap.size, 0, none⟩ hZ.toList).run Tryz.prog (w3.alloc (.cells hZ 29)) = .ok () (w3.alloc (.cells hZ 29)) := run_storeCells_new (P := Tryz.prog) w3 29 hZ hZ (by kernel_rfl) rfl (by simp [hZ, Value.oneCell'])
    have hH := Blk.new w3 29 hZ
    have b4 := (Below.refl w3.heap.size w3).alloc (Nat.le_refl _) (.cells hZ 29)
    have HSame := Lib.hid (sameHeld_true ⟨⟨#[]⟩, ⟨#[]⟩, .slice none 0 0, ⟨#[]⟩, 0, ⟨#[]⟩, ⟨#[]⟩, 0, 0, 0⟩ (.slice none 0 0) (.slice none 0 0) (.slice none 0 0) (.slice none 0 0) [] [] (w3.alloc (.cells hZ 29)) (SlR.nil _ _) (SlR.nil _ _) (SlR.nil _ _) (SlR.nil _ _) (by decide) (by decide))
    unfold Fr.hv at HSame
    unfold hZ at *
    have z0 := hH.cell 0
    have z1 := hH.cell 1
    have z2 := hH.cell 2
    have z3 := hH.cell 3
    have z4 := hH.cell 4
    have z5 := hH.cell 5
    have z6 := hH.cell 6
    have z7 := hH.cell 7
    have z8 := hH.cell 8
    have z9 := hH.cell 9
    have z10 := hH.cell 10
    clear hS3 hr3 hH HFi hkey hfit hB2 hB3
    go_wp2_with fail
    refine HSame.out.mono ?_
    rintro e w5 ⟨rfl, b5⟩
    go_wp2_with fail
    go_ret
    exact ⟨by simp, HB3.out.trans ((b4.trans (b5.mono b4.size)).mono HB3.out.size)⟩
  | some x =>
    obtain ⟨uu, vv, he, hok⟩ := hans
    subst he
    obtain ⟨hx, hk1, hk2, hk3, hk4⟩ := hfit x rfl
    obtain ⟨hk5, hk6⟩ := hkey x hx
    have hone := e_ho_one hok
    obtain ⟨A1, c1, hA1, -⟩ := (SlR.of_owns hok.1).form
    obtain ⟨A2, c2, hA2, -⟩ := (SlR.of_owns hok.2).form
    dsimp only at hA1 hA2
    subst hA1 hA2
    have b4 := (Below.refl w3.heap.size w3).alloc (Nat.le_refl _) (.cells (hdC x (.slice A1 x.l.length c1) (.slice A2 x.k.length c2)) 29)
    have hH := Blk.new w3 29 (hdC x (.slice A1 x.l.length c1) (.slice A2 x.k.length c2))
    have hst : (storeCells ⟨w3.heap.size, 0, none⟩ (hdC x (.slice A1 x.l.length c1) (.slice A2 x.k.length c2)).toList).run Tryz.prog (w3.alloc (.cells hZ 29)) = .ok () (w3.alloc (.cells (hdC x (.slice A1 x.l.length c1) (.slice A2 x.k.length c2)) 29)) :=
      run_storeCells_new (P := Tryz.prog) w3 29 hZ _ (by kernel_rfl) (by simp [hZ, hdC]) (by simp [hdC, Value.oneCell'])
    have hB4 := hB3.below b4 hB3.lt
    have HB4 := Lib.hid (HB3.out.trans (b4.mono HB3.out.size))
    have HOk4 := Lib.hid (hok.below b4)
    have HU4 := Lib.hid (HU.out.below ((HB2.out.trans hr3.bel).trans (b4.mono (HB2.out.trans hr3.bel).size)))
    have HE4 := Lib.hid ((HEn.out.bel (HB2.out.trans hr3.bel)).below b4)
    have hxE := (hnt.ent x hx)
    have hwx := hxE.wl
    have hwy := hxE.wk
    clear hS3 hr3 HFi hfit hkey hok hone hB2 hB3 hxE hnt
    unfold hZ at hst
    unfold hdC at *
    have k0 := hB4.cell 0
    have k1 := hB4.cell 1
    have k2 := hB4.cell 2
    go_wp2_with fail
    generalize w3.alloc _ = w4 at *
    refine (norm_any t w4 (by omega) HE4.out).mono ?_
    rintro e w5 ⟨rfl, b5⟩
    have hH5 := hH.below b5 hH.lt
    have hB5 := hB4.below b5 hB4.lt
    have x1 := hH5.cell 1
    have hrt := normE_small hk5
    have HN5 := Lib.hid (norm_any (n0 := w1.heap.size) x.h.rt w5 (by omega) (HE4.out.below b5))
    rw [hk5, ← hk6, hk1] at HN5
    rw [hk3]
    go_wp2_with fail
    refine HN5.out.mono ?_
    rintro e w6 ⟨rfl, b6⟩
    have B6 := b5.trans (b6.mono b5.size)
    have hH6 := hH.below B6 hH.lt
    have hB6 := hB4.below B6 hB4.lt
    have x6 := hH6.cell 6
    have x2 := hH6.cell 2
    have y2 := hB6.cell 2
    have hok6 := HOk4.out.below B6
    have HU6 := Lib.hid (HU4.out.below B6)
    have HMt := Lib.hid (Vy.match_any (.slice A2 x.k.length c2) (.slice A1 x.l.length c1) (.slice Au l.length cu) x.k x.l l w6 ⟨SlR.of_owns hok6.2, by have e : Vy.wt x.k = Fr.wt x.k := rfl; omega⟩ ⟨SlR.of_owns hok6.1, by have e : Vy.wt x.l = Fr.wt x.l := rfl; omega⟩ ⟨HU6.out, by omega⟩)
    rw [hk2] at HMt
    clear hB5 hH5 x1 k0 k1 k2 HN5 hB4 hH
    go_wp2_with fail
    refine HMt.out.mono ?_
    rintro e w7 ⟨rfl, b7⟩
    have B7 := B6.trans (b7.mono B6.size)
    have hH7 := hH6.below b7 hH6.lt
    have hB7 := hB6.below b7 hB6.lt
    have HUs := Lib.hid (fun (W : World) (hW : Below w7.heap.size w7 W) => Fr.use_any D hD (.slice Au l.length cu) l { x.h with rf := .slice A1 x.l.length c1 } (.slice A2 x.k.length c2) x.k now W ⟨HU6.out.below (b7.trans (hW.mono b7.size)), by have e : Fr.wt l = Vy.wt l := rfl; omega⟩ ⟨(SlR.of_owns hok6.2).below (b7.trans (hW.mono b7.size)), by omega⟩ (HE4.out.below (B7.trans (hW.mono B7.size))).p10 (HE4.out.below (B7.trans (hW.mono B7.size))).max)
    unfold Fr.hv at HUs
    have hq : Fr.useF (Fr.dirsF l) (Fr.dirsF x.k) (Fr.lifeF D x.k x.h.code x.h.came) (Fr.ageF D x.k x.h.came x.h.asked now) = useC D l x.pl.x now := rfl
    dsimp only at HUs
    rw [hq] at HUs
    generalize useC D l x.pl.x now = q at *
    have y0 := hB7.cell 0
    have y2' := hB7.cell 2
    have z0 := hH7.cell 0
    have z1 := hH7.cell 1
    have z2 := hH7.cell 2
    have z3 := hH7.cell 3
    have z4 := hH7.cell 4
    have z5 := hH7.cell 5
    have z6 := hH7.cell 6
    have z7 := hH7.cell 7
    have z8 := hH7.cell 8
    have z9 := hH7.cell 9
    have z10 := hH7.cell 10
    have HBf := Lib.hid (HB4.out.trans (B7.mono HB4.out.size))
    clear x6 x2 y2 HMt hH6 hB6 hok6
    rcases hk4 with rfl | rfl
    · have hg : (getB.toList == [71, 69, 84]) = true := by rw [ba_toList]; rfl
      go_wp2_with fail
      refine (HUs.out w7 (Below.refl _ _)).mono ?_
      rintro e w8 ⟨rfl, b8⟩
      go_wp2_with fail
      go_ret
      exact ⟨by simp, HBf.out.trans (b8.mono HBf.out.size)⟩
    · have hg : (headB.toList == [71, 69, 84]) = false := by rw [ba_toList]; rfl
      have hh : (headB.toList == [72, 69, 65, 68]) = true := by rw [ba_toList]; rfl
      go_wp2_with fail
      refine (HUs.out w7 (Below.refl _ _)).mono ?_
      rintro e w8 ⟨rfl, b8⟩
      go_wp2_with fail
      go_ret
      exact ⟨by simp, HBf.out.trans (b8.mono HBf.out.size)⟩
end Ca
end Go.Proofs.YtgnblkmpoigejaaGreatDoor
