import Derived.Test.YtgnblkmpoigejaaGreatDoorV26
set_option linter.unusedVariables false
set_option linter.unusedSimpArgs false
namespace Go.Proofs.YtgnblkmpoigejaaGreatDoor
set_option maxRecDepth 20000
open Go.RowKit Go.Shelf
namespace Ca
open Bk
set_option maxHeartbeats 8000000 in
theorem cacheRoom_walk (n : Int) (v : Value) (ys : List Stq) (w : World) (hn : (Lit.int .i64 n).wf = true) (h : SlR w e_sq v ys) (hok : ∀ y ∈ ys, y.Ok w) (hs : (ys.map Stq.wt).sum ≤ 1048576) (hmx : HasMax w) (hp10 : HasP10 w) :
    Calls Tryz.prog 6 #[.int .i64 n, v] w fun e w' => e = .returned (.bool true) ∧ Below w.heap.size w w' := by
  have he : EnvK w.heap.size w := EnvK.of hmx hp10
  have hw := wide_of hn
  have h0 : 0 ≤ n % 3000 := Int.emod_nonneg _ (by decide)
  have h1 : n % 3000 < 3000 := Int.emod_lt_of_pos _ (by decide)
  have hadd : IntKind.i64.wrap (1 + n % 3000) = 1 + n % 3000 := by rw [IntKind.wrap_i64]; omega
  have HRs := Lib.hid (rest_any n 3000 w hw (by decide))
  have HCa := Lib.hid (cached_any (1 + n % 3000) v ys w h hok hs (by omega) (by omega) he)
  have HRI := Lib.hid ((runM_inv (room := 1 + n % 3000) (by omega) ys).1)
  have HMD := Lib.hid ((runM_inv (room := 1 + n % 3000) (by omega) ys).2)
  have hyl : ys.length ≤ 1048576 := Nat.le_trans (len_wt ys) hs
  obtain ⟨Av, cv, rfl, -⟩ := h.form
  clear h hok hs he hmx hp10 hn hw
  generalize n % 3000 = r at *
  go_enter Tryz.func6, Tryz.ntmps6
  go_wp2_with fail
  refine HRs.out.mono ?_
  rintro e w0 ⟨rfl, rfl⟩
  go_wp2_with fail
  refine HCa.out.mono ?_
  rintro e w2 ⟨A, M, xs, rfl, hex, hS, hpl, hM, b2⟩
  have HS2 := Lib.hid hS
  have HB2 := Lib.hid b2
  have hmd := HMD.out
  have HAl := Lib.hid (all_any w.heap.size M (runM (1 + r) ys).2 A (1 + r) xs w2 hS (by omega) (by omega))
  have HUs := Lib.hid (fun (W : World) (hW : Below w2.heap.size w2 W) => usedC_any w.heap.size M (runM (1 + r) ys).2 A (1 + r) xs W (hS.below hW))
  have hi := HRI.out
  rw [← hpl] at hi
  have HI := Lib.hid hi
  have hl20 : xs.length ≤ 20 := by have := hi.len; rwa [List.length_map] at this
  clear hS hpl b2 HCa HRs HRI hmd hi
  go_wp2_with fail
  refine HAl.out.mono ?_
  rintro e w3 ⟨⟨vv, zs, rfl, ho, hzs, hoks⟩, b3⟩
  have HO := Lib.hid ho
  have HOK := Lib.hid hoks
  have HZ := Lib.hid hzs
  have HB3 := Lib.hid b3
  have hzl : zs.length = xs.length := by rw [← hzs, List.length_map]
  have hzl20 : zs.length ≤ 20 := by omega
  have hform : ∃ Az cz, vv = .slice Az zs.length cz := by
    obtain ⟨Az, cz, he, -⟩ := (SlR.of_owns ho).form
    exact ⟨Az, cz, he⟩
  obtain ⟨Az, cz, rfl⟩ := hform
  have HAT := Lib.hid (fun hn => ho_at (W := w3) ho hn)
  clear ho hoks hzs hzl b3 HAl
  go_wp2_with fail
  go_loopw [7, 22] (fun q i wr => ∃ k : Nat, k ≤ zs.length ∧ i = .int .i64 k ∧ q = .int .i64 (usedE ((zs.take k).map fun y => y.1.pl)) ∧ Below w3.heap.size w3 wr) (fun _ i _ => zs.length - (intOf i).toNat)
  case atStart => exact ⟨0, by omega, rfl, rfl, Below.refl _ _⟩
  case round =>
    obtain ⟨k, hk, rfl, rfl, hb⟩ := hrel
    by_cases hlt : k < zs.length
    · obtain ⟨bb, off, c', he, hbb, hcell⟩ := HAT.out (by omega)
      injection he with g1 g2 g3
      subst g1 g3
      have hC := hcell k hlt wr hb
      have hxm : zs[k].1 ∈ xs := by rw [← HZ.out]; exact List.mem_map.2 ⟨_, List.getElem_mem hlt, rfl⟩
      have hokk := HOK.out _ (List.getElem_mem hlt)
      have htk : zs.take (k + 1) = zs.take k ++ [zs[k]] := by rw [List.take_add_one, List.getElem?_eq_getElem hlt]; rfl
      have HUn : Hid (usedE ((zs.take (k + 1)).map fun y => y.1.pl) = usedE ((zs.take k).map fun y => y.1.pl) + sizeE zs[k].1.pl) := by show _ = _; rw [htk, List.map_append]; exact usedE_snoc _ _
      have hUb : usedE ((zs.take k).map fun y => y.1.pl) ≤ 5100 * k := by
        have := usedE_le (xs := (zs.take k).map fun y => y.1.pl) (fun e he => by
          obtain ⟨y, hy, rfl⟩ := List.mem_map.1 he
          refine HI.out.bd _ (List.mem_map.2 ⟨y.1, ?_, rfl⟩)
          rw [← HZ.out]
          exact List.mem_map.2 ⟨y, List.mem_of_mem_take hy, rfl⟩)
        rw [List.length_map, List.length_take] at this
        omega
      have hU0 := usedE_nn ((zs.take k).map fun y => y.1.pl)
      have hbd := HI.out.bd zs[k].1.pl (List.mem_map.2 ⟨_, hxm, rfl⟩)
      have hget := HI.out.get zs[k].1.pl (List.mem_map.2 ⟨_, hxm, rfl⟩)
      clear hcell g2 htk
      generalize usedE ((zs.take k).map fun y => y.1.pl) = U at *
      generalize zs[k] = y at *
      obtain ⟨x, u1, v1⟩ := y
      dsimp only at *
      obtain ⟨A1, c1, hA1, -⟩ := (SlR.of_owns hokk.1).form
      obtain ⟨A2, c2, hA2, -⟩ := (SlR.of_owns hokk.2).form
      dsimp only at hA1 hA2
      subst hA1 hA2
      have hg : (x.h.rm.toList == [71, 69, 84]) = true := by
        have : x.h.rm = getB := hget
        rw [this, ba_toList]; rfl
      have hst := ho_store wr x A1 A2 x.l.length c1 x.k.length c2
      have hH := Blk.new wr 29 (hdC x (.slice A1 x.l.length c1) (.slice A2 x.k.length c2))
      have hA := (Below.refl wr.heap.size wr).alloc (Nat.le_refl _) (.cells (hdC x (.slice A1 x.l.length c1) (.slice A2 x.k.length c2)) 29)
      have HBn := Lib.hid (hb.trans (hA.mono hb.size))
      have hbd' : x.h.bd.size ≤ 5000 := hbd
      have hwr1 : IntKind.i64.wrap (100 + (x.h.bd.size : Int)) = 100 + (x.h.bd.size : Int) := by rw [IntKind.wrap_i64]; omega
      have hwr2 : IntKind.i64.wrap (U + (100 + (x.h.bd.size : Int))) = U + (100 + (x.h.bd.size : Int)) := by rw [IntKind.wrap_i64]; omega
      have HSz : Hid (sizeE x.pl = (x.h.bd.size : Int) + 100) := rfl
      unfold hZ hdC at hst
      unfold hdC at hH hA HBn
      unfold e_ho hdC at hC
      have z7 := hH.cell 7
      have z0 := hH.cell 0
      clear hokk hget hbd hA hb
      go_wp2_with (first
        | refine wpList_load_mid rfl 29 (.tmp 24) rfl bb (off + k * 11) rfl _ _ hC Tryz.underlying29 rfl (by kernel_rfl) ?_)
      go_roundw
      case rel =>
        refine ⟨k + 1, by omega, by go_num, ?_, HBn.out⟩
        rw [HUn.out, HSz.out]
        congr 1
        omega
      case measure => simp [intOf]; omega
    · obtain rfl : k = zs.length := by omega
      have hUf : usedE ((zs.take zs.length).map fun y => y.1.pl) = usedE (xs.map Ce.pl) := by
        rw [List.take_of_length_le (Nat.le_refl _), ← HZ.out, List.map_map]
        rfl
      rw [hUf]
      have hus := HI.out.us
      have HU := Lib.hid (HUs.out wr (HB3.out.trans (hb.mono HB3.out.size)))
      generalize usedE (xs.map Ce.pl) = U at *
      have hd1 : decide (U ≤ 1 + r) = true := decide_eq_true hus
      have hd2 : decide ((zs.length : Int) ≤ 20) = true := by rw [decide_eq_true_iff]; omega
      have hd3 : decide (zs.length ≤ 20) = true := decide_eq_true hzl20
      go_wp2_with fail
      refine HU.out.mono ?_
      rintro e w5 ⟨rfl, rfl⟩
      go_wp2_with fail
      go_ret
      exact ⟨by simp, HB2.out.trans ((HB3.out.trans (hb.mono HB3.out.size)).mono HB2.out.size)⟩
end Ca
end Go.Proofs.YtgnblkmpoigejaaGreatDoor
