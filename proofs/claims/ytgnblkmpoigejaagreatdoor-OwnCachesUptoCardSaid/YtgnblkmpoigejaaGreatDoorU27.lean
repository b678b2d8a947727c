import Derived.Test.YtgnblkmpoigejaaGreatDoorU26
set_option linter.unusedVariables false
set_option linter.unusedSimpArgs false
namespace Go.Proofs.YtgnblkmpoigejaaGreatDoor
set_option maxRecDepth 20000
open Go.RowKit Go.Shelf
namespace Ca
open Bk
theorem find_ret {D : ByteArray → Option Nat} {l : List Fld} {now : Int} {base : Nat} {o : Option Ce} {e : Ending} {w' : World} (h : FindA D l now base o e w') :
  ∃ (rm rt rb rs bd : ByteArray) (code asked came mark q : Int) (b : Bool) (u v : Value) (n k : Nat), e = .returned (.tuple #[.agg #[.string rm, .string rt, u, .string rb, .int .i64 code, .string rs, v, .string bd, .int .i64 asked, .int .i64 came, .int .i64 mark], .int .i64 q, .bool b]) ∧ FB w' u n ∧ FB w' v k ∧ ∀ g, u.ownBlock = some g ∨ v.ownBlock = some g → base ≤ g := by
 cases o with
 | none => exact ⟨_, _, _, _, _, _, _, _, _, _, _, _, _, 0, 0, h, .inl ⟨rfl, rfl⟩, .inl ⟨rfl, rfl⟩, fun g e => by rcases e with e | e <;> cases e⟩
 | some x =>
  obtain ⟨u, v, he, hk⟩ := h
  exact ⟨_, _, _, _, _, _, _, _, _, _, _, u, v, _, _, he, FB.of hk.1, FB.of hk.2, fun g e => e.elim (fun e => (hk.1.lt g e).1) (fun e => (hk.2.lt g e).1)⟩
set_option maxHeartbeats 16000000 in
theorem ownCaches_walk (v : Value) (ys : List Stq) (w : World) (h : SlR w e_sq v ys) (hok : ∀ y ∈ ys, y.Ok w) (hs : (ys.map Stq.wt).sum ≤ 1048576) (hmx : HasMax w) (hp10 : HasP10 w) :
  Calls Tryz.prog 8 #[v] w fun e w' => e = .returned (.bool true) ∧ Below w.heap.size w w' := by
 have he : EnvK w.heap.size w := EnvK.of hmx hp10
 obtain ⟨D, hD⟩ := Fr.isDate_ex
 have HD := Lib.hid hD
 have HCa := Lib.hid (cached_any 100000 (.slice none 0 0) [] w (SlR.nil w e_sq) (by simp) (by simp) (by decide) (by decide) he)
 have HCb := Lib.hid (fun (W : World) (hb : Below w.heap.size w W) => cached_any 100000 v ys W (h.below hb) (fun y hy => (hok y hy).below hb) hs (by decide) (by decide) (EnvK.of (he.below hb).max (he.below hb).p10))
 have HOK := Lib.hid hok
 have HRow := Lib.hid (fun hn => SlR.rowN (size := 22) (fun _ => rfl) h hn)
 obtain ⟨Av, cv, rfl, hcv⟩ := h.form
 have hlen := len_wt ys
 have HSUM := Lib.hid hs
 have hyl : ys.length ≤ 1048576 := Nat.le_trans hlen hs
 have HENV := Lib.hid he
 clear h hok hs hlen he hD hmx hp10
 go_enter Tryz.func8, Tryz.ntmps8
 go_wp2_with fail
 refine HCa.out.mono ?_
 rintro e w1 ⟨A, M0, xs0, rfl, hex, hS1, hpl1, hM0, b1⟩
 have HCb1 := Lib.hid (HCb.out w1 b1)
 have HS1 := Lib.hid hS1
 have HB1 := Lib.hid b1
 have HP1 := Lib.hid hpl1
 clear HCa HCb hS1 b1 hpl1
 go_wp2_with fail
 refine HCb1.out.mono ?_
 rintro e w2 ⟨A', M', xs', rfl, hex', hS2, hpl2, hM', b2⟩
 have hr0 : runM 100000 [] = ([], 0) := rfl
 have hxs0 : xs0 = [] := by have := HP1.out; rw [hr0] at this; simpa using this
 subst hxs0
 rw [hr0] at HS1
 have HBo : Hid (Both w w1.heap.size w2.heap.size A A' 2097152 M' [] xs' 0 (runM 100000 ys).2 w2) :=
  ⟨(HS1.out.mv (m := nC w.heap.size w1.heap.size w2.heap.size) ⟨fun k hk ok => ⟨b2.block k hk, .inr ⟨lim_ok.1 ok, hk⟩⟩, b2.size, Nat.le_refl _⟩).mono hM0, hS2.mv ⟨fun k hk ok => ⟨rfl, .inr ⟨lim_ok.1 ok, hk⟩⟩, Nat.le_refl _, Nat.le_refl _⟩, HENV.out.below (HB1.out.trans (b2.mono HB1.out.size)), HB1.out.trans (b2.mono HB1.out.size), HB1.out.size, b2.size, Nat.le_refl _⟩
 have HPD := Lib.hid hpl2
 have hmd2 : (runM 100000 ys).2 ≤ 1048576 := by
  have h1 := (runM_inv (room := 100000) (by decide) ys).2
  omega
 have HRY : Hid (∀ k, (runM 100000 (ys.take k)).2 ≤ 1048576) := fun k => by
  have h1 := (runM_inv (room := 100000) (by decide) (ys.take k)).2
  rw [List.length_take] at h1
  omega
 clear HCb1 HS1 HB1 HP1 hS2 b2 hpl2 hr0 hM0 HENV
 have HFIN := Lib.hid (show ∀ (xs : List Ce), xs.map Ce.pl = (runM 100000 ys).1 → xs.map Ce.pl = xs'.map Ce.pl from fun xs hx => hx.trans HPD.out.symm)
 clear HPD
 go_wp2_with fail
 generalize hn2 : w1.heap.size = n2 at *
 generalize hn3 : w2.heap.size = n3 at *
 generalize hmd : (runM 100000 ys).2 = made' at HBo hmd2
 clear hn2 hn3
 have HMD := Lib.hid hmd
 clear hmd
 go_loopw [26] (fun i wr => ∃ (k : Nat) (xs : List Ce), k ≤ ys.length ∧ i = .int .i64 k ∧ Both w n2 n3 A A' (2097152 + fsum (ys.take k)) M' xs xs' (runM 100000 (ys.take k)).2 made' wr ∧ xs.map Ce.pl = (runM 100000 (ys.take k)).1) (fun i _ => ys.length - (intOf i).toNat)
 case atStart => exact ⟨0, [], by omega, rfl, HBo.out, rfl⟩
 case round =>
  clear HBo
  obtain ⟨k, xs, hk, rfl, hbo, hpl⟩ := hrel
  have HBr := Lib.hid hbo
  have HPL := Lib.hid hpl
  have hbel := hbo.b
  by_cases hlt : k < ys.length
  ·obtain ⟨bb, off, c', he, hcc, hbb, hcell⟩ := HRow.out (by omega)
   injection he with g1 g2 g3
   subst g1 g3
   have hC : wr.rangeAt bb (off + k * 22) (e_st ys[k].st) := fun j v hv => (hbel.cell (p := ⟨bb, off + (k * 22) + j, none⟩) hbb).trans (by rw [Nat.add_assoc]; exact hcell k hlt j v hv)
   have hyk := HOK.out ys[k] (List.getElem_mem hlt)
   have hwy := wt_mem (List.getElem_mem hlt) HSUM.out
   have htk : ys.take (k + 1) = ys.take k ++ [ys[k]] := by rw [List.take_add_one, List.getElem?_eq_getElem hlt]; rfl
   have HRN : Hid (runM 100000 (ys.take (k + 1)) = stepM 100000 (runM 100000 (ys.take k)) ys[k]) := by show _ = _; rw [htk]; exact runM_snoc _ _ _
   have HFN : Hid (fsum (ys.take (k + 1)) = fsum (ys.take k) + fwt ys[k].ff) := by show _ = _; rw [htk]; exact fsum_snoc _ _
   have hfs : fsum (ys.take (k + 1)) ≤ 1048576 := Nat.le_trans (fsum_le _) (Nat.le_trans (by
    conv => rhs; rw [← List.take_append_drop (k + 1) ys, List.map_append, List.sum_append]
    exact Nat.le_add_right _ _) HSUM.out)
   have hmd' := HRY.out k
   have HMN := Lib.hid (HRY.out (k + 1))
   clear hcell g2 hcc hpl htk hbo
   rw [HFN.out] at hfs
   rw [HRN.out] at HMN
   generalize runM 100000 (ys.take k) = st at *
   generalize fsum (ys.take k) = fs at *
   generalize ys[k] = y at *
   have hO := Lib.hid (fun (W : World) => of_any y.st 5 W hyk.wk (by decide))
   have hst : (storeCells ⟨wr.heap.size, 0, none⟩ (e_st y.st)).run Tryz.prog (wr.alloc (.cells stZ 61)) = .ok () (wr.alloc (.cells (e_st y.st).toArray 61)) :=
    run_storeCells_new (P := Tryz.prog) wr 61 stZ (e_st y.st).toArray (by kernel_rfl) (by simp [stZ, e_st]) (by simp [e_st, Value.oneCell'])
   unfold stZ at hst
   have hB := Blk.new wr 61 (e_st y.st).toArray
   have hA := (Below.refl wr.heap.size wr).alloc (Nat.le_refl _) (.cells (e_st y.st).toArray 61)
   have hzr := hbel.size
   clear hbel
   go_wp2_with (first
    | refine wpList_load_mid rfl 61 (.tmp 28) rfl bb (off + k * 22) rfl (e_st y.st) _ hC Tryz.underlying61 rfl (by kernel_rfl) ?_
    | refine wpList_load_row rfl 61 (.tmp 7) rfl wr.heap.size rfl 61 (e_st y.st).toArray (0, 0) _ (heap_alloc_last wr _) Tryz.underlying61 rfl (by kernel_rfl) ?_)
   clear hst hC
   generalize wr.alloc _ = w5 at *
   refine (hO.out _).mono ?_
   rintro e w6 ⟨rfl, b6⟩
   have hB6 := hB.below b6 hB.lt
   have HA6 := Lib.hid (hA.trans (b6.mono hA.size))
   have HB6 := Lib.hid (HBr.out.below HA6.out)
   have hq0 : 0 ≤ y.st.k % 5 := Int.emod_nonneg _ (by decide)
   have hq5 : y.st.k % 5 < 5 := Int.emod_lt_of_pos _ (by decide)
   have HSM : Hid (stepM 100000 st y = if y.st.k % 5 = 3 then (findX st.1 (y.st.u 0) (y.st.u 1) y.fq, st.2)
    else if y.st.k % 5 = 4 then (renewX st.1 (y.st.u 0) (y.st.u 1) y.fq y.ff y.st.a y.st.b, st.2)
    else ((keepM 100000 st.1 st.2 (hpOf y)).xs, (keepM 100000 st.1 st.2 (hpOf y)).made)) := rfl
   generalize hq : y.st.k % 5 = q at *
   have hcase : q = 0 ∨ q = 1 ∨ q = 2 ∨ q = 3 ∨ q = 4 := by omega
   clear hq hq0 hq5 hB b6 hO hA
   have hz6 := HA6.out.size
   have HST := Lib.hid (fun (l : List Fld) (g : Option Addr × Nat × Nat) (hsl : SlR w e_ss (sv g) l) (W : World) (hW : Below w.heap.size w W) => hsl.below hW)
   have hw1 : fwt y.fh ≤ 1048576 ∧ fwt y.fk ≤ 1048576 ∧ fwt y.fq ≤ 1048576 ∧ fwt y.ff ≤ 1048576 ∧ (y.st.u 4).size ≤ 1048576 ∧ (y.st.u 7).size ≤ 1048576 ∧ (y.st.u 1).size ≤ 1048576 := by unfold Stq.wt at hwy; omega
   have e1 : ∀ l, Fr.wt l = fwt l := fun _ => rfl
   have e2 : ∀ l, Vy.wt l = fwt l := fun _ => rfl
   have hlen : ∀ l : List Fld, l.length ≤ fwt l := fun l => Fr.wt_len l
   have a1 : w6.cell? ⟨wr.heap.size, 1, none⟩ = some (.int .i64 y.st.a) := hB6.cell 1
   have a2 : w6.cell? ⟨wr.heap.size, 2, none⟩ = some (.int .i64 y.st.b) := hB6.cell 2
   have a21 : w6.cell? ⟨wr.heap.size, 21, none⟩ = some (.slice (y.st.g 4).1 (y.st.g 4).2.1 (y.st.g 4).2.2) := hB6.cell 21
   have hLq : w6.rangeAt wr.heap.size 6 [.string (y.st.u 0), .string (y.st.u 1), .slice (y.st.g 1).1 (y.st.g 1).2.1 (y.st.g 1).2.2, .string (y.st.u 2)] := World.rangeAt_of_block hB6 6 4
   have HLM : Hid (∀ W, Below w.heap.size w6 W → Below w.heap.size w W) := fun W hW => HB6.out.b.trans hW
   rcases hcase with rfl | rfl | rfl | rfl | rfl
   ·have hL : w6.rangeAt wr.heap.size 10 [.string (y.st.u 3), .string (y.st.u 4), .slice (y.st.g 2).1 (y.st.g 2).2.1 (y.st.g 2).2.2, .string (y.st.u 5), .int .i64 (y.st.i 0), .string (y.st.u 6), .slice (y.st.g 3).1 (y.st.g 3).2.1 (y.st.g 3).2.2, .string (y.st.u 7), .int .i64 (y.st.i 1), .int .i64 (y.st.i 2), .int .i64 (y.st.i 3)] := World.rangeAt_of_block hB6 10 11
    have HSK : Hid (stepM 100000 st y = ((keepM 100000 st.1 st.2 (hpOf y)).xs, (keepM 100000 st.1 st.2 (hpOf y)).made)) := by show _ = _; rw [HSM.out]; rw [if_neg (by decide), if_neg (by decide)]
    rw [HSK.out] at HMN
    clear HSM
    have hst : (storeCells ⟨w6.heap.size, 0, none⟩ #[.string (y.st.u 3), .string (y.st.u 4), .slice (y.st.g 2).1 (y.st.g 2).2.1 (y.st.g 2).2.2, .string (y.st.u 5), .int .i64 (y.st.i 0), .string (y.st.u 6), .slice (y.st.g 3).1 (y.st.g 3).2.1 (y.st.g 3).2.2, .string (y.st.u 7), .int .i64 (y.st.i 1), .int .i64 (y.st.i 2), .int .i64 (y.st.i 3)].toList).run Tryz.prog (w6.alloc (.cells hZ 29)) = .ok () (w6.alloc (.cells #[.string (y.st.u 3), .string (y.st.u 4), .slice (y.st.g 2).1 (y.st.g 2).2.1 (y.st.g 2).2.2, .string (y.st.u 5), .int .i64 (y.st.i 0), .string (y.st.u 6), .slice (y.st.g 3).1 (y.st.g 3).2.1 (y.st.g 3).2.2, .string (y.st.u 7), .int .i64 (y.st.i 1), .int .i64 (y.st.i 2), .int .i64 (y.st.i 3)] 29)) :=
     run_storeCells_new (P := Tryz.prog) w6 29 hZ _ (by kernel_rfl) (by simp [hZ]) (by simp [Value.oneCell'])
    unfold hZ at hst
    have hB7 := Blk.new w6 29 #[.string (y.st.u 3), .string (y.st.u 4), .slice (y.st.g 2).1 (y.st.g 2).2.1 (y.st.g 2).2.2, .string (y.st.u 5), .int .i64 (y.st.i 0), .string (y.st.u 6), .slice (y.st.g 3).1 (y.st.g 3).2.1 (y.st.g 3).2.2, .string (y.st.u 7), .int .i64 (y.st.i 1), .int .i64 (y.st.i 2), .int .i64 (y.st.i 3)]
    have HA7 := Lib.hid ((Below.refl w6.heap.size w6).alloc (Nat.le_refl _) (.cells #[.string (y.st.u 3), .string (y.st.u 4), .slice (y.st.g 2).1 (y.st.g 2).2.1 (y.st.g 2).2.2, .string (y.st.u 5), .int .i64 (y.st.i 0), .string (y.st.u 6), .slice (y.st.g 3).1 (y.st.g 3).2.1 (y.st.g 3).2.2, .string (y.st.u 7), .int .i64 (y.st.i 1), .int .i64 (y.st.i 2), .int .i64 (y.st.i 3)] 29))
    have HU7 := Lib.hid (HST.out _ _ hyk.h _ (HLM.out _ (HA7.out.mono (Nat.le_trans hzr hz6))))
    have HV7 := Lib.hid (HST.out _ _ hyk.k _ (HLM.out _ (HA7.out.mono (Nat.le_trans hzr hz6))))
    unfold sv at HU7 HV7
    go_wp2_with (first
     | refine wpList_load_mid rfl 29 (.tmp 36) rfl wr.heap.size 10 rfl _ _ hL Tryz.underlying29 rfl (by kernel_rfl) ?_)
    clear hst hL
    generalize w6.alloc _ = w7 at *
    refine wp_region_effs [(true, 0), (true, 1), (true, 2), (true, 4), (true, 5), (true, 6), (false, 3), (true, 8), (true, 9), (false, 7), (false, 10), (true, 11), (true, 12), (false, 13)] 10 (fun w' => Below w7.heap.size w7 w') (by kernel_rfl) (by kernel_rfl) (fun _ _ _ _ _ h => h) (by kernel_rfl) (by kernel_rfl) ?_ ?_
    ·exact (Below.refl _ _).drew
    iterate 6 (first | (apply seqN_skip; (focus (simp only [List.getElem?_toArray, List.getElem?_cons_succ, List.getElem?_cons_zero]; rfl)); (focus rfl); simp only [Act.put, List.setIfInBounds_toArray, List.set_cons_zero, List.set_cons_succ]) | (apply seqN_pure; (focus (simp only [List.getElem?_toArray, List.getElem?_cons_succ, List.getElem?_cons_zero]; rfl)); (focus rfl); (focus (intro w'; first | (go_simp; rfl) | (go_simp; done))); simp only [Act.put, List.setIfInBounds_toArray, List.set_cons_zero, List.set_cons_succ]) | (apply seqN_take; (focus (simp only [List.getElem?_toArray, List.getElem?_cons_succ, List.getElem?_cons_zero]; rfl)); (focus kernel_rfl); (focus rfl); (focus (intro w' hS; have hb := hB7.below hS hB7.lt; have c2 := hb.cell 2; have c6 := hb.cell 6; first | (go_simp; rfl) | (go_simp; done))); simp only [Act.put, List.setIfInBounds_toArray, List.set_cons_zero, List.set_cons_succ]))
    apply seqN_eff
    (focus (simp only [List.getElem?_toArray, List.getElem?_cons_succ, List.getElem?_cons_zero]; rfl))
    (focus rfl)
    intro K hK
    go_simp
    refine (copyFld_any _ y.fh w7.drew (HU7.out.below (Below.refl _ _).drew) (by have := hlen y.fh; have := hw1.1; omega)).mono ?_
    rintro e w8 ⟨⟨v8, rfl, o8⟩, b8⟩
    have B8 : Below w7.heap.size w7 w8 := (Below.refl _ _).drew.trans b8
    obtain ⟨A8, c8, rfl, -⟩ := (SlR.of_owns o8).form
    refine hK _ _ ⟨fun _ => B8, ?_⟩
    clear hK K
    iterate 2 (first | (apply seqN_skip; (focus (simp only [List.getElem?_toArray, List.getElem?_cons_succ, List.getElem?_cons_zero]; rfl)); (focus rfl); simp only [Act.put, List.setIfInBounds_toArray, List.set_cons_zero, List.set_cons_succ]) | (apply seqN_pure; (focus (simp only [List.getElem?_toArray, List.getElem?_cons_succ, List.getElem?_cons_zero]; rfl)); (focus rfl); (focus (intro w'; first | (go_simp; rfl) | (go_simp; done))); simp only [Act.put, List.setIfInBounds_toArray, List.set_cons_zero, List.set_cons_succ]) | (apply seqN_take; (focus (simp only [List.getElem?_toArray, List.getElem?_cons_succ, List.getElem?_cons_zero]; rfl)); (focus kernel_rfl); (focus rfl); (focus (intro w' hS; skip; first | (go_simp; rfl) | (go_simp; done))); simp only [Act.put, List.setIfInBounds_toArray, List.set_cons_zero, List.set_cons_succ]))
    apply seqN_eff
    (focus (simp only [List.getElem?_toArray, List.getElem?_cons_succ, List.getElem?_cons_zero]; rfl))
    (focus rfl)
    intro K hK
    go_simp
    refine (copyFld_any _ y.fk w8 (HV7.out.below B8) (by have := hlen y.fk; have := hw1.2.1; omega)).mono ?_
    rintro e w9 ⟨⟨v9, rfl, o9⟩, b9⟩
    have B9 : Below w7.heap.size w7 w9 := B8.trans (b9.mono B8.size)
    obtain ⟨A9, c9, rfl, -⟩ := (SlR.of_owns o9).form
    refine hK _ _ ⟨fun _ => B9, ?_⟩
    clear hK K
    have hB9 := hB7.below B9 hB7.lt
    have O8 : Owns w9 w7.heap.size 57 2 e_ss (.slice A8 y.fh.length c8) y.fh := (o8.mono (Nat.le_of_eq rfl)).below b9
    have O9 : Owns w9 w7.heap.size 57 2 e_ss (.slice A9 y.fk.length c9) y.fk := o9.mono B8.size
    clear o8 o9 b8 b9 B8 hB7
    apply seqN_eff
    (focus (simp only [List.getElem?_toArray, List.getElem?_cons_succ, List.getElem?_cons_zero]; rfl))
    (focus rfl)
    intro K hK
    have k2 := hB9.cell 2
    have f2 := hB9.frozen 2
    go_simp
    refine hK _ _ ⟨fun h => absurd h (by decide), ?_⟩
    clear hK K k2 f2
    have g10 := gcell w9 ⟨w6.heap.size, 2, none⟩ (.slice A8 y.fh.length c8)
    have hB10 := hB9.set_ 2 (.slice A8 y.fh.length c8)
    have O8a := O8.grownOther g10 (ownNe O8 hB9 (by decide))
    have O9a := O9.grownOther g10 (ownNe O9 hB9 (by decide))
    iterate 2 (first | (apply seqN_skip; (focus (simp only [List.getElem?_toArray, List.getElem?_cons_succ, List.getElem?_cons_zero]; rfl)); (focus rfl); simp only [Act.put, List.setIfInBounds_toArray, List.set_cons_zero, List.set_cons_succ]) | (apply seqN_pure; (focus (simp only [List.getElem?_toArray, List.getElem?_cons_succ, List.getElem?_cons_zero]; rfl)); (focus rfl); (focus (intro w'; first | (go_simp; rfl) | (go_simp; done))); simp only [Act.put, List.setIfInBounds_toArray, List.set_cons_zero, List.set_cons_succ]) | (apply seqN_take; (focus (simp only [List.getElem?_toArray, List.getElem?_cons_succ, List.getElem?_cons_zero]; rfl)); (focus kernel_rfl); (focus rfl); (focus (intro w' hS; skip; first | (go_simp; rfl) | (go_simp; done))); simp only [Act.put, List.setIfInBounds_toArray, List.set_cons_zero, List.set_cons_succ]))
    apply seqN_eff
    (focus (simp only [List.getElem?_toArray, List.getElem?_cons_succ, List.getElem?_cons_zero]; rfl))
    (focus rfl)
    intro K hK
    have k6 := hB10.cell 6
    have f6 := hB10.frozen 6
    go_simp
    refine hK _ _ ⟨fun h => absurd h (by decide), ?_⟩
    clear hK K k6 f6
    refine seqN_nil ?_
    have g11 := gcell (w9.setCell ⟨w6.heap.size, 2, none⟩ (.slice A8 y.fh.length c8)) ⟨w6.heap.size, 6, none⟩ (.slice A9 y.fk.length c9)
    have hB11 : Blk _ w6.heap.size 29 #[.string (y.st.u 3), .string (y.st.u 4), .slice A8 y.fh.length c8, .string (y.st.u 5), .int .i64 (y.st.i 0), .string (y.st.u 6), .slice A9 y.fk.length c9, .string (y.st.u 7), .int .i64 (y.st.i 1), .int .i64 (y.st.i 2), .int .i64 (y.st.i 3)] := hB10.set_ 6 (.slice A9 y.fk.length c9)
    have O8b := O8a.grownOther g11 (ownNe O8a hB10 (by decide))
    have O9b := O9a.grownOther g11 (ownNe O9a hB10 (by decide))
    have hz9 : w6.heap.size ≤ w9.heap.size := Nat.le_trans HA7.out.size B9.size
    have BW := ((HA7.out.trans (B9.mono HA7.out.size)).grown g10 hz9 (fun k hk => by cases hk; exact Nat.le_refl _)).grown g11 (Nat.le_trans hz9 g10.size) (fun k hk => by cases hk; exact Nat.le_refl _)
    clear O8 O9 O8a O9a hB9 hB10 g10 g11
    generalize ((w9.setCell ⟨w6.heap.size, 2, none⟩ _).setCell _ _) = w11 at *
    have HB11 := Lib.hid (HB6.out.below BW)
    have hc11 := HBr.out.toK (HA6.out.trans (BW.mono hz6))
    have HKp := Lib.hid (keep_any (nK w.heap.size n2 n3 wr.heap.size w11) (2097152 + fs) st.2 A 100000 xs ⟨y.st.u 3, y.st.u 4, .slice A8 y.fh.length c8, y.st.u 5, y.st.i 0, y.st.u 6, y.st.u 7, y.st.i 1, y.st.i 2, y.st.i 3⟩ (.slice A9 y.fk.length c9) y.fh y.fk w11 hc11 hex (by omega) (by omega) (fun W hW => SlR.of_owns (Owns.rm O8b hW rfl)) (fun W hW => SlR.of_owns (Owns.rm O9b hW rfl)) (by rw [e1]; omega) (by rw [e1]; omega) (by show (y.st.u 4).size ≤ _; omega) (by show (y.st.u 7).size ≤ _; omega) (HB11.out.envK _))
    rw [show plH ⟨y.st.u 3, y.st.u 4, .slice A8 y.fh.length c8, y.st.u 5, y.st.i 0, y.st.u 6, y.st.u 7, y.st.i 1, y.st.i 2, y.st.i 3⟩ y.fh y.fk = hpOf y from rfl, HPL.out] at HKp
    unfold KeepAns Fr.hv at HKp
    clear hc11
    have hz7 := HA7.out.size
    go_wp2_with (first
     | refine wpList_load_row rfl 29 (.tmp 8) rfl w6.heap.size rfl 29 _ (0, 0) _ hB11 Tryz.underlying29 rfl (by kernel_rfl) ?_)
    refine HKp.out.mono ?_
    rintro e w12 ⟨rfl, ⟨xs7, hx7, hS7⟩, hr7⟩
    have HB12 := Lib.hid (HB11.out.back hS7 hr7.bel)
    have hB12 := Blk.rm hB11 hr7 (by decide)
    have hf8 := FB.of (Owns.rm O8b hr7 rfl)
    have hf9 := FB.of (Owns.rm O9b hr7 rfl)
    have HL8 := Lib.hid O8b.lt
    have HL9 := Lib.hid O9b.lt
    have HOW := Lib.hid (show ∀ x ∈ xs7, ∀ g, x.h.rf.ownBlock = some g ∨ x.u.ownBlock = some g → w11.heap.size ≤ g ∨ g < wr.heap.size from fun x hx g e => (hS7.ows x hx g e).elim .inl (fun e => .inr e.1))
    have HX7 := Lib.hid hx7
    have hmn : (keepM 100000 st.1 st.2 (hpOf y)).made ≤ 1048576 := HMN.out
    clear hS7 hx7 hr7 hB11 O8b O9b BW HKp HB11
    generalize keepM 100000 st.1 st.2 (hpOf y) = R at *
    go_wp2_with (first
     | refine wpList_load_row rfl 29 (.tmp 8) rfl w6.heap.size rfl 29 _ (0, 0) _ hB12 Tryz.underlying29 rfl (by kernel_rfl) ?_)
    refine (spoil_any _ _ _ _ _ _ _ _ _ _ _ _ _ w12 hf8 hf9).mono ?_
    rintro e w13 ⟨rfl, hsp, -⟩
    have HB13 := Lib.hid (HB12.out.spoil hf8 hf9 hsp (fun g e => by
     have h1 := HBr.out.hz
     rcases e with e | e
     ·have := (HL8.out g e).1; omega
     ·have := (HL9.out g e).1; omega) (fun x' hx' g e => by
     have hg : w7.heap.size ≤ g ∧ g < w11.heap.size := e.elim (fun e => HL8.out g e) (fun e => HL9.out g e)
     refine ⟨fun e' => ?_, fun e' => ?_⟩
     ·rcases HOW.out x' hx' g (.inl e') with h | h <;> omega
     ·rcases HOW.out x' hx' g (.inr e') with h | h <;> omega))
    clear hsp hf8 hf9 hB12 HOW HL8 HL9 HB12
    go_wp2_with fail
    have HLOW := Lib.hid (HB13.out.c.low)
    have hzW := HB13.out.hz
    refine (all_any (nC w.heap.size n2 n3) (2097152 + fs) (R.made) A 100000 xs7 w13 HB13.out.c (by omega) (by omega)).mono ?_
    rintro e wa ⟨⟨vv, zs, rfl, ho, hzs, hoks⟩, ba⟩
    have HBa := Lib.hid (HB13.out.below ba)
    have HOWN : Hid (∀ z ∈ zs, ∀ g, z.2.1.ownBlock = some g ∨ z.2.2.ownBlock = some g → w13.heap.size ≤ g) := fun z hz g e => e.elim (fun e => ((hoks z hz).1.lt g e).1) (fun e => ((hoks z hz).2.lt g e).1)
    have HFB : Hid (∀ z ∈ zs, FB wa z.2.1 z.1.l.length ∧ FB wa z.2.2 z.1.k.length) := fun z hz => ⟨FB.of (hoks z hz).1, FB.of (hoks z hz).2⟩
    have HO := Lib.hid ho
    have hzl : zs.length ≤ 20 := by
     have h1 := HB13.out.c.t.len
     have h2 := congrArg List.length hzs
     rw [List.length_map] at h2
     omega
    obtain ⟨Ao, co, rfl, -⟩ := (SlR.of_owns ho).form
    clear ho hoks ba hzs HB13
    go_wp2_with fail
    go_loopw [93] (fun i wq => ∃ j : Nat, j ≤ zs.length ∧ i = .int .i64 j ∧ Both w n2 n3 A A' (2097152 + fs) M' xs7 xs' (R.made) made' wq ∧ Owns wq w13.heap.size 29 11 e_ho (.slice Ao zs.length co) zs ∧ ∀ z ∈ zs, FB wq z.2.1 z.1.l.length ∧ FB wq z.2.2 z.1.k.length) (fun i _ => zs.length - (intOf i).toNat)
    case atStart => exact ⟨0, by omega, rfl, HBa.out, HO.out, HFB.out⟩
    case round =>
     clear HBa HO HFB
     obtain ⟨j, hj, rfl, hbq, hoq, hfq⟩ := hrel
     by_cases hjl : j < zs.length
     ·obtain ⟨bo, of', co', heq, hbo, hco⟩ := ho_at (w := wr) (W := wr) hoq (by omega)
      injection heq with q1 q2 q3
      subst q1 q3
      have hC := hco j hjl wr (Below.refl _ _)
      have hzj := List.getElem_mem hjl
      have hf := hfq _ hzj
      have HOj := Lib.hid (HOWN.out _ hzj)
      clear hco q2
      generalize hzz : zs[j] = z at *
      obtain ⟨x, u, v⟩ := z
      dsimp only at hf HOj
      obtain ⟨Au, cu, rfl⟩ := hf.1.form
      obtain ⟨Aw, cw, rfl⟩ := hf.2.form
      unfold e_ho hdC at hC
      dsimp only at hC
      have hA := (Below.refl wr.heap.size wr).alloc (Nat.le_refl _) (.cells #[.string x.h.rm, .string x.h.rt, .slice Au x.l.length cu, .string x.h.rb, .int .i64 x.h.code, .string x.h.rs, .slice Aw x.k.length cw, .string x.h.bd, .int .i64 x.h.asked, .int .i64 x.h.came, .int .i64 x.h.mark] 29)
      have hst := ho_store wr x Au Aw x.l.length cu x.k.length cw
      have hN := Blk.new wr 29 #[.string x.h.rm, .string x.h.rt, .slice Au x.l.length cu, .string x.h.rb, .int .i64 x.h.code, .string x.h.rs, .slice Aw x.k.length cw, .string x.h.bd, .int .i64 x.h.asked, .int .i64 x.h.came, .int .i64 x.h.mark]
      unfold hZ hdC at hst
      have HBn := Lib.hid (hbq.below hA)
      have HOn := Lib.hid (hoq.below hA)
      have HFn : Hid (∀ z ∈ zs, FB (wr.alloc (.cells #[.string x.h.rm, .string x.h.rt, .slice Au x.l.length cu, .string x.h.rb, .int .i64 x.h.code, .string x.h.rs, .slice Aw x.k.length cw, .string x.h.bd, .int .i64 x.h.asked, .int .i64 x.h.came, .int .i64 x.h.mark] 29)) z.2.1 z.1.l.length ∧ FB (wr.alloc (.cells #[.string x.h.rm, .string x.h.rt, .slice Au x.l.length cu, .string x.h.rb, .int .i64 x.h.code, .string x.h.rs, .slice Aw x.k.length cw, .string x.h.bd, .int .i64 x.h.asked, .int .i64 x.h.came, .int .i64 x.h.mark] 29)) z.2.2 z.1.k.length) := fun z hz => ⟨(hfq z hz).1.below hA, (hfq z hz).2.below hA⟩
      have hf1 := hf.1.below hA
      have hf2 := hf.2.below hA
      clear hbq hoq hfq hf hA
      go_wp2_with (first
       | refine wpList_load_mid rfl 29 (.tmp 95) rfl bo (of' + j * 11) rfl _ _ hC Tryz.underlying29 rfl (by kernel_rfl) ?_
       | refine wpList_load_row rfl 29 (.tmp 14) rfl wr.heap.size rfl 29 _ (0, 0) _ hN Tryz.underlying29 rfl (by kernel_rfl) ?_)
      clear hst hC hN
      generalize wr.alloc _ = wb at *
      refine (spoil_any x.h.rm x.h.rt x.h.rb x.h.rs x.h.bd x.h.code x.h.asked x.h.came x.h.mark _ _ _ _ wb hf1 hf2).mono ?_
      rintro e wc ⟨rfl, hsp, hkf⟩
      have HBc := Lib.hid (HBn.out.spoil hf1 hf2 hsp (fun g e => Nat.le_trans hzW (HOj.out g e)) (fun x' hx' g e => ⟨fun e' => absurd (HLOW.out x' hx' g (.inl e')) (Nat.not_lt.2 (HOj.out g e)), fun e' => absurd (HLOW.out x' hx' g (.inr e')) (Nat.not_lt.2 (HOj.out g e))⟩))
      have HOc := Lib.hid (Owns.spl HOn.out hf1 hf2 hsp)
      have HFc : Hid (∀ z ∈ zs, FB wc z.2.1 z.1.l.length ∧ FB wc z.2.2 z.1.k.length) := fun z hz => ⟨hkf _ _ (HFn.out z hz).1, hkf _ _ (HFn.out z hz).2⟩
      clear hsp hkf hf1 hf2 HBn HOn HFn HOj hzz hzj
      go_wp2_with fail
      go_roundw
      case rel => exact ⟨j + 1, by omega, by go_num, HBc.out, HOc.out, HFc.out⟩
      case measure => simp [intOf]; omega
     ·have HBq := Lib.hid hbq
      clear hbq hoq hfq HOWN HLOW
      go_wp2_with fail
      go_roundw
      case rel =>
       refine ⟨k + 1, xs7, by omega, by go_num, ?_, ?_⟩
       ·rw [HRN.out, HSK.out, HFN.out]; exact HBq.out.mono (by omega)
       ·rw [HRN.out, HSK.out]
        exact HX7.out
      case measure => simp [intOf]; omega
   ·have hL : w6.rangeAt wr.heap.size 10 [.string (y.st.u 3), .string (y.st.u 4), .slice (y.st.g 2).1 (y.st.g 2).2.1 (y.st.g 2).2.2, .string (y.st.u 5), .int .i64 (y.st.i 0), .string (y.st.u 6), .slice (y.st.g 3).1 (y.st.g 3).2.1 (y.st.g 3).2.2, .string (y.st.u 7), .int .i64 (y.st.i 1), .int .i64 (y.st.i 2), .int .i64 (y.st.i 3)] := World.rangeAt_of_block hB6 10 11
    have HSK : Hid (stepM 100000 st y = ((keepM 100000 st.1 st.2 (hpOf y)).xs, (keepM 100000 st.1 st.2 (hpOf y)).made)) := by show _ = _; rw [HSM.out]; rw [if_neg (by decide), if_neg (by decide)]
    rw [HSK.out] at HMN
    clear HSM
    have hst : (storeCells ⟨w6.heap.size, 0, none⟩ #[.string (y.st.u 3), .string (y.st.u 4), .slice (y.st.g 2).1 (y.st.g 2).2.1 (y.st.g 2).2.2, .string (y.st.u 5), .int .i64 (y.st.i 0), .string (y.st.u 6), .slice (y.st.g 3).1 (y.st.g 3).2.1 (y.st.g 3).2.2, .string (y.st.u 7), .int .i64 (y.st.i 1), .int .i64 (y.st.i 2), .int .i64 (y.st.i 3)].toList).run Tryz.prog (w6.alloc (.cells hZ 29)) = .ok () (w6.alloc (.cells #[.string (y.st.u 3), .string (y.st.u 4), .slice (y.st.g 2).1 (y.st.g 2).2.1 (y.st.g 2).2.2, .string (y.st.u 5), .int .i64 (y.st.i 0), .string (y.st.u 6), .slice (y.st.g 3).1 (y.st.g 3).2.1 (y.st.g 3).2.2, .string (y.st.u 7), .int .i64 (y.st.i 1), .int .i64 (y.st.i 2), .int .i64 (y.st.i 3)] 29)) :=
     run_storeCells_new (P := Tryz.prog) w6 29 hZ _ (by kernel_rfl) (by simp [hZ]) (by simp [Value.oneCell'])
    unfold hZ at hst
    have hB7 := Blk.new w6 29 #[.string (y.st.u 3), .string (y.st.u 4), .slice (y.st.g 2).1 (y.st.g 2).2.1 (y.st.g 2).2.2, .string (y.st.u 5), .int .i64 (y.st.i 0), .string (y.st.u 6), .slice (y.st.g 3).1 (y.st.g 3).2.1 (y.st.g 3).2.2, .string (y.st.u 7), .int .i64 (y.st.i 1), .int .i64 (y.st.i 2), .int .i64 (y.st.i 3)]
    have HA7 := Lib.hid ((Below.refl w6.heap.size w6).alloc (Nat.le_refl _) (.cells #[.string (y.st.u 3), .string (y.st.u 4), .slice (y.st.g 2).1 (y.st.g 2).2.1 (y.st.g 2).2.2, .string (y.st.u 5), .int .i64 (y.st.i 0), .string (y.st.u 6), .slice (y.st.g 3).1 (y.st.g 3).2.1 (y.st.g 3).2.2, .string (y.st.u 7), .int .i64 (y.st.i 1), .int .i64 (y.st.i 2), .int .i64 (y.st.i 3)] 29))
    have HU7 := Lib.hid (HST.out _ _ hyk.h _ (HLM.out _ (HA7.out.mono (Nat.le_trans hzr hz6))))
    have HV7 := Lib.hid (HST.out _ _ hyk.k _ (HLM.out _ (HA7.out.mono (Nat.le_trans hzr hz6))))
    unfold sv at HU7 HV7
    go_wp2_with (first
     | refine wpList_load_mid rfl 29 (.tmp 36) rfl wr.heap.size 10 rfl _ _ hL Tryz.underlying29 rfl (by kernel_rfl) ?_)
    clear hst hL
    generalize w6.alloc _ = w7 at *
    refine wp_region_effs [(true, 0), (true, 1), (true, 2), (true, 4), (true, 5), (true, 6), (false, 3), (true, 8), (true, 9), (false, 7), (false, 10), (true, 11), (true, 12), (false, 13)] 10 (fun w' => Below w7.heap.size w7 w') (by kernel_rfl) (by kernel_rfl) (fun _ _ _ _ _ h => h) (by kernel_rfl) (by kernel_rfl) ?_ ?_
    ·exact (Below.refl _ _).drew
    iterate 6 (first | (apply seqN_skip; (focus (simp only [List.getElem?_toArray, List.getElem?_cons_succ, List.getElem?_cons_zero]; rfl)); (focus rfl); simp only [Act.put, List.setIfInBounds_toArray, List.set_cons_zero, List.set_cons_succ]) | (apply seqN_pure; (focus (simp only [List.getElem?_toArray, List.getElem?_cons_succ, List.getElem?_cons_zero]; rfl)); (focus rfl); (focus (intro w'; first | (go_simp; rfl) | (go_simp; done))); simp only [Act.put, List.setIfInBounds_toArray, List.set_cons_zero, List.set_cons_succ]) | (apply seqN_take; (focus (simp only [List.getElem?_toArray, List.getElem?_cons_succ, List.getElem?_cons_zero]; rfl)); (focus kernel_rfl); (focus rfl); (focus (intro w' hS; have hb := hB7.below hS hB7.lt; have c2 := hb.cell 2; have c6 := hb.cell 6; first | (go_simp; rfl) | (go_simp; done))); simp only [Act.put, List.setIfInBounds_toArray, List.set_cons_zero, List.set_cons_succ]))
    apply seqN_eff
    (focus (simp only [List.getElem?_toArray, List.getElem?_cons_succ, List.getElem?_cons_zero]; rfl))
    (focus rfl)
    intro K hK
    go_simp
    refine (copyFld_any _ y.fh w7.drew (HU7.out.below (Below.refl _ _).drew) (by have := hlen y.fh; have := hw1.1; omega)).mono ?_
    rintro e w8 ⟨⟨v8, rfl, o8⟩, b8⟩
    have B8 : Below w7.heap.size w7 w8 := (Below.refl _ _).drew.trans b8
    obtain ⟨A8, c8, rfl, -⟩ := (SlR.of_owns o8).form
    refine hK _ _ ⟨fun _ => B8, ?_⟩
    clear hK K
    iterate 2 (first | (apply seqN_skip; (focus (simp only [List.getElem?_toArray, List.getElem?_cons_succ, List.getElem?_cons_zero]; rfl)); (focus rfl); simp only [Act.put, List.setIfInBounds_toArray, List.set_cons_zero, List.set_cons_succ]) | (apply seqN_pure; (focus (simp only [List.getElem?_toArray, List.getElem?_cons_succ, List.getElem?_cons_zero]; rfl)); (focus rfl); (focus (intro w'; first | (go_simp; rfl) | (go_simp; done))); simp only [Act.put, List.setIfInBounds_toArray, List.set_cons_zero, List.set_cons_succ]) | (apply seqN_take; (focus (simp only [List.getElem?_toArray, List.getElem?_cons_succ, List.getElem?_cons_zero]; rfl)); (focus kernel_rfl); (focus rfl); (focus (intro w' hS; skip; first | (go_simp; rfl) | (go_simp; done))); simp only [Act.put, List.setIfInBounds_toArray, List.set_cons_zero, List.set_cons_succ]))
    apply seqN_eff
    (focus (simp only [List.getElem?_toArray, List.getElem?_cons_succ, List.getElem?_cons_zero]; rfl))
    (focus rfl)
    intro K hK
    go_simp
    refine (copyFld_any _ y.fk w8 (HV7.out.below B8) (by have := hlen y.fk; have := hw1.2.1; omega)).mono ?_
    rintro e w9 ⟨⟨v9, rfl, o9⟩, b9⟩
    have B9 : Below w7.heap.size w7 w9 := B8.trans (b9.mono B8.size)
    obtain ⟨A9, c9, rfl, -⟩ := (SlR.of_owns o9).form
    refine hK _ _ ⟨fun _ => B9, ?_⟩
    clear hK K
    have hB9 := hB7.below B9 hB7.lt
    have O8 : Owns w9 w7.heap.size 57 2 e_ss (.slice A8 y.fh.length c8) y.fh := (o8.mono (Nat.le_of_eq rfl)).below b9
    have O9 : Owns w9 w7.heap.size 57 2 e_ss (.slice A9 y.fk.length c9) y.fk := o9.mono B8.size
    clear o8 o9 b8 b9 B8 hB7
    apply seqN_eff
    (focus (simp only [List.getElem?_toArray, List.getElem?_cons_succ, List.getElem?_cons_zero]; rfl))
    (focus rfl)
    intro K hK
    have k2 := hB9.cell 2
    have f2 := hB9.frozen 2
    go_simp
    refine hK _ _ ⟨fun h => absurd h (by decide), ?_⟩
    clear hK K k2 f2
    have g10 := gcell w9 ⟨w6.heap.size, 2, none⟩ (.slice A8 y.fh.length c8)
    have hB10 := hB9.set_ 2 (.slice A8 y.fh.length c8)
    have O8a := O8.grownOther g10 (ownNe O8 hB9 (by decide))
    have O9a := O9.grownOther g10 (ownNe O9 hB9 (by decide))
    iterate 2 (first | (apply seqN_skip; (focus (simp only [List.getElem?_toArray, List.getElem?_cons_succ, List.getElem?_cons_zero]; rfl)); (focus rfl); simp only [Act.put, List.setIfInBounds_toArray, List.set_cons_zero, List.set_cons_succ]) | (apply seqN_pure; (focus (simp only [List.getElem?_toArray, List.getElem?_cons_succ, List.getElem?_cons_zero]; rfl)); (focus rfl); (focus (intro w'; first | (go_simp; rfl) | (go_simp; done))); simp only [Act.put, List.setIfInBounds_toArray, List.set_cons_zero, List.set_cons_succ]) | (apply seqN_take; (focus (simp only [List.getElem?_toArray, List.getElem?_cons_succ, List.getElem?_cons_zero]; rfl)); (focus kernel_rfl); (focus rfl); (focus (intro w' hS; skip; first | (go_simp; rfl) | (go_simp; done))); simp only [Act.put, List.setIfInBounds_toArray, List.set_cons_zero, List.set_cons_succ]))
    apply seqN_eff
    (focus (simp only [List.getElem?_toArray, List.getElem?_cons_succ, List.getElem?_cons_zero]; rfl))
    (focus rfl)
    intro K hK
    have k6 := hB10.cell 6
    have f6 := hB10.frozen 6
    go_simp
    refine hK _ _ ⟨fun h => absurd h (by decide), ?_⟩
    clear hK K k6 f6
    refine seqN_nil ?_
    have g11 := gcell (w9.setCell ⟨w6.heap.size, 2, none⟩ (.slice A8 y.fh.length c8)) ⟨w6.heap.size, 6, none⟩ (.slice A9 y.fk.length c9)
    have hB11 : Blk _ w6.heap.size 29 #[.string (y.st.u 3), .string (y.st.u 4), .slice A8 y.fh.length c8, .string (y.st.u 5), .int .i64 (y.st.i 0), .string (y.st.u 6), .slice A9 y.fk.length c9, .string (y.st.u 7), .int .i64 (y.st.i 1), .int .i64 (y.st.i 2), .int .i64 (y.st.i 3)] := hB10.set_ 6 (.slice A9 y.fk.length c9)
    have O8b := O8a.grownOther g11 (ownNe O8a hB10 (by decide))
    have O9b := O9a.grownOther g11 (ownNe O9a hB10 (by decide))
    have hz9 : w6.heap.size ≤ w9.heap.size := Nat.le_trans HA7.out.size B9.size
    have BW := ((HA7.out.trans (B9.mono HA7.out.size)).grown g10 hz9 (fun k hk => by cases hk; exact Nat.le_refl _)).grown g11 (Nat.le_trans hz9 g10.size) (fun k hk => by cases hk; exact Nat.le_refl _)
    clear O8 O9 O8a O9a hB9 hB10 g10 g11
    generalize ((w9.setCell ⟨w6.heap.size, 2, none⟩ _).setCell _ _) = w11 at *
    have HB11 := Lib.hid (HB6.out.below BW)
    have hc11 := HBr.out.toK (HA6.out.trans (BW.mono hz6))
    have HKp := Lib.hid (keep_any (nK w.heap.size n2 n3 wr.heap.size w11) (2097152 + fs) st.2 A 100000 xs ⟨y.st.u 3, y.st.u 4, .slice A8 y.fh.length c8, y.st.u 5, y.st.i 0, y.st.u 6, y.st.u 7, y.st.i 1, y.st.i 2, y.st.i 3⟩ (.slice A9 y.fk.length c9) y.fh y.fk w11 hc11 hex (by omega) (by omega) (fun W hW => SlR.of_owns (Owns.rm O8b hW rfl)) (fun W hW => SlR.of_owns (Owns.rm O9b hW rfl)) (by rw [e1]; omega) (by rw [e1]; omega) (by show (y.st.u 4).size ≤ _; omega) (by show (y.st.u 7).size ≤ _; omega) (HB11.out.envK _))
    rw [show plH ⟨y.st.u 3, y.st.u 4, .slice A8 y.fh.length c8, y.st.u 5, y.st.i 0, y.st.u 6, y.st.u 7, y.st.i 1, y.st.i 2, y.st.i 3⟩ y.fh y.fk = hpOf y from rfl, HPL.out] at HKp
    unfold KeepAns Fr.hv at HKp
    clear hc11
    have hz7 := HA7.out.size
    go_wp2_with (first
     | refine wpList_load_row rfl 29 (.tmp 8) rfl w6.heap.size rfl 29 _ (0, 0) _ hB11 Tryz.underlying29 rfl (by kernel_rfl) ?_)
    refine HKp.out.mono ?_
    rintro e w12 ⟨rfl, ⟨xs7, hx7, hS7⟩, hr7⟩
    have HB12 := Lib.hid (HB11.out.back hS7 hr7.bel)
    have hB12 := Blk.rm hB11 hr7 (by decide)
    have hf8 := FB.of (Owns.rm O8b hr7 rfl)
    have hf9 := FB.of (Owns.rm O9b hr7 rfl)
    have HL8 := Lib.hid O8b.lt
    have HL9 := Lib.hid O9b.lt
    have HOW := Lib.hid (show ∀ x ∈ xs7, ∀ g, x.h.rf.ownBlock = some g ∨ x.u.ownBlock = some g → w11.heap.size ≤ g ∨ g < wr.heap.size from fun x hx g e => (hS7.ows x hx g e).elim .inl (fun e => .inr e.1))
    have HX7 := Lib.hid hx7
    have hmn : (keepM 100000 st.1 st.2 (hpOf y)).made ≤ 1048576 := HMN.out
    clear hS7 hx7 hr7 hB11 O8b O9b BW HKp HB11
    generalize keepM 100000 st.1 st.2 (hpOf y) = R at *
    go_wp2_with (first
     | refine wpList_load_row rfl 29 (.tmp 8) rfl w6.heap.size rfl 29 _ (0, 0) _ hB12 Tryz.underlying29 rfl (by kernel_rfl) ?_)
    refine (spoil_any _ _ _ _ _ _ _ _ _ _ _ _ _ w12 hf8 hf9).mono ?_
    rintro e w13 ⟨rfl, hsp, -⟩
    have HB13 := Lib.hid (HB12.out.spoil hf8 hf9 hsp (fun g e => by
     have h1 := HBr.out.hz
     rcases e with e | e
     ·have := (HL8.out g e).1; omega
     ·have := (HL9.out g e).1; omega) (fun x' hx' g e => by
     have hg : w7.heap.size ≤ g ∧ g < w11.heap.size := e.elim (fun e => HL8.out g e) (fun e => HL9.out g e)
     refine ⟨fun e' => ?_, fun e' => ?_⟩
     ·rcases HOW.out x' hx' g (.inl e') with h | h <;> omega
     ·rcases HOW.out x' hx' g (.inr e') with h | h <;> omega))
    clear hsp hf8 hf9 hB12 HOW HL8 HL9 HB12
    go_wp2_with fail
    have HLOW := Lib.hid (HB13.out.c.low)
    have hzW := HB13.out.hz
    refine (all_any (nC w.heap.size n2 n3) (2097152 + fs) (R.made) A 100000 xs7 w13 HB13.out.c (by omega) (by omega)).mono ?_
    rintro e wa ⟨⟨vv, zs, rfl, ho, hzs, hoks⟩, ba⟩
    have HBa := Lib.hid (HB13.out.below ba)
    have HOWN : Hid (∀ z ∈ zs, ∀ g, z.2.1.ownBlock = some g ∨ z.2.2.ownBlock = some g → w13.heap.size ≤ g) := fun z hz g e => e.elim (fun e => ((hoks z hz).1.lt g e).1) (fun e => ((hoks z hz).2.lt g e).1)
    have HFB : Hid (∀ z ∈ zs, FB wa z.2.1 z.1.l.length ∧ FB wa z.2.2 z.1.k.length) := fun z hz => ⟨FB.of (hoks z hz).1, FB.of (hoks z hz).2⟩
    have HO := Lib.hid ho
    have hzl : zs.length ≤ 20 := by
     have h1 := HB13.out.c.t.len
     have h2 := congrArg List.length hzs
     rw [List.length_map] at h2
     omega
    obtain ⟨Ao, co, rfl, -⟩ := (SlR.of_owns ho).form
    clear ho hoks ba hzs HB13
    go_wp2_with fail
    go_loopw [93] (fun i wq => ∃ j : Nat, j ≤ zs.length ∧ i = .int .i64 j ∧ Both w n2 n3 A A' (2097152 + fs) M' xs7 xs' (R.made) made' wq ∧ Owns wq w13.heap.size 29 11 e_ho (.slice Ao zs.length co) zs ∧ ∀ z ∈ zs, FB wq z.2.1 z.1.l.length ∧ FB wq z.2.2 z.1.k.length) (fun i _ => zs.length - (intOf i).toNat)
    case atStart => exact ⟨0, by omega, rfl, HBa.out, HO.out, HFB.out⟩
    case round =>
     clear HBa HO HFB
     obtain ⟨j, hj, rfl, hbq, hoq, hfq⟩ := hrel
     by_cases hjl : j < zs.length
     ·obtain ⟨bo, of', co', heq, hbo, hco⟩ := ho_at (w := wr) (W := wr) hoq (by omega)
      injection heq with q1 q2 q3
      subst q1 q3
      have hC := hco j hjl wr (Below.refl _ _)
      have hzj := List.getElem_mem hjl
      have hf := hfq _ hzj
      have HOj := Lib.hid (HOWN.out _ hzj)
      clear hco q2
      generalize hzz : zs[j] = z at *
      obtain ⟨x, u, v⟩ := z
      dsimp only at hf HOj
      obtain ⟨Au, cu, rfl⟩ := hf.1.form
      obtain ⟨Aw, cw, rfl⟩ := hf.2.form
      unfold e_ho hdC at hC
      dsimp only at hC
      have hA := (Below.refl wr.heap.size wr).alloc (Nat.le_refl _) (.cells #[.string x.h.rm, .string x.h.rt, .slice Au x.l.length cu, .string x.h.rb, .int .i64 x.h.code, .string x.h.rs, .slice Aw x.k.length cw, .string x.h.bd, .int .i64 x.h.asked, .int .i64 x.h.came, .int .i64 x.h.mark] 29)
      have hst := ho_store wr x Au Aw x.l.length cu x.k.length cw
      have hN := Blk.new wr 29 #[.string x.h.rm, .string x.h.rt, .slice Au x.l.length cu, .string x.h.rb, .int .i64 x.h.code, .string x.h.rs, .slice Aw x.k.length cw, .string x.h.bd, .int .i64 x.h.asked, .int .i64 x.h.came, .int .i64 x.h.mark]
      unfold hZ hdC at hst
      have HBn := Lib.hid (hbq.below hA)
      have HOn := Lib.hid (hoq.below hA)
      have HFn : Hid (∀ z ∈ zs, FB (wr.alloc (.cells #[.string x.h.rm, .string x.h.rt, .slice Au x.l.length cu, .string x.h.rb, .int .i64 x.h.code, .string x.h.rs, .slice Aw x.k.length cw, .string x.h.bd, .int .i64 x.h.asked, .int .i64 x.h.came, .int .i64 x.h.mark] 29)) z.2.1 z.1.l.length ∧ FB (wr.alloc (.cells #[.string x.h.rm, .string x.h.rt, .slice Au x.l.length cu, .string x.h.rb, .int .i64 x.h.code, .string x.h.rs, .slice Aw x.k.length cw, .string x.h.bd, .int .i64 x.h.asked, .int .i64 x.h.came, .int .i64 x.h.mark] 29)) z.2.2 z.1.k.length) := fun z hz => ⟨(hfq z hz).1.below hA, (hfq z hz).2.below hA⟩
      have hf1 := hf.1.below hA
      have hf2 := hf.2.below hA
      clear hbq hoq hfq hf hA
      go_wp2_with (first
       | refine wpList_load_mid rfl 29 (.tmp 95) rfl bo (of' + j * 11) rfl _ _ hC Tryz.underlying29 rfl (by kernel_rfl) ?_
       | refine wpList_load_row rfl 29 (.tmp 14) rfl wr.heap.size rfl 29 _ (0, 0) _ hN Tryz.underlying29 rfl (by kernel_rfl) ?_)
      clear hst hC hN
      generalize wr.alloc _ = wb at *
      refine (spoil_any x.h.rm x.h.rt x.h.rb x.h.rs x.h.bd x.h.code x.h.asked x.h.came x.h.mark _ _ _ _ wb hf1 hf2).mono ?_
      rintro e wc ⟨rfl, hsp, hkf⟩
      have HBc := Lib.hid (HBn.out.spoil hf1 hf2 hsp (fun g e => Nat.le_trans hzW (HOj.out g e)) (fun x' hx' g e => ⟨fun e' => absurd (HLOW.out x' hx' g (.inl e')) (Nat.not_lt.2 (HOj.out g e)), fun e' => absurd (HLOW.out x' hx' g (.inr e')) (Nat.not_lt.2 (HOj.out g e))⟩))
      have HOc := Lib.hid (Owns.spl HOn.out hf1 hf2 hsp)
      have HFc : Hid (∀ z ∈ zs, FB wc z.2.1 z.1.l.length ∧ FB wc z.2.2 z.1.k.length) := fun z hz => ⟨hkf _ _ (HFn.out z hz).1, hkf _ _ (HFn.out z hz).2⟩
      clear hsp hkf hf1 hf2 HBn HOn HFn HOj hzz hzj
      go_wp2_with fail
      go_roundw
      case rel => exact ⟨j + 1, by omega, by go_num, HBc.out, HOc.out, HFc.out⟩
      case measure => simp [intOf]; omega
     ·have HBq := Lib.hid hbq
      clear hbq hoq hfq HOWN HLOW
      go_wp2_with fail
      go_roundw
      case rel =>
       refine ⟨k + 1, xs7, by omega, by go_num, ?_, ?_⟩
       ·rw [HRN.out, HSK.out, HFN.out]; exact HBq.out.mono (by omega)
       ·rw [HRN.out, HSK.out]
        exact HX7.out
      case measure => simp [intOf]; omega
   ·have hL : w6.rangeAt wr.heap.size 10 [.string (y.st.u 3), .string (y.st.u 4), .slice (y.st.g 2).1 (y.st.g 2).2.1 (y.st.g 2).2.2, .string (y.st.u 5), .int .i64 (y.st.i 0), .string (y.st.u 6), .slice (y.st.g 3).1 (y.st.g 3).2.1 (y.st.g 3).2.2, .string (y.st.u 7), .int .i64 (y.st.i 1), .int .i64 (y.st.i 2), .int .i64 (y.st.i 3)] := World.rangeAt_of_block hB6 10 11
    have HSK : Hid (stepM 100000 st y = ((keepM 100000 st.1 st.2 (hpOf y)).xs, (keepM 100000 st.1 st.2 (hpOf y)).made)) := by show _ = _; rw [HSM.out]; rw [if_neg (by decide), if_neg (by decide)]
    rw [HSK.out] at HMN
    clear HSM
    have hst : (storeCells ⟨w6.heap.size, 0, none⟩ #[.string (y.st.u 3), .string (y.st.u 4), .slice (y.st.g 2).1 (y.st.g 2).2.1 (y.st.g 2).2.2, .string (y.st.u 5), .int .i64 (y.st.i 0), .string (y.st.u 6), .slice (y.st.g 3).1 (y.st.g 3).2.1 (y.st.g 3).2.2, .string (y.st.u 7), .int .i64 (y.st.i 1), .int .i64 (y.st.i 2), .int .i64 (y.st.i 3)].toList).run Tryz.prog (w6.alloc (.cells hZ 29)) = .ok () (w6.alloc (.cells #[.string (y.st.u 3), .string (y.st.u 4), .slice (y.st.g 2).1 (y.st.g 2).2.1 (y.st.g 2).2.2, .string (y.st.u 5), .int .i64 (y.st.i 0), .string (y.st.u 6), .slice (y.st.g 3).1 (y.st.g 3).2.1 (y.st.g 3).2.2, .string (y.st.u 7), .int .i64 (y.st.i 1), .int .i64 (y.st.i 2), .int .i64 (y.st.i 3)] 29)) :=
     run_storeCells_new (P := Tryz.prog) w6 29 hZ _ (by kernel_rfl) (by simp [hZ]) (by simp [Value.oneCell'])
    unfold hZ at hst
    have hB7 := Blk.new w6 29 #[.string (y.st.u 3), .string (y.st.u 4), .slice (y.st.g 2).1 (y.st.g 2).2.1 (y.st.g 2).2.2, .string (y.st.u 5), .int .i64 (y.st.i 0), .string (y.st.u 6), .slice (y.st.g 3).1 (y.st.g 3).2.1 (y.st.g 3).2.2, .string (y.st.u 7), .int .i64 (y.st.i 1), .int .i64 (y.st.i 2), .int .i64 (y.st.i 3)]
    have HA7 := Lib.hid ((Below.refl w6.heap.size w6).alloc (Nat.le_refl _) (.cells #[.string (y.st.u 3), .string (y.st.u 4), .slice (y.st.g 2).1 (y.st.g 2).2.1 (y.st.g 2).2.2, .string (y.st.u 5), .int .i64 (y.st.i 0), .string (y.st.u 6), .slice (y.st.g 3).1 (y.st.g 3).2.1 (y.st.g 3).2.2, .string (y.st.u 7), .int .i64 (y.st.i 1), .int .i64 (y.st.i 2), .int .i64 (y.st.i 3)] 29))
    have HU7 := Lib.hid (HST.out _ _ hyk.h _ (HLM.out _ (HA7.out.mono (Nat.le_trans hzr hz6))))
    have HV7 := Lib.hid (HST.out _ _ hyk.k _ (HLM.out _ (HA7.out.mono (Nat.le_trans hzr hz6))))
    unfold sv at HU7 HV7
    go_wp2_with (first
     | refine wpList_load_mid rfl 29 (.tmp 36) rfl wr.heap.size 10 rfl _ _ hL Tryz.underlying29 rfl (by kernel_rfl) ?_)
    clear hst hL
    generalize w6.alloc _ = w7 at *
    refine wp_region_effs [(true, 0), (true, 1), (true, 2), (true, 4), (true, 5), (true, 6), (false, 3), (true, 8), (true, 9), (false, 7), (false, 10), (true, 11), (true, 12), (false, 13)] 10 (fun w' => Below w7.heap.size w7 w') (by kernel_rfl) (by kernel_rfl) (fun _ _ _ _ _ h => h) (by kernel_rfl) (by kernel_rfl) ?_ ?_
    ·exact (Below.refl _ _).drew
    iterate 6 (first | (apply seqN_skip; (focus (simp only [List.getElem?_toArray, List.getElem?_cons_succ, List.getElem?_cons_zero]; rfl)); (focus rfl); simp only [Act.put, List.setIfInBounds_toArray, List.set_cons_zero, List.set_cons_succ]) | (apply seqN_pure; (focus (simp only [List.getElem?_toArray, List.getElem?_cons_succ, List.getElem?_cons_zero]; rfl)); (focus rfl); (focus (intro w'; first | (go_simp; rfl) | (go_simp; done))); simp only [Act.put, List.setIfInBounds_toArray, List.set_cons_zero, List.set_cons_succ]) | (apply seqN_take; (focus (simp only [List.getElem?_toArray, List.getElem?_cons_succ, List.getElem?_cons_zero]; rfl)); (focus kernel_rfl); (focus rfl); (focus (intro w' hS; have hb := hB7.below hS hB7.lt; have c2 := hb.cell 2; have c6 := hb.cell 6; first | (go_simp; rfl) | (go_simp; done))); simp only [Act.put, List.setIfInBounds_toArray, List.set_cons_zero, List.set_cons_succ]))
    apply seqN_eff
    (focus (simp only [List.getElem?_toArray, List.getElem?_cons_succ, List.getElem?_cons_zero]; rfl))
    (focus rfl)
    intro K hK
    go_simp
    refine (copyFld_any _ y.fh w7.drew (HU7.out.below (Below.refl _ _).drew) (by have := hlen y.fh; have := hw1.1; omega)).mono ?_
    rintro e w8 ⟨⟨v8, rfl, o8⟩, b8⟩
    have B8 : Below w7.heap.size w7 w8 := (Below.refl _ _).drew.trans b8
    obtain ⟨A8, c8, rfl, -⟩ := (SlR.of_owns o8).form
    refine hK _ _ ⟨fun _ => B8, ?_⟩
    clear hK K
    iterate 2 (first | (apply seqN_skip; (focus (simp only [List.getElem?_toArray, List.getElem?_cons_succ, List.getElem?_cons_zero]; rfl)); (focus rfl); simp only [Act.put, List.setIfInBounds_toArray, List.set_cons_zero, List.set_cons_succ]) | (apply seqN_pure; (focus (simp only [List.getElem?_toArray, List.getElem?_cons_succ, List.getElem?_cons_zero]; rfl)); (focus rfl); (focus (intro w'; first | (go_simp; rfl) | (go_simp; done))); simp only [Act.put, List.setIfInBounds_toArray, List.set_cons_zero, List.set_cons_succ]) | (apply seqN_take; (focus (simp only [List.getElem?_toArray, List.getElem?_cons_succ, List.getElem?_cons_zero]; rfl)); (focus kernel_rfl); (focus rfl); (focus (intro w' hS; skip; first | (go_simp; rfl) | (go_simp; done))); simp only [Act.put, List.setIfInBounds_toArray, List.set_cons_zero, List.set_cons_succ]))
    apply seqN_eff
    (focus (simp only [List.getElem?_toArray, List.getElem?_cons_succ, List.getElem?_cons_zero]; rfl))
    (focus rfl)
    intro K hK
    go_simp
    refine (copyFld_any _ y.fk w8 (HV7.out.below B8) (by have := hlen y.fk; have := hw1.2.1; omega)).mono ?_
    rintro e w9 ⟨⟨v9, rfl, o9⟩, b9⟩
    have B9 : Below w7.heap.size w7 w9 := B8.trans (b9.mono B8.size)
    obtain ⟨A9, c9, rfl, -⟩ := (SlR.of_owns o9).form
    refine hK _ _ ⟨fun _ => B9, ?_⟩
    clear hK K
    have hB9 := hB7.below B9 hB7.lt
    have O8 : Owns w9 w7.heap.size 57 2 e_ss (.slice A8 y.fh.length c8) y.fh := (o8.mono (Nat.le_of_eq rfl)).below b9
    have O9 : Owns w9 w7.heap.size 57 2 e_ss (.slice A9 y.fk.length c9) y.fk := o9.mono B8.size
    clear o8 o9 b8 b9 B8 hB7
    apply seqN_eff
    (focus (simp only [List.getElem?_toArray, List.getElem?_cons_succ, List.getElem?_cons_zero]; rfl))
    (focus rfl)
    intro K hK
    have k2 := hB9.cell 2
    have f2 := hB9.frozen 2
    go_simp
    refine hK _ _ ⟨fun h => absurd h (by decide), ?_⟩
    clear hK K k2 f2
    have g10 := gcell w9 ⟨w6.heap.size, 2, none⟩ (.slice A8 y.fh.length c8)
    have hB10 := hB9.set_ 2 (.slice A8 y.fh.length c8)
    have O8a := O8.grownOther g10 (ownNe O8 hB9 (by decide))
    have O9a := O9.grownOther g10 (ownNe O9 hB9 (by decide))
    iterate 2 (first | (apply seqN_skip; (focus (simp only [List.getElem?_toArray, List.getElem?_cons_succ, List.getElem?_cons_zero]; rfl)); (focus rfl); simp only [Act.put, List.setIfInBounds_toArray, List.set_cons_zero, List.set_cons_succ]) | (apply seqN_pure; (focus (simp only [List.getElem?_toArray, List.getElem?_cons_succ, List.getElem?_cons_zero]; rfl)); (focus rfl); (focus (intro w'; first | (go_simp; rfl) | (go_simp; done))); simp only [Act.put, List.setIfInBounds_toArray, List.set_cons_zero, List.set_cons_succ]) | (apply seqN_take; (focus (simp only [List.getElem?_toArray, List.getElem?_cons_succ, List.getElem?_cons_zero]; rfl)); (focus kernel_rfl); (focus rfl); (focus (intro w' hS; skip; first | (go_simp; rfl) | (go_simp; done))); simp only [Act.put, List.setIfInBounds_toArray, List.set_cons_zero, List.set_cons_succ]))
    apply seqN_eff
    (focus (simp only [List.getElem?_toArray, List.getElem?_cons_succ, List.getElem?_cons_zero]; rfl))
    (focus rfl)
    intro K hK
    have k6 := hB10.cell 6
    have f6 := hB10.frozen 6
    go_simp
    refine hK _ _ ⟨fun h => absurd h (by decide), ?_⟩
    clear hK K k6 f6
    refine seqN_nil ?_
    have g11 := gcell (w9.setCell ⟨w6.heap.size, 2, none⟩ (.slice A8 y.fh.length c8)) ⟨w6.heap.size, 6, none⟩ (.slice A9 y.fk.length c9)
    have hB11 : Blk _ w6.heap.size 29 #[.string (y.st.u 3), .string (y.st.u 4), .slice A8 y.fh.length c8, .string (y.st.u 5), .int .i64 (y.st.i 0), .string (y.st.u 6), .slice A9 y.fk.length c9, .string (y.st.u 7), .int .i64 (y.st.i 1), .int .i64 (y.st.i 2), .int .i64 (y.st.i 3)] := hB10.set_ 6 (.slice A9 y.fk.length c9)
    have O8b := O8a.grownOther g11 (ownNe O8a hB10 (by decide))
    have O9b := O9a.grownOther g11 (ownNe O9a hB10 (by decide))
    have hz9 : w6.heap.size ≤ w9.heap.size := Nat.le_trans HA7.out.size B9.size
    have BW := ((HA7.out.trans (B9.mono HA7.out.size)).grown g10 hz9 (fun k hk => by cases hk; exact Nat.le_refl _)).grown g11 (Nat.le_trans hz9 g10.size) (fun k hk => by cases hk; exact Nat.le_refl _)
    clear O8 O9 O8a O9a hB9 hB10 g10 g11
    generalize ((w9.setCell ⟨w6.heap.size, 2, none⟩ _).setCell _ _) = w11 at *
    have HB11 := Lib.hid (HB6.out.below BW)
    have hc11 := HBr.out.toK (HA6.out.trans (BW.mono hz6))
    have HKp := Lib.hid (keep_any (nK w.heap.size n2 n3 wr.heap.size w11) (2097152 + fs) st.2 A 100000 xs ⟨y.st.u 3, y.st.u 4, .slice A8 y.fh.length c8, y.st.u 5, y.st.i 0, y.st.u 6, y.st.u 7, y.st.i 1, y.st.i 2, y.st.i 3⟩ (.slice A9 y.fk.length c9) y.fh y.fk w11 hc11 hex (by omega) (by omega) (fun W hW => SlR.of_owns (Owns.rm O8b hW rfl)) (fun W hW => SlR.of_owns (Owns.rm O9b hW rfl)) (by rw [e1]; omega) (by rw [e1]; omega) (by show (y.st.u 4).size ≤ _; omega) (by show (y.st.u 7).size ≤ _; omega) (HB11.out.envK _))
    rw [show plH ⟨y.st.u 3, y.st.u 4, .slice A8 y.fh.length c8, y.st.u 5, y.st.i 0, y.st.u 6, y.st.u 7, y.st.i 1, y.st.i 2, y.st.i 3⟩ y.fh y.fk = hpOf y from rfl, HPL.out] at HKp
    unfold KeepAns Fr.hv at HKp
    clear hc11
    have hz7 := HA7.out.size
    go_wp2_with (first
     | refine wpList_load_row rfl 29 (.tmp 8) rfl w6.heap.size rfl 29 _ (0, 0) _ hB11 Tryz.underlying29 rfl (by kernel_rfl) ?_)
    refine HKp.out.mono ?_
    rintro e w12 ⟨rfl, ⟨xs7, hx7, hS7⟩, hr7⟩
    have HB12 := Lib.hid (HB11.out.back hS7 hr7.bel)
    have hB12 := Blk.rm hB11 hr7 (by decide)
    have hf8 := FB.of (Owns.rm O8b hr7 rfl)
    have hf9 := FB.of (Owns.rm O9b hr7 rfl)
    have HL8 := Lib.hid O8b.lt
    have HL9 := Lib.hid O9b.lt
    have HOW := Lib.hid (show ∀ x ∈ xs7, ∀ g, x.h.rf.ownBlock = some g ∨ x.u.ownBlock = some g → w11.heap.size ≤ g ∨ g < wr.heap.size from fun x hx g e => (hS7.ows x hx g e).elim .inl (fun e => .inr e.1))
    have HX7 := Lib.hid hx7
    have hmn : (keepM 100000 st.1 st.2 (hpOf y)).made ≤ 1048576 := HMN.out
    clear hS7 hx7 hr7 hB11 O8b O9b BW HKp HB11
    generalize keepM 100000 st.1 st.2 (hpOf y) = R at *
    go_wp2_with (first
     | refine wpList_load_row rfl 29 (.tmp 8) rfl w6.heap.size rfl 29 _ (0, 0) _ hB12 Tryz.underlying29 rfl (by kernel_rfl) ?_)
    refine (spoil_any _ _ _ _ _ _ _ _ _ _ _ _ _ w12 hf8 hf9).mono ?_
    rintro e w13 ⟨rfl, hsp, -⟩
    have HB13 := Lib.hid (HB12.out.spoil hf8 hf9 hsp (fun g e => by
     have h1 := HBr.out.hz
     rcases e with e | e
     ·have := (HL8.out g e).1; omega
     ·have := (HL9.out g e).1; omega) (fun x' hx' g e => by
     have hg : w7.heap.size ≤ g ∧ g < w11.heap.size := e.elim (fun e => HL8.out g e) (fun e => HL9.out g e)
     refine ⟨fun e' => ?_, fun e' => ?_⟩
     ·rcases HOW.out x' hx' g (.inl e') with h | h <;> omega
     ·rcases HOW.out x' hx' g (.inr e') with h | h <;> omega))
    clear hsp hf8 hf9 hB12 HOW HL8 HL9 HB12
    go_wp2_with fail
    have HLOW := Lib.hid (HB13.out.c.low)
    have hzW := HB13.out.hz
    refine (all_any (nC w.heap.size n2 n3) (2097152 + fs) (R.made) A 100000 xs7 w13 HB13.out.c (by omega) (by omega)).mono ?_
    rintro e wa ⟨⟨vv, zs, rfl, ho, hzs, hoks⟩, ba⟩
    have HBa := Lib.hid (HB13.out.below ba)
    have HOWN : Hid (∀ z ∈ zs, ∀ g, z.2.1.ownBlock = some g ∨ z.2.2.ownBlock = some g → w13.heap.size ≤ g) := fun z hz g e => e.elim (fun e => ((hoks z hz).1.lt g e).1) (fun e => ((hoks z hz).2.lt g e).1)
    have HFB : Hid (∀ z ∈ zs, FB wa z.2.1 z.1.l.length ∧ FB wa z.2.2 z.1.k.length) := fun z hz => ⟨FB.of (hoks z hz).1, FB.of (hoks z hz).2⟩
    have HO := Lib.hid ho
    have hzl : zs.length ≤ 20 := by
     have h1 := HB13.out.c.t.len
     have h2 := congrArg List.length hzs
     rw [List.length_map] at h2
     omega
    obtain ⟨Ao, co, rfl, -⟩ := (SlR.of_owns ho).form
    clear ho hoks ba hzs HB13
    go_wp2_with fail
    go_loopw [93] (fun i wq => ∃ j : Nat, j ≤ zs.length ∧ i = .int .i64 j ∧ Both w n2 n3 A A' (2097152 + fs) M' xs7 xs' (R.made) made' wq ∧ Owns wq w13.heap.size 29 11 e_ho (.slice Ao zs.length co) zs ∧ ∀ z ∈ zs, FB wq z.2.1 z.1.l.length ∧ FB wq z.2.2 z.1.k.length) (fun i _ => zs.length - (intOf i).toNat)
    case atStart => exact ⟨0, by omega, rfl, HBa.out, HO.out, HFB.out⟩
    case round =>
     clear HBa HO HFB
     obtain ⟨j, hj, rfl, hbq, hoq, hfq⟩ := hrel
     by_cases hjl : j < zs.length
     ·obtain ⟨bo, of', co', heq, hbo, hco⟩ := ho_at (w := wr) (W := wr) hoq (by omega)
      injection heq with q1 q2 q3
      subst q1 q3
      have hC := hco j hjl wr (Below.refl _ _)
      have hzj := List.getElem_mem hjl
      have hf := hfq _ hzj
      have HOj := Lib.hid (HOWN.out _ hzj)
      clear hco q2
      generalize hzz : zs[j] = z at *
      obtain ⟨x, u, v⟩ := z
      dsimp only at hf HOj
      obtain ⟨Au, cu, rfl⟩ := hf.1.form
      obtain ⟨Aw, cw, rfl⟩ := hf.2.form
      unfold e_ho hdC at hC
      dsimp only at hC
      have hA := (Below.refl wr.heap.size wr).alloc (Nat.le_refl _) (.cells #[.string x.h.rm, .string x.h.rt, .slice Au x.l.length cu, .string x.h.rb, .int .i64 x.h.code, .string x.h.rs, .slice Aw x.k.length cw, .string x.h.bd, .int .i64 x.h.asked, .int .i64 x.h.came, .int .i64 x.h.mark] 29)
      have hst := ho_store wr x Au Aw x.l.length cu x.k.length cw
      have hN := Blk.new wr 29 #[.string x.h.rm, .string x.h.rt, .slice Au x.l.length cu, .string x.h.rb, .int .i64 x.h.code, .string x.h.rs, .slice Aw x.k.length cw, .string x.h.bd, .int .i64 x.h.asked, .int .i64 x.h.came, .int .i64 x.h.mark]
      unfold hZ hdC at hst
      have HBn := Lib.hid (hbq.below hA)
      have HOn := Lib.hid (hoq.below hA)
      have HFn : Hid (∀ z ∈ zs, FB (wr.alloc (.cells #[.string x.h.rm, .string x.h.rt, .slice Au x.l.length cu, .string x.h.rb, .int .i64 x.h.code, .string x.h.rs, .slice Aw x.k.length cw, .string x.h.bd, .int .i64 x.h.asked, .int .i64 x.h.came, .int .i64 x.h.mark] 29)) z.2.1 z.1.l.length ∧ FB (wr.alloc (.cells #[.string x.h.rm, .string x.h.rt, .slice Au x.l.length cu, .string x.h.rb, .int .i64 x.h.code, .string x.h.rs, .slice Aw x.k.length cw, .string x.h.bd, .int .i64 x.h.asked, .int .i64 x.h.came, .int .i64 x.h.mark] 29)) z.2.2 z.1.k.length) := fun z hz => ⟨(hfq z hz).1.below hA, (hfq z hz).2.below hA⟩
      have hf1 := hf.1.below hA
      have hf2 := hf.2.below hA
      clear hbq hoq hfq hf hA
      go_wp2_with (first
       | refine wpList_load_mid rfl 29 (.tmp 95) rfl bo (of' + j * 11) rfl _ _ hC Tryz.underlying29 rfl (by kernel_rfl) ?_
       | refine wpList_load_row rfl 29 (.tmp 14) rfl wr.heap.size rfl 29 _ (0, 0) _ hN Tryz.underlying29 rfl (by kernel_rfl) ?_)
      clear hst hC hN
      generalize wr.alloc _ = wb at *
      refine (spoil_any x.h.rm x.h.rt x.h.rb x.h.rs x.h.bd x.h.code x.h.asked x.h.came x.h.mark _ _ _ _ wb hf1 hf2).mono ?_
      rintro e wc ⟨rfl, hsp, hkf⟩
      have HBc := Lib.hid (HBn.out.spoil hf1 hf2 hsp (fun g e => Nat.le_trans hzW (HOj.out g e)) (fun x' hx' g e => ⟨fun e' => absurd (HLOW.out x' hx' g (.inl e')) (Nat.not_lt.2 (HOj.out g e)), fun e' => absurd (HLOW.out x' hx' g (.inr e')) (Nat.not_lt.2 (HOj.out g e))⟩))
      have HOc := Lib.hid (Owns.spl HOn.out hf1 hf2 hsp)
      have HFc : Hid (∀ z ∈ zs, FB wc z.2.1 z.1.l.length ∧ FB wc z.2.2 z.1.k.length) := fun z hz => ⟨hkf _ _ (HFn.out z hz).1, hkf _ _ (HFn.out z hz).2⟩
      clear hsp hkf hf1 hf2 HBn HOn HFn HOj hzz hzj
      go_wp2_with fail
      go_roundw
      case rel => exact ⟨j + 1, by omega, by go_num, HBc.out, HOc.out, HFc.out⟩
      case measure => simp [intOf]; omega
     ·have HBq := Lib.hid hbq
      clear hbq hoq hfq HOWN HLOW
      go_wp2_with fail
      go_roundw
      case rel =>
       refine ⟨k + 1, xs7, by omega, by go_num, ?_, ?_⟩
       ·rw [HRN.out, HSK.out, HFN.out]; exact HBq.out.mono (by omega)
       ·rw [HRN.out, HSK.out]
        exact HX7.out
      case measure => simp [intOf]; omega
   ·have HSK : Hid (stepM 100000 st y = (findX st.1 (y.st.u 0) (y.st.u 1) y.fq, st.2)) := by show _ = _; rw [HSM.out]; rw [if_pos rfl]
    clear HSM
    have HTP := Lib.hid (touchC_pl xs (y.st.u 0) (y.st.u 1) y.fq)
    rw [HPL.out] at HTP
    have HFi := Lib.hid (find_any D HD.out (nK w.heap.size n2 n3 wr.heap.size w6) (2097152 + fs) st.2 A 100000 xs (y.st.u 0) (y.st.u 1) (sv (y.st.g 1)) (y.st.u 2) y.fq y.st.a w6 (HBr.out.toK HA6.out) (by omega) (by omega) (fun W hW => HST.out _ _ hyk.q W (HLM.out W (hW.bel.lower (m := lim w.heap.size) (fun k ok => lim_ok.2 (HB6.out.le_ok ok))).to)) (by rw [e2]; omega) (by omega) (HB6.out.envK _))
    have HLW := Lib.hid (HB6.out.c.low)
    have HBM := Lib.hid (fun x (hx : bestC xs (y.st.u 0) (y.st.u 1) y.fq = some x) => bestC_mem hx)
    unfold rqV sv at HFi
    generalize hbo : bestC xs (y.st.u 0) (y.st.u 1) y.fq = o at *
    clear hbo
    go_wp2_with (first
     | refine wpList_load_mid rfl 25 (.tmp 60) rfl wr.heap.size 6 rfl _ _ hLq Tryz.underlying25 rfl (by kernel_rfl) ?_)
    refine HFi.out.mono ?_
    rintro e w7 ⟨hans, hS7, hr7⟩
    obtain ⟨rm, rt, rb, rs, bd, code, asked, came, mark, qq, bq, u, v', n, kk, rfl, hf1, hf2, hown⟩ := find_ret hans
    have HB7 := Lib.hid (HB6.out.back hS7 hr7.bel)
    have HOWN := Lib.hid hown
    obtain ⟨Au, cu, rfl⟩ := hf1.form
    obtain ⟨Aw, cw, rfl⟩ := hf2.form
    clear hans hS7 hr7 hLq hown HFi
    have hst : (storeCells ⟨w7.heap.size, 0, none⟩ #[.string rm, .string rt, .slice Au n cu, .string rb, .int .i64 code, .string rs, .slice Aw kk cw, .string bd, .int .i64 asked, .int .i64 came, .int .i64 mark].toList).run Tryz.prog (w7.alloc (.cells hZ 29)) = .ok () (w7.alloc (.cells #[.string rm, .string rt, .slice Au n cu, .string rb, .int .i64 code, .string rs, .slice Aw kk cw, .string bd, .int .i64 asked, .int .i64 came, .int .i64 mark] 29)) :=
     run_storeCells_new (P := Tryz.prog) w7 29 hZ _ (by kernel_rfl) (by simp [hZ]) (by simp [Value.oneCell'])
    unfold hZ at hst
    have hB8 := Blk.new w7 29 #[.string rm, .string rt, .slice Au n cu, .string rb, .int .i64 code, .string rs, .slice Aw kk cw, .string bd, .int .i64 asked, .int .i64 came, .int .i64 mark]
    have hA8 := (Below.refl w7.heap.size w7).alloc (Nat.le_refl _) (.cells #[.string rm, .string rt, .slice Au n cu, .string rb, .int .i64 code, .string rs, .slice Aw kk cw, .string bd, .int .i64 asked, .int .i64 came, .int .i64 mark] 29)
    have HB8 := Lib.hid (HB7.out.below hA8)
    have hf1' := hf1.below hA8
    have hf2' := hf2.below hA8
    clear hf1 hf2 hA8
    go_wp2_with (first
     | refine wpList_load_row rfl 29 (.tmp 9) rfl w7.heap.size rfl 29 _ (0, 0) _ hB8 Tryz.underlying29 rfl (by kernel_rfl) ?_)
    clear hst hB8
    generalize w7.alloc _ = w8 at *
    refine (spoil_any _ _ _ _ _ _ _ _ _ _ _ _ _ w8 hf1' hf2').mono ?_
    rintro e w13 ⟨rfl, hsp, -⟩
    have HB13 := Lib.hid (HB8.out.spoil hf1' hf2' hsp (fun g e => by
     have h1 := HBr.out.hz
     have := HOWN.out g e
     omega) (fun x' hx' g e => by
     have hg := HOWN.out g e
     have hx'' := touchC_mem (fun x hx => HBM.out x hx) x' hx'
     refine ⟨fun e' => ?_, fun e' => ?_⟩
     ·have := HLW.out x' hx'' g (.inl e'); omega
     ·have := HLW.out x' hx'' g (.inr e'); omega))
    clear hsp hf1' hf2' HOWN HLW HB7 HB8 HBM
    go_wp2_with fail
    have HLOW := Lib.hid (HB13.out.c.low)
    have hzW := HB13.out.hz
    refine (all_any (nC w.heap.size n2 n3) (2097152 + fs) (st.2) A 100000 (touchC xs o) w13 HB13.out.c (by omega) (by omega)).mono ?_
    rintro e wa ⟨⟨vv, zs, rfl, ho, hzs, hoks⟩, ba⟩
    have HBa := Lib.hid (HB13.out.below ba)
    have HOWN : Hid (∀ z ∈ zs, ∀ g, z.2.1.ownBlock = some g ∨ z.2.2.ownBlock = some g → w13.heap.size ≤ g) := fun z hz g e => e.elim (fun e => ((hoks z hz).1.lt g e).1) (fun e => ((hoks z hz).2.lt g e).1)
    have HFB : Hid (∀ z ∈ zs, FB wa z.2.1 z.1.l.length ∧ FB wa z.2.2 z.1.k.length) := fun z hz => ⟨FB.of (hoks z hz).1, FB.of (hoks z hz).2⟩
    have HO := Lib.hid ho
    have hzl : zs.length ≤ 20 := by
     have h1 := HB13.out.c.t.len
     have h2 := congrArg List.length hzs
     rw [List.length_map] at h2
     omega
    obtain ⟨Ao, co, rfl, -⟩ := (SlR.of_owns ho).form
    clear ho hoks ba hzs HB13
    go_wp2_with fail
    go_loopw [93] (fun i wq => ∃ j : Nat, j ≤ zs.length ∧ i = .int .i64 j ∧ Both w n2 n3 A A' (2097152 + fs) M' (touchC xs o) xs' (st.2) made' wq ∧ Owns wq w13.heap.size 29 11 e_ho (.slice Ao zs.length co) zs ∧ ∀ z ∈ zs, FB wq z.2.1 z.1.l.length ∧ FB wq z.2.2 z.1.k.length) (fun i _ => zs.length - (intOf i).toNat)
    case atStart => exact ⟨0, by omega, rfl, HBa.out, HO.out, HFB.out⟩
    case round =>
     clear HBa HO HFB
     obtain ⟨j, hj, rfl, hbq, hoq, hfq⟩ := hrel
     by_cases hjl : j < zs.length
     ·obtain ⟨bo, of', co', heq, hbo, hco⟩ := ho_at (w := wr) (W := wr) hoq (by omega)
      injection heq with q1 q2 q3
      subst q1 q3
      have hC := hco j hjl wr (Below.refl _ _)
      have hzj := List.getElem_mem hjl
      have hf := hfq _ hzj
      have HOj := Lib.hid (HOWN.out _ hzj)
      clear hco q2
      generalize hzz : zs[j] = z at *
      obtain ⟨x, u, v⟩ := z
      dsimp only at hf HOj
      obtain ⟨Au, cu, rfl⟩ := hf.1.form
      obtain ⟨Aw, cw, rfl⟩ := hf.2.form
      unfold e_ho hdC at hC
      dsimp only at hC
      have hA := (Below.refl wr.heap.size wr).alloc (Nat.le_refl _) (.cells #[.string x.h.rm, .string x.h.rt, .slice Au x.l.length cu, .string x.h.rb, .int .i64 x.h.code, .string x.h.rs, .slice Aw x.k.length cw, .string x.h.bd, .int .i64 x.h.asked, .int .i64 x.h.came, .int .i64 x.h.mark] 29)
      have hst := ho_store wr x Au Aw x.l.length cu x.k.length cw
      have hN := Blk.new wr 29 #[.string x.h.rm, .string x.h.rt, .slice Au x.l.length cu, .string x.h.rb, .int .i64 x.h.code, .string x.h.rs, .slice Aw x.k.length cw, .string x.h.bd, .int .i64 x.h.asked, .int .i64 x.h.came, .int .i64 x.h.mark]
      unfold hZ hdC at hst
      have HBn := Lib.hid (hbq.below hA)
      have HOn := Lib.hid (hoq.below hA)
      have HFn : Hid (∀ z ∈ zs, FB (wr.alloc (.cells #[.string x.h.rm, .string x.h.rt, .slice Au x.l.length cu, .string x.h.rb, .int .i64 x.h.code, .string x.h.rs, .slice Aw x.k.length cw, .string x.h.bd, .int .i64 x.h.asked, .int .i64 x.h.came, .int .i64 x.h.mark] 29)) z.2.1 z.1.l.length ∧ FB (wr.alloc (.cells #[.string x.h.rm, .string x.h.rt, .slice Au x.l.length cu, .string x.h.rb, .int .i64 x.h.code, .string x.h.rs, .slice Aw x.k.length cw, .string x.h.bd, .int .i64 x.h.asked, .int .i64 x.h.came, .int .i64 x.h.mark] 29)) z.2.2 z.1.k.length) := fun z hz => ⟨(hfq z hz).1.below hA, (hfq z hz).2.below hA⟩
      have hf1 := hf.1.below hA
      have hf2 := hf.2.below hA
      clear hbq hoq hfq hf hA
      go_wp2_with (first
       | refine wpList_load_mid rfl 29 (.tmp 95) rfl bo (of' + j * 11) rfl _ _ hC Tryz.underlying29 rfl (by kernel_rfl) ?_
       | refine wpList_load_row rfl 29 (.tmp 14) rfl wr.heap.size rfl 29 _ (0, 0) _ hN Tryz.underlying29 rfl (by kernel_rfl) ?_)
      clear hst hC hN
      generalize wr.alloc _ = wb at *
      refine (spoil_any x.h.rm x.h.rt x.h.rb x.h.rs x.h.bd x.h.code x.h.asked x.h.came x.h.mark _ _ _ _ wb hf1 hf2).mono ?_
      rintro e wc ⟨rfl, hsp, hkf⟩
      have HBc := Lib.hid (HBn.out.spoil hf1 hf2 hsp (fun g e => Nat.le_trans hzW (HOj.out g e)) (fun x' hx' g e => ⟨fun e' => absurd (HLOW.out x' hx' g (.inl e')) (Nat.not_lt.2 (HOj.out g e)), fun e' => absurd (HLOW.out x' hx' g (.inr e')) (Nat.not_lt.2 (HOj.out g e))⟩))
      have HOc := Lib.hid (Owns.spl HOn.out hf1 hf2 hsp)
      have HFc : Hid (∀ z ∈ zs, FB wc z.2.1 z.1.l.length ∧ FB wc z.2.2 z.1.k.length) := fun z hz => ⟨hkf _ _ (HFn.out z hz).1, hkf _ _ (HFn.out z hz).2⟩
      clear hsp hkf hf1 hf2 HBn HOn HFn HOj hzz hzj
      go_wp2_with fail
      go_roundw
      case rel => exact ⟨j + 1, by omega, by go_num, HBc.out, HOc.out, HFc.out⟩
      case measure => simp [intOf]; omega
     ·have HBq := Lib.hid hbq
      clear hbq hoq hfq HOWN HLOW
      go_wp2_with fail
      go_roundw
      case rel =>
       refine ⟨k + 1, (touchC xs o), by omega, by go_num, ?_, ?_⟩
       ·rw [HRN.out, HSK.out, HFN.out]; exact HBq.out.mono (by omega)
       ·rw [HRN.out, HSK.out]
        exact HTP.out
      case measure => simp [intOf]; omega
   ·have HSK : Hid (stepM 100000 st y = (renewX st.1 (y.st.u 0) (y.st.u 1) y.fq y.ff y.st.a y.st.b, st.2)) := by show _ = _; rw [HSM.out]; rw [if_neg (by decide), if_pos rfl]
    clear HSM
    have HUF := Lib.hid (HST.out _ _ hyk.f _ (HLM.out _ (Below.refl _ _)))
    unfold sv at HUF
    go_wp2_with fail
    refine (copyFld_any _ y.ff w6 HUF.out (by have := hlen y.ff; have := hw1.2.2.2.1; omega)).mono ?_
    rintro e w7 ⟨⟨v7, rfl, o7⟩, b7⟩
    obtain ⟨A7, c7, rfl, -⟩ := (SlR.of_owns o7).form
    have hB7 := hB6.below b7 hB6.lt
    have HB7 := Lib.hid (HB6.out.below b7)
    have HA7 := Lib.hid (HA6.out.trans (b7.mono hz6))
    have a1' : w7.cell? ⟨wr.heap.size, 1, none⟩ = some (.int .i64 y.st.a) := hB7.cell 1
    have a2' : w7.cell? ⟨wr.heap.size, 2, none⟩ = some (.int .i64 y.st.b) := hB7.cell 2
    have hLq' : w7.rangeAt wr.heap.size 6 [.string (y.st.u 0), .string (y.st.u 1), .slice (y.st.g 1).1 (y.st.g 1).2.1 (y.st.g 1).2.2, .string (y.st.u 2)] := World.rangeAt_of_block hB7 6 4
    have HRe := Lib.hid (renew_any (nK w.heap.size n2 n3 wr.heap.size w7) (2097152 + fs) st.2 A 100000 xs (y.st.u 0) (y.st.u 1) (sv (y.st.g 1)) (y.st.u 2) y.fq (.slice A7 y.ff.length c7) y.ff y.st.a y.st.b w7 (HBr.out.toK HA7.out) (by omega) (by omega) (fun W hW => HST.out _ _ hyk.q W (HLM.out W ((b7.mono (Nat.le_trans hzr hz6)).trans (hW.bel.lower (m := lim w.heap.size) (fun k ok => lim_ok.2 (HB7.out.le_ok ok))).to))) (by rw [e2]; omega) (by omega) (fun W hW => SlR.of_owns (Owns.rm o7 hW rfl)) (by rw [e1]; omega) (HB7.out.envK _))
    rw [HPL.out] at HRe
    unfold rqV sv at HRe
    clear hLq a1 a2 hB6 hB7
    have hz7 := b7.size
    go_wp2_with (first
     | refine wpList_load_mid rfl 25 (.tmp 77) rfl wr.heap.size 6 rfl _ _ hLq' Tryz.underlying25 rfl (by kernel_rfl) ?_)
    refine HRe.out.mono ?_
    rintro e w8 ⟨rfl, ⟨xs7, hx7, hS7⟩, hr7⟩
    have HB8 := Lib.hid (HB7.out.back hS7 hr7.bel)
    have hf8 := FB.of (Owns.rm o7 hr7 rfl)
    have HL8 := Lib.hid o7.lt
    have HOW := Lib.hid (show ∀ x ∈ xs7, ∀ g, x.h.rf.ownBlock = some g ∨ x.u.ownBlock = some g → w7.heap.size ≤ g ∨ g < wr.heap.size from fun x hx g e => (hS7.ows x hx g e).elim .inl (fun e => .inr e.1))
    have HX7 := Lib.hid hx7
    have hwf : Fr.wt y.ff ≤ 1048576 := by rw [e1]; omega
    clear hS7 hx7 hr7 o7 HRe hLq' a1' a2' b7
    go_wp2_with fail
    refine (spoil_any _ _ _ _ _ _ _ _ _ _ _ _ 0 w8 hf8 (.inl ⟨rfl, rfl⟩)).mono ?_
    rintro e w13 ⟨rfl, hsp, -⟩
    have HB13 := Lib.hid (HB8.out.spoil hf8 (.inl ⟨rfl, rfl⟩) (k := 0) hsp (fun g e => by
     have h1 := HBr.out.hz
     rcases e with e | e
     ·have := (HL8.out g e).1; omega
     ·cases e) (fun x' hx' g e => by
     have hg : w6.heap.size ≤ g ∧ g < w7.heap.size := e.elim (fun e => HL8.out g e) (fun e => by cases e)
     refine ⟨fun e' => ?_, fun e' => ?_⟩
     ·rcases HOW.out x' hx' g (.inl e') with h | h <;> omega
     ·rcases HOW.out x' hx' g (.inr e') with h | h <;> omega))
    clear hsp hf8 HOW HL8 HB7 HB8
    go_wp2_with fail
    have HLOW := Lib.hid (HB13.out.c.low)
    have hzW := HB13.out.hz
    refine (all_any (nC w.heap.size n2 n3) (2097152 + fs + Fr.wt y.ff) (st.2) A 100000 xs7 w13 HB13.out.c (by omega) (by omega)).mono ?_
    rintro e wa ⟨⟨vv, zs, rfl, ho, hzs, hoks⟩, ba⟩
    have HBa := Lib.hid (HB13.out.below ba)
    have HOWN : Hid (∀ z ∈ zs, ∀ g, z.2.1.ownBlock = some g ∨ z.2.2.ownBlock = some g → w13.heap.size ≤ g) := fun z hz g e => e.elim (fun e => ((hoks z hz).1.lt g e).1) (fun e => ((hoks z hz).2.lt g e).1)
    have HFB : Hid (∀ z ∈ zs, FB wa z.2.1 z.1.l.length ∧ FB wa z.2.2 z.1.k.length) := fun z hz => ⟨FB.of (hoks z hz).1, FB.of (hoks z hz).2⟩
    have HO := Lib.hid ho
    have hzl : zs.length ≤ 20 := by
     have h1 := HB13.out.c.t.len
     have h2 := congrArg List.length hzs
     rw [List.length_map] at h2
     omega
    obtain ⟨Ao, co, rfl, -⟩ := (SlR.of_owns ho).form
    clear ho hoks ba hzs HB13
    go_wp2_with fail
    go_loopw [93] (fun i wq => ∃ j : Nat, j ≤ zs.length ∧ i = .int .i64 j ∧ Both w n2 n3 A A' (2097152 + fs + Fr.wt y.ff) M' xs7 xs' (st.2) made' wq ∧ Owns wq w13.heap.size 29 11 e_ho (.slice Ao zs.length co) zs ∧ ∀ z ∈ zs, FB wq z.2.1 z.1.l.length ∧ FB wq z.2.2 z.1.k.length) (fun i _ => zs.length - (intOf i).toNat)
    case atStart => exact ⟨0, by omega, rfl, HBa.out, HO.out, HFB.out⟩
    case round =>
     clear HBa HO HFB
     obtain ⟨j, hj, rfl, hbq, hoq, hfq⟩ := hrel
     by_cases hjl : j < zs.length
     ·obtain ⟨bo, of', co', heq, hbo, hco⟩ := ho_at (w := wr) (W := wr) hoq (by omega)
      injection heq with q1 q2 q3
      subst q1 q3
      have hC := hco j hjl wr (Below.refl _ _)
      have hzj := List.getElem_mem hjl
      have hf := hfq _ hzj
      have HOj := Lib.hid (HOWN.out _ hzj)
      clear hco q2
      generalize hzz : zs[j] = z at *
      obtain ⟨x, u, v⟩ := z
      dsimp only at hf HOj
      obtain ⟨Au, cu, rfl⟩ := hf.1.form
      obtain ⟨Aw, cw, rfl⟩ := hf.2.form
      unfold e_ho hdC at hC
      dsimp only at hC
      have hA := (Below.refl wr.heap.size wr).alloc (Nat.le_refl _) (.cells #[.string x.h.rm, .string x.h.rt, .slice Au x.l.length cu, .string x.h.rb, .int .i64 x.h.code, .string x.h.rs, .slice Aw x.k.length cw, .string x.h.bd, .int .i64 x.h.asked, .int .i64 x.h.came, .int .i64 x.h.mark] 29)
      have hst := ho_store wr x Au Aw x.l.length cu x.k.length cw
      have hN := Blk.new wr 29 #[.string x.h.rm, .string x.h.rt, .slice Au x.l.length cu, .string x.h.rb, .int .i64 x.h.code, .string x.h.rs, .slice Aw x.k.length cw, .string x.h.bd, .int .i64 x.h.asked, .int .i64 x.h.came, .int .i64 x.h.mark]
      unfold hZ hdC at hst
      have HBn := Lib.hid (hbq.below hA)
      have HOn := Lib.hid (hoq.below hA)
      have HFn : Hid (∀ z ∈ zs, FB (wr.alloc (.cells #[.string x.h.rm, .string x.h.rt, .slice Au x.l.length cu, .string x.h.rb, .int .i64 x.h.code, .string x.h.rs, .slice Aw x.k.length cw, .string x.h.bd, .int .i64 x.h.asked, .int .i64 x.h.came, .int .i64 x.h.mark] 29)) z.2.1 z.1.l.length ∧ FB (wr.alloc (.cells #[.string x.h.rm, .string x.h.rt, .slice Au x.l.length cu, .string x.h.rb, .int .i64 x.h.code, .string x.h.rs, .slice Aw x.k.length cw, .string x.h.bd, .int .i64 x.h.asked, .int .i64 x.h.came, .int .i64 x.h.mark] 29)) z.2.2 z.1.k.length) := fun z hz => ⟨(hfq z hz).1.below hA, (hfq z hz).2.below hA⟩
      have hf1 := hf.1.below hA
      have hf2 := hf.2.below hA
      clear hbq hoq hfq hf hA
      go_wp2_with (first
       | refine wpList_load_mid rfl 29 (.tmp 95) rfl bo (of' + j * 11) rfl _ _ hC Tryz.underlying29 rfl (by kernel_rfl) ?_
       | refine wpList_load_row rfl 29 (.tmp 14) rfl wr.heap.size rfl 29 _ (0, 0) _ hN Tryz.underlying29 rfl (by kernel_rfl) ?_)
      clear hst hC hN
      generalize wr.alloc _ = wb at *
      refine (spoil_any x.h.rm x.h.rt x.h.rb x.h.rs x.h.bd x.h.code x.h.asked x.h.came x.h.mark _ _ _ _ wb hf1 hf2).mono ?_
      rintro e wc ⟨rfl, hsp, hkf⟩
      have HBc := Lib.hid (HBn.out.spoil hf1 hf2 hsp (fun g e => Nat.le_trans hzW (HOj.out g e)) (fun x' hx' g e => ⟨fun e' => absurd (HLOW.out x' hx' g (.inl e')) (Nat.not_lt.2 (HOj.out g e)), fun e' => absurd (HLOW.out x' hx' g (.inr e')) (Nat.not_lt.2 (HOj.out g e))⟩))
      have HOc := Lib.hid (Owns.spl HOn.out hf1 hf2 hsp)
      have HFc : Hid (∀ z ∈ zs, FB wc z.2.1 z.1.l.length ∧ FB wc z.2.2 z.1.k.length) := fun z hz => ⟨hkf _ _ (HFn.out z hz).1, hkf _ _ (HFn.out z hz).2⟩
      clear hsp hkf hf1 hf2 HBn HOn HFn HOj hzz hzj
      go_wp2_with fail
      go_roundw
      case rel => exact ⟨j + 1, by omega, by go_num, HBc.out, HOc.out, HFc.out⟩
      case measure => simp [intOf]; omega
     ·have HBq := Lib.hid hbq
      clear hbq hoq hfq HOWN HLOW
      go_wp2_with fail
      go_roundw
      case rel =>
       refine ⟨k + 1, xs7, by omega, by go_num, ?_, ?_⟩
       ·rw [HRN.out, HSK.out, HFN.out, ← Nat.add_assoc]; exact HBq.out
       ·rw [HRN.out, HSK.out]
        exact HX7.out
      case measure => simp [intOf]; omega
  ·obtain rfl : ys.length = k := by omega
   have hT : ys.take ys.length = ys := List.take_of_length_le (Nat.le_refl _)
   rw [hT] at HBr HPL
   have hfl := Nat.le_trans (fsum_le ys) HSUM.out
   have hmd : (runM 100000 ys).2 ≤ 1048576 := by have := HMD.out; omega
   have HEQ := Lib.hid (HFIN.out xs HPL.out)
   clear hbo hpl HRow HOK HFIN
   go_wp2_with fail
   refine (all_any (nC w.heap.size n2 n3) _ _ A 100000 xs wr HBr.out.c (by omega) (by omega)).mono ?_
   rintro e wa ⟨⟨v1, z1, rfl, o1, hz1, k1⟩, ba⟩
   have HBa := Lib.hid (HBr.out.below ba)
   have HO1 := Lib.hid o1
   have HK1 := Lib.hid k1
   have hzl : z1.length ≤ 20 := by
    have h1 := HBr.out.c.t.len
    have h2 := congrArg List.length hz1
    rw [List.length_map] at h2
    omega
   clear o1 k1
   go_wp2_with fail
   refine (all_any (nD n2 n3 wa) M' made' A' 100000 xs' wa HBa.out.d (by omega) (by omega)).mono ?_
   rintro e wb ⟨⟨v2, z2, rfl, o2, hz2, k2⟩, b2⟩
   have HSm := Lib.hid (sameAll_pl v1 v2 z1 z2 _ _ _ _ wb (HO1.out.below b2) o2 (fun y hy => (HK1.out y hy).below b2) k2 (by
    have h1 := HEQ.out
    rw [← hz1, ← hz2, List.map_map, List.map_map] at h1
    exact h1) (by omega) (fun y hy => by
    have hx := HBr.out.c.t.ent y.1 (by rw [← hz1]; exact List.mem_map.2 ⟨y, hy, rfl⟩)
    have q1 := hx.wl
    have q2 := hx.wk
    have q3 := Fr.wt_len y.1.l
    have q4 := Fr.wt_len y.1.k
    omega))
   have HBb := Lib.hid (HBa.out.b.trans (b2.mono HBa.out.b.size))
   unfold shF at HSm
   clear o2 k2 b2 hz1 hz2 ba
   go_wp2_with fail
   refine HSm.out.mono ?_
   rintro e wc ⟨rfl, bc⟩
   have hbf := HBb.out.trans (bc.mono HBb.out.size)
   go_wp2_with fail
   go_ret
   exact ⟨rfl, hbf⟩
  end Ca
  end Go.Proofs.YtgnblkmpoigejaaGreatDoor
