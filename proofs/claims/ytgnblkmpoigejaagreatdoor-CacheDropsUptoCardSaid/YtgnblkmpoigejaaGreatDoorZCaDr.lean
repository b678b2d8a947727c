import Derived.Test.YtgnblkmpoigejaaGreatDoorZCaDs
set_option linter.unusedVariables false
set_option linter.unusedSimpArgs false
namespace Go.Proofs.YtgnblkmpoigejaaGreatDoor
set_option maxRecDepth 20000
open Go.RowKit Go.Shelf
namespace Ca
open Bk
def stayB (t : ByteArray) (y : Ho) : Bool := decide (normE t ≠ 0) || !decide (normK y.1.h.rt = normK t)
theorem stay_map (t : ByteArray) (zs : List Ho) (xs : List Ce) (h : zs.map (·.1) = xs) (hk : ∀ e ∈ xs.map Ce.pl, normE e.x.rt = 0 ∧ e.key = normK e.x.rt) : (zs.filter (stayB t)).map (·.1) = dropC xs t := by
  subst h
  unfold dropC
  split
  · rename_i h
    rw [List.filter_eq_self.2 (fun y _ => by unfold stayB; rw [decide_eq_true h]; rfl)]
  · rename_i h
    rw [List.filter_map]
    congr 1
    refine List.filter_congr fun y hy => ?_
    have h2 := (hk y.1.pl (List.mem_map.2 ⟨y.1, List.mem_map.2 ⟨y, hy, rfl⟩, rfl⟩)).2
    have h3 : y.1.key = normK y.1.h.rt := h2
    unfold stayB
    rw [decide_eq_false h, Bool.false_or, ← h3]
    rfl
theorem dropC_again (xs : List Ce) (t : ByteArray) : (dropC (dropC xs t) t).length = (dropC xs t).length := by
  have h := congrArg List.length (drop_again (xs.map Ce.pl) t)
  rw [← dropC_pl, ← dropC_pl, List.length_map, List.length_map] at h
  exact h
theorem dropC_find {room : Int} {made : Nat} (xs : List Ce) (m t : ByteArray) (l : List Fld) (hi : InvE room (xs.map Ce.pl) made) : bestC (dropC xs t) m t l = none := by
  have h := bestC_pl (dropC xs t) m t l
  rw [dropC_pl, drop_find hi] at h
  cases hb : bestC (dropC xs t) m t l with
  | none => rfl
  | some x => rw [hb] at h; cases h
def RtB (B : Nat) (xs : List En) : Prop := ∀ e ∈ xs, e.x.rt.size ≤ B
theorem RtB.find {B : Nat} {xs : List En} (h : RtB B xs) (m t : ByteArray) (l : List Fld) : RtB B (findX xs m t l) := by
  unfold findX
  cases hb : bestE xs m t l with
  | none => exact h
  | some e =>
    intro y hy
    dsimp only at hy
    unfold touchE at hy
    rcases List.mem_append.1 hy with hy | hy
    · exact h y (List.mem_filter.1 hy).1
    · rw [List.mem_singleton.1 hy]; exact h e (best_fit hb).1
theorem RtB.renew {B : Nat} {xs : List En} (h : RtB B xs) (m t : ByteArray) (l f : List Fld) (asked came : Int) : RtB B (renewX xs m t l f asked came) := by
  unfold renewX
  cases hb : bestE xs m t l with
  | none => exact h
  | some e =>
    intro y hy
    dsimp only at hy
    unfold touchE at hy
    rcases List.mem_append.1 hy with hy | hy
    · exact h y (List.mem_filter.1 hy).1
    · rw [List.mem_singleton.1 hy]; exact h e (best_fit hb).1
theorem RtB.keep {B : Nat} {xs : List En} (h : RtB B xs) (room : Int) (made : Nat) (x : Hp) (hx : x.rt.size ≤ B) : RtB B (keepM room xs made x).xs := by
  have hc : RtB B (clearE (normK x.rt) x.l xs) := fun y hy => h y (List.mem_filter.1 hy).1
  unfold keepM
  split
  · exact h
  split
  · exact h
  split
  · exact h
  split
  · exact hc
  split
  · exact hc
  · intro y hy
    dsimp only at hy
    rcases List.mem_append.1 hy with hy | hy
    · exact hc y (List.mem_of_mem_drop ((leftE_sub _ _ _).subset hy))
    · rw [List.mem_singleton.1 hy]; exact hx
theorem runM_rt (room : Int) (B : Nat) (ys : List Stq) (hy : ∀ y ∈ ys, (y.st.u 4).size ≤ B) : RtB B (runM room ys).1 := by
  refine snocRec (P := fun ys => (∀ y ∈ ys, (y.st.u 4).size ≤ B) → RtB B (runM room ys).1) (fun _ e he => by cases he) (fun ys y ih hy => ?_) ys hy
  have h1 := ih fun z hz => hy z (by simp [hz])
  rw [runM_snoc]
  unfold stepM
  split
  · exact h1.find _ _ _
  · split
    · exact h1.renew _ _ _ _ _ _
    · exact h1.keep _ _ _ (hy y (by simp))
theorem EnvK.up {n n0 : Nat} {w : World} (h : EnvK n w) (hn : n ≤ n0) (hw : n0 ≤ w.heap.size) : EnvK n0 w := by
  obtain ⟨W0, hs, h1, h2, hb⟩ := h
  have hsz : ({ w with heap := w.heap.extract 0 n0 } : World).heap.size = n0 := by simp; omega
  have hbl : ∀ k, k < n0 → ({ w with heap := w.heap.extract 0 n0 } : World).heap[k]? = w.heap[k]? := fun k hk => by
    show (w.heap.extract 0 n0)[k]? = w.heap[k]?
    rw [Array.getElem?_extract, if_pos (by omega), Nat.zero_add]
  have hb2 : Below n W0 ({ w with heap := w.heap.extract 0 n0 } : World) := ⟨hb.os, hb.tape, hb.output, by rw [hsz, hs]; exact hn, fun k hk => (hbl k (by omega)).trans (hb.block k hk)⟩
  have hE : EnvK n ({ w with heap := w.heap.extract 0 n0 } : World) := ⟨W0, hs, h1, h2, hb2⟩
  exact ⟨_, hsz, hE.max, hE.p10, ⟨rfl, rfl, rfl, by rw [hsz]; exact hw, fun k hk => (hbl k hk).symm⟩⟩
set_option maxHeartbeats 16000000 in
theorem cacheDrops_walk (v : Value) (ys : List Stq) (t : ByteArray) (m t0 : ByteArray) (u : Value) (b : ByteArray) (l : List Fld) (now : Int) (w : World) (h : SlR w e_sq v ys) (hok : ∀ y ∈ ys, y.Ok w) (hs : (ys.map Stq.wt).sum ≤ 1048576) (ht : t.size ≤ 1048576) (hu : SlR w e_ss u l) (hl : (l.map (fun d => d.1.size + d.2.size + 2)).sum ≤ 1048576) (_hm0 : m.size ≤ 1048576) (_ht0 : t0.size ≤ 1048576) (_hb0 : b.size ≤ 1048576) (hwn : (Lit.int .i64 now).wf = true) (hmx : HasMax w) (hp10 : HasP10 w) :
    Calls Tryz.prog 7 #[v, .string t, .agg #[.string m, .string t0, u, .string b], .int .i64 now] w fun e w' => e = .returned (.bool true) ∧ Below w.heap.size w w' := by
  have he : EnvK w.heap.size w := EnvK.of hmx hp10
  obtain ⟨D, hD⟩ := Fr.isDate_ex
  obtain ⟨Au, cu, rfl, -⟩ := hu.form
  have hb1 := (Below.refl w.heap.size w).alloc (Nat.le_refl _) (.cells #[.string m, .string t0, .slice Au l.length cu, .string b] 25)
  have hB := Blk.new w 25 #[.string m, .string t0, .slice Au l.length cu, .string b]
  have hwl : Vy.wt l ≤ 1048576 := hl
  have hEn : EnvK (w.alloc (.cells #[.string m, .string t0, .slice Au l.length cu, .string b] 25)).heap.size (w.alloc (.cells #[.string m, .string t0, .slice Au l.length cu, .string b] 25)) := EnvK.of (he.below hb1).max (he.below hb1).p10
  have HCa := Lib.hid (cached_any 100000 v ys _ (h.below hb1) (fun y hy => (hok y hy).below hb1) hs (by decide) (by decide) hEn)
  have HU := Lib.hid (hu.below hb1)
  have HB1 := Lib.hid hb1
  have HEn := Lib.hid hEn
  have HE0 := Lib.hid he
  have HU0 := Lib.hid hu
  have HRI := Lib.hid ((runM_inv (room := 100000) (by decide) ys).1)
  have hmd : (runM 100000 ys).2 ≤ 1048576 := by
    have h1 := (runM_inv (room := 100000) (by decide) ys).2
    have h2 := len_wt ys
    omega
  obtain ⟨Av, cv, rfl, -⟩ := h.form
  have hyl : ys.length ≤ 1048576 := Nat.le_trans (len_wt ys) hs
  have HRT := Lib.hid (runM_rt 100000 1048576 ys fun y hy => by have := wt_mem hy hs; unfold Stq.wt at this; omega)
  clear h hok hs hu hl he hb1 hEn hmx hp10 hwn
  go_enter Tryz.func7, Tryz.ntmps7
  go_wp2_with fail
  generalize (w.alloc _) = w1 at *
  refine HCa.out.mono ?_
  rintro e w2 ⟨A, M, xs, rfl, hex, hS, hpl, hM, b2⟩
  have hB2 := hB.below b2 hB.lt
  have HS2 := Lib.hid hS
  have HB2 := Lib.hid b2
  have hi := HRI.out
  rw [← hpl] at hi
  have HI := Lib.hid hi
  have HT1 : Hid (∀ x ∈ xs, x.h.rt.size ≤ 1048576) := fun x hx => HRT.out x.pl (by rw [← hpl]; exact List.mem_map.2 ⟨x, hx, rfl⟩)
  have hl20 : xs.length ≤ 20 := by have := hi.len; rwa [List.length_map] at this
  have hn2 : w1.heap.size ≤ w2.heap.size := b2.size
  generalize (runM 100000 ys).2 = made at *
  have HN := Lib.hid (norm_any t w2 (by omega) (HEn.out.bel b2))
  clear hS hpl b2 HCa hB HRI hi HRT
  go_wp2_with fail
  refine HN.out.mono ?_
  rintro e w3 ⟨rfl, b3⟩
  have hB3 := hB2.below b3 hB2.lt
  have HS3 := Lib.hid (HS2.out.below b3)
  have HB3 := Lib.hid (HB2.out.trans (b3.mono hn2))
  have HAl := Lib.hid (all_any w1.heap.size M made A 100000 xs w3 HS3.out (by omega) (by omega))
  clear HN HS2 hB2 b3
  go_wp2_with fail
  refine HAl.out.mono ?_
  rintro e w4 ⟨⟨vv, zs, rfl, ho, hzs, hoks⟩, b4⟩
  have hB4 := hB3.below b4 hB3.lt
  have HS4 := Lib.hid (HS3.out.below b4)
  have HB4 := Lib.hid (HB3.out.trans (b4.mono HB3.out.size))
  have HOK := Lib.hid hoks
  have HZ := Lib.hid hzs
  have hzl : zs.length = xs.length := by rw [← hzs, List.length_map]
  have hzl20 : zs.length ≤ 20 := by omega
  have hform : ∃ Az cz, vv = .slice Az zs.length cz := by
    obtain ⟨Az, cz, he, -⟩ := (SlR.of_owns ho).form
    exact ⟨Az, cz, he⟩
  obtain ⟨Az, cz, rfl⟩ := hform
  have HAT := Lib.hid (fun hn => ho_at (w := w4) (W := w4) ho hn)
  have HNt := Lib.hid (fun (s : ByteArray) (hs : s.size ≤ 281474976710656) (W : World) (hW : Below w4.heap.size w4 W) => norm_any s W hs (HEn.out.bel (HB4.out.trans (hW.mono HB4.out.size))))
  have HKy := Lib.hid (stay_map t zs xs hzs HI.out.key)
  clear ho hoks hzs HAl HS3 hB3 b4
  go_wp2_with fail
  go_loopw [12, 33] (fun o i wr => ∃ k : Nat, k ≤ zs.length ∧ i = .int .i64 k ∧ Owns wr w4.heap.size 29 11 e_ho o ((zs.take k).filter (stayB t)) ∧ Below w4.heap.size w4 wr) (fun _ i _ => zs.length - (intOf i).toNat)
  case atStart => exact ⟨0, by omega, rfl, Owns.nil .., Below.refl _ _⟩
  case round =>
    obtain ⟨k, hk, rfl, hoo, hb⟩ := hrel
    have HOO := Lib.hid hoo
    have HB := Lib.hid hb
    by_cases hlt : k < zs.length
    · obtain ⟨bb, off, c', he, hbb, hcell⟩ := HAT.out (by omega)
      injection he with g1 g2 g3
      subst g1 g3
      have hC := hcell k hlt wr hb
      have hxm : zs[k].1 ∈ xs := by rw [← HZ.out]; exact List.mem_map.2 ⟨_, List.getElem_mem hlt, rfl⟩
      have hrt := HT1.out _ hxm
      have hokk := (HOK.out _ (List.getElem_mem hlt)).below hb
      have HTK : Hid ((zs.take (k + 1)).filter (stayB t) = (zs.take k).filter (stayB t) ++ (if stayB t zs[k] = true then [zs[k]] else [])) := by
        show _ = _
        rw [List.take_add_one, List.getElem?_eq_getElem hlt, List.filter_append]
        congr 1
        cases hq : stayB t zs[k] <;> simp [hq]
      have hfl : ((zs.take k).filter (stayB t)).length ≤ 20 := Nat.le_trans (List.length_filter_le _ _) (by rw [List.length_take]; omega)
      clear hcell g2 hxm
      generalize (zs.take k).filter (stayB t) = F at *
      generalize zs[k] = y at *
      obtain ⟨x, u1, v1⟩ := y
      dsimp only at *
      obtain ⟨Ao, co, hAo, -⟩ := (SlR.of_owns hoo).form
      subst hAo
      obtain ⟨A1, c1, hA1, -⟩ := (SlR.of_owns hokk.1).form
      obtain ⟨A2, c2, hA2, -⟩ := (SlR.of_owns hokk.2).form
      dsimp only at hA1 hA2
      subst hA1 hA2
      have hst := ho_store wr x A1 A2 x.l.length c1 x.k.length c2
      have hH := Blk.new wr 29 (hdC x (.slice A1 x.l.length c1) (.slice A2 x.k.length c2))
      have hA := (Below.refl wr.heap.size wr).alloc (Nat.le_refl _) (.cells (hdC x (.slice A1 x.l.length c1) (.slice A2 x.k.length c2)) 29)
      have HBn := Lib.hid (hb.trans (hA.mono hb.size))
      have HO2 := Lib.hid (hoo.alloc (.cells (hdC x (.slice A1 x.l.length c1) (.slice A2 x.k.length c2)) 29))
      have HNx := Lib.hid (HNt.out x.h.rt (by omega) _ HBn.out)
      have hone := e_ho_one hokk
      unfold hZ hdC at hst
      unfold hdC at hH hA HBn HO2 HNx
      unfold e_ho hdC at hC hone
      have z1 := hH.cell 1
      clear hokk hb hoo
      go_wp2_with (first
        | refine wpList_load_mid rfl 29 (.tmp 35) rfl bb (off + k * 11) rfl _ _ hC Tryz.underlying29 rfl (by kernel_rfl) ?_)
      clear hst hC z1
      generalize wr.alloc _ = wn at *
      refine HNx.out.mono ?_
      rintro e w6 ⟨rfl, b6⟩
      have hH6 := hH.below b6 hH.lt
      have HB6 := Lib.hid (HBn.out.trans (b6.mono HBn.out.size))
      have HO6 := Lib.hid (HO2.out.below b6)
      have O7 := HO6.out.alloc (.cells #[.string x.h.rm, .string x.h.rt, .slice A1 x.l.length c1, .string x.h.rb, .int .i64 x.h.code, .string x.h.rs, .slice A2 x.k.length c2, .string x.h.bd, .int .i64 x.h.asked, .int .i64 x.h.came, .int .i64 x.h.mark] 29)
      clear b6 HNx hH hA
      by_cases hE : normE t = 0
      · have e0 : (normE t != 0) = false := by rw [hE]; rfl
        by_cases hkey : normK x.h.rt = normK t
        · have hq : ((normK x.h.rt).toList == (normK t).toList) = true := beqL_true hkey
          have HTF : Hid ((zs.take (k + 1)).filter (stayB t) = F) := by show _ = _; rw [HTK.out]; simp [stayB, hE, hkey]
          clear hE hkey HTK O7
          go_wp2_with fail
          go_roundw
          case rel => exact ⟨k + 1, by omega, by go_num, by rw [HTF.out]; exact HO6.out, HB6.out⟩
          case measure => simp [intOf]; omega
        · have hq : ((normK x.h.rt).toList == (normK t).toList) = false := beqL_false hkey
          have HTF : Hid ((zs.take (k + 1)).filter (stayB t) = F ++ [(x, .slice A1 x.l.length c1, .slice A2 x.k.length c2)]) := by show _ = _; rw [HTK.out]; simp [stayB, hE, hkey]
          clear hE hkey
          clear HTK
          go_wp2_with (first
            | refine wpList_load_row rfl 29 (.tmp 14) rfl wr.heap.size rfl 29 _ (0, 0) _ hH6 Tryz.underlying29 rfl (by kernel_rfl) ?_
            | (at_builtin; refine wpList_append_owns rfl (.tmp 51) (.tmp 53) _ rfl w4.heap.size 29 (.agg hZ) 11 160 e_ho Tryz.underlying46 heldInfo (by kernel_rfl) (by decide) _ F rfl O7 ⟨w6.heap.size, 0, none⟩ 1 1 [(x, .slice A1 x.l.length c1, .slice A2 x.k.length c2)] rfl rfl rfl (new_cells w6 (e_ho (x, .slice A1 x.l.length c1, .slice A2 x.k.length c2)) _) (by simpa [e_ho, hdC] using hone) (by simp only [maxLen]; omega) (by omega) (Nat.le_trans HB6.out.size (le_alloc _ _)) ?_; intro v4 w8 hown8 hg8))
          go_roundw
          case rel =>
            refine ⟨k + 1, by omega, by go_num, by rw [HTF.out]; exact hown8, ?_⟩
            exact (HB6.out.alloc HB6.out.size _).grown hg8 (Nat.le_trans HB6.out.size (le_alloc _ _)) (fun j hj => (O7.lt j hj).1)
          case measure => simp [intOf]; omega
      · have e0 : (normE t != 0) = true := by rw [bne_iff_ne]; exact hE
        have HTF : Hid ((zs.take (k + 1)).filter (stayB t) = F ++ [(x, .slice A1 x.l.length c1, .slice A2 x.k.length c2)]) := by show _ = _; rw [HTK.out]; simp [stayB, hE]
        clear hE
        clear HTK
        go_wp2_with (first
          | refine wpList_load_row rfl 29 (.tmp 14) rfl wr.heap.size rfl 29 _ (0, 0) _ hH6 Tryz.underlying29 rfl (by kernel_rfl) ?_
          | (at_builtin; refine wpList_append_owns rfl (.tmp 51) (.tmp 53) _ rfl w4.heap.size 29 (.agg hZ) 11 160 e_ho Tryz.underlying46 heldInfo (by kernel_rfl) (by decide) _ F rfl O7 ⟨w6.heap.size, 0, none⟩ 1 1 [(x, .slice A1 x.l.length c1, .slice A2 x.k.length c2)] rfl rfl rfl (new_cells w6 (e_ho (x, .slice A1 x.l.length c1, .slice A2 x.k.length c2)) _) (by simpa [e_ho, hdC] using hone) (by simp only [maxLen]; omega) (by omega) (Nat.le_trans HB6.out.size (le_alloc _ _)) ?_; intro v4 w8 hown8 hg8))
        go_roundw
        case rel =>
          refine ⟨k + 1, by omega, by go_num, by rw [HTF.out]; exact hown8, ?_⟩
          exact (HB6.out.alloc HB6.out.size _).grown hg8 (Nat.le_trans HB6.out.size (le_alloc _ _)) (fun j hj => (O7.lt j hj).1)
        case measure => simp [intOf]; omega
    · obtain rfl : k = zs.length := by omega
      rw [List.take_of_length_le (Nat.le_refl _)] at hoo
      have hml := congrArg List.length HKy.out
      rw [List.length_map] at hml
      have HKF := Lib.hid (fun (y : Ho) (hy : y ∈ zs.filter (stayB t)) => HOK.out y (List.mem_filter.1 hy).1)
      obtain ⟨Ao, co, hAo, -⟩ := (SlR.of_owns hoo).form
      subst hAo
      have hdl := dropC_len xs t
      have hda := dropC_again xs t
      have hdf := dropC_find xs m t l HI.out
      have HDA := Lib.hid hda
      have HDF := Lib.hid hdf
      rw [hml] at hoo ⊢
      have HOO := Lib.hid hoo
      have HSr := Lib.hid (HS4.out.below hb)
      have HBr := Lib.hid (HB4.out.trans (hb.mono HB4.out.size))
      have hBr := hB4.below hb hB4.lt
      have HAl := Lib.hid (all_any w1.heap.size M made A 100000 xs wr HSr.out (by omega) (by omega))
      have hR20 : (dropC xs t).length ≤ 20 := by omega
      have HDx := Lib.hid (fun (W : World) (h : CaS W w1.heap.size A 100000 M xs made) (hb : Below w1.heap.size w1 W) => dropC_any w1.heap.size M made A 100000 xs t W h (by omega) (by omega) (HEn.out.bel hb))
      have HDl := Lib.hid (fun (D : List Ce) (W : World) (h : CaS W w1.heap.size A 100000 M D made) => all_any w1.heap.size M made A 100000 D W h (by omega) (by omega))
      clear hoo hml HAT HNt HS4 hB4 hda hdf hdl
      generalize zs.filter (stayB t) = F at *
      clear hb
      have HFm := Lib.hid HKy.out
      go_wp2_with fail
      refine HAl.out.mono ?_
      rintro e w6 ⟨⟨v6, z6, rfl, o6, hz6, -⟩, b6⟩
      have h6l : z6.length = xs.length := by rw [← hz6, List.length_map]
      obtain ⟨A6, c6, rfl, -⟩ := (SlR.of_owns o6).form
      rw [h6l]
      have hB6 := hBr.below b6 hBr.lt
      have HS6 := Lib.hid (HSr.out.below b6)
      have HB6 := Lib.hid (HBr.out.trans (b6.mono HBr.out.size))
      have HDr := Lib.hid (HDx.out w6 HS6.out HB6.out)
      have HO6 := Lib.hid ((HOO.out).below b6)
      have HK6 := Lib.hid (fun (y : Ho) (hy : y ∈ F) => ((HKF.out y hy).below HB.out).below b6)
      clear o6 hz6 h6l b6 HAl HSr hBr HKF HOO
      go_wp2_with fail
      refine HDr.out.mono ?_
      rintro e w7 ⟨rfl, hS7, hr7⟩
      have hB7 := Blk.rm hB6 hr7 (by decide)
      have HS7 := Lib.hid hS7
      have HB7 := Lib.hid (HB6.out.trans hr7.bel)
      have HO7 := Lib.hid (Owns.rm HO6.out hr7 (by decide))
      have HK7 : Hid (∀ y ∈ F, HoOk w7 w3.heap.size y) := fun y hy => ⟨Owns.rm (HK6.out y hy).1 hr7 (by decide), Owns.rm (HK6.out y hy).2 hr7 (by decide)⟩
      have HAl := Lib.hid (HDl.out (dropC xs t) w7 HS7.out)
      have hwr : IntKind.i64.wrap ((xs.length : Int) - ((dropC xs t).length : Int)) = (xs.length : Int) - ((dropC xs t).length : Int) := by rw [IntKind.wrap_i64]; omega
      have hne : ((xs.length : Int) - ((dropC xs t).length : Int) != (xs.length : Int) - ((dropC xs t).length : Int)) = false := by simp
      clear hS7 hr7 HDr hB6 HS6 HO6 HK6
      go_wp2_with fail
      refine HAl.out.mono ?_
      rintro e w8 ⟨⟨v8, z8, rfl, o8, hz8, ok8⟩, b8⟩
      have hB8 := hB7.below b8 hB7.lt
      have HS8 := Lib.hid (HS7.out.below b8)
      have HB8 := Lib.hid (HB7.out.trans (b8.mono HB7.out.size))
      have h8l : z8.length = (dropC xs t).length := by rw [← hz8, List.length_map]
      have HSa := Lib.hid (sameAll_true _ _ z8 F _ _ _ _ w8 o8 (HO7.out.below b8) ok8 (fun y hy => (HK7.out y hy).below b8) (by rw [hz8, HFm.out]) (by omega) (fun y hy => by
        have hm : y.1 ∈ dropC xs t := by rw [← hz8]; exact List.mem_map.2 ⟨y, hy, rfl⟩
        have h1 := (HS8.out.t.ent y.1 hm).wl
        have h2 := (HS8.out.t.ent y.1 hm).wk
        have h3 := Fr.wt_len y.1.l
        have h4 := Fr.wt_len y.1.k
        exact ⟨by omega, by omega⟩))
      obtain ⟨A8, c8, rfl, -⟩ := (SlR.of_owns o8).form
      rw [h8l] at HSa
      unfold shF at HSa
      clear o8 hz8 ok8 b8 HAl HO7 HK7 hB7 HS7 hwr hne
      go_wp2_with fail
      refine HSa.out.mono ?_
      rintro e w9 ⟨rfl, b9⟩
      have hB9 := hB8.below b9 hB8.lt
      have y1 := hB9.cell 1
      have f1 := hB9.frozen 1
      have g9 : w9.grownBy (w9.setCell ⟨w.heap.size, 1, none⟩ (.string t)) (some w.heap.size) := gcell w9 ⟨w.heap.size, 1, none⟩ _
      have HB9 := Lib.hid (HB8.out.trans (b9.mono HB8.out.size))
      have hS10 := (HS8.out.below b9).far g9 hB9 (by decide)
      have hB10 : Blk (w9.setCell ⟨w.heap.size, 1, none⟩ (.string t)) w.heap.size 25 #[.string m, .string t, .slice Au l.length cu, .string b] := hB9.set_ 1 _
      have HB10 := Lib.hid ((HB1.out.trans (HB9.out.mono HB1.out.size)).grown g9 (Nat.le_trans HB1.out.size HB9.out.size) (fun k hk => by cases hk; exact Nat.le_refl _))
      have h1s : w1.heap.size ≤ (w9.setCell ⟨w.heap.size, 1, none⟩ (.string t)).heap.size := by rw [World.size_setCell]; exact HB9.out.size
      have HE10 := Lib.hid ((HE0.out.bel HB10.out).up HB1.out.size h1s)
      have HFi := Lib.hid (find_any D hD w1.heap.size M made A 100000 (dropC xs t) m t (.slice Au l.length cu) b l now _ hS10 (by omega) (by omega) (fun W hW => HU0.out.below (HB10.out.trans (hW.bel.mono HB1.out.size))) (by omega) (by omega) HE10.out)
      rw [HDF.out] at HFi
      unfold rqV at HFi
      clear g9 hS10 hB8 HS8 b9 HSa
      go_wp2_with (first
        | refine wpList_load_row rfl 25 (.tmp 6) rfl w.heap.size rfl 25 _ (0, 0) _ hB10 Tryz.underlying25 rfl (by kernel_rfl) ?_)
      clear y1 f1
      generalize w9.setCell _ _ = wa at *
      refine HFi.out.mono ?_
      rintro e wb ⟨hans, hSb, hrb⟩
      have hee : e = .returned (.tuple #[.agg hZ, .int .i64 0, .bool false]) := hans
      subst hee
      have hst : (storeCells ⟨wb.heap.size, 0, none⟩ hZ.toList).run Tryz.prog (wb.alloc (.cells hZ 29)) = .ok () (wb.alloc (.cells hZ 29)) := run_storeCells_new (P := Tryz.prog) wb 29 hZ hZ (by kernel_rfl) rfl (by simp [hZ, Value.oneCell'])
      have bc := (Below.refl wb.heap.size wb).alloc (Nat.le_refl _) (.cells hZ 29)
      have HBc := Lib.hid (HB10.out.trans ((hrb.bel.trans (bc.mono (Nat.le_trans h1s hrb.bel.size))).mono HB1.out.size))
      have HEc := Lib.hid ((HE10.out.bel hrb.bel).below bc)
      have HDr := Lib.hid (dropC_any w1.heap.size M made A 100000 (dropC xs t) t _ (hSb.below bc) (by omega) (by omega) HEc.out)
      rw [HDA.out] at HDr
      have hzz : ((dropC xs t).length : Int) - ((dropC xs t).length : Int) = 0 := by omega
      rw [hzz] at HDr
      unfold hZ at *
      clear hzz hSb hrb HFi hB10 bc hans
      go_wp2_with fail
      refine HDr.out.mono ?_
      rintro e wd ⟨rfl, -, hrd⟩
      have HBd := Lib.hid (HBc.out.trans (hrd.bel.mono HB1.out.size))
      go_wp2_with fail
      go_ret
      exact ⟨rfl, HBd.out⟩
end Ca
end Go.Proofs.YtgnblkmpoigejaaGreatDoor
