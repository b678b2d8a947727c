/- BookBack. -/
import Derived.Test.YtemknajlmocfeaaY8
import Derived.Test.YtemknajlmocfeaaY0
namespace Go.Proofs.Ytemknajlmocfeaa
set_option maxRecDepth 20000
open Go.RowKit Go.Shelf
namespace Bk
def Apart (pa ma : Nat) (ga : Option Nat) (pb mb : Nat) (gb : Option Nat) : Prop := ∀ j ∈ foot pa ma ga, j ∉ foot pb mb gb
theorem Apart.symm {pa ma pb mb : Nat} {ga gb : Option Nat} (h : Apart pa ma ga pb mb gb) : Apart pb mb gb pa ma ga := fun j h1 h2 => h j h2 h1
/-- The second one's buffer turns. -/
theorem Apart.turn {w : World} {pa ma pb mb : Nat} {ga gb gb' : Option Nat} {n0 : Nat} {ra : List Rec} {sa : St} (h : Apart pa ma ga pb mb gb) (ha : BkT w n0 pa ma ga ra sa) (hn : GN w gb gb') : Apart pa ma ga pb mb gb' := by
  intro j hj hm
  have hjl := (ha.gle j hj).2
  have hno := h j hj
  simp only [foot, List.mem_cons, Option.mem_toList] at hm hno
  rcases hm with rfl | rfl | hm
  · exact hno (.inl rfl)
  · exact hno (.inr (.inl rfl))
  · rcases hn j hm with e | e
    · exact hno (.inr (.inr e))
    · omega
theorem recAll_img {rs : List Rec} {s : St} (h : play rs = some s) : Lg.recAll 0 (sl (mkS (imgL rs))) = (rs.map enc, (imgL rs).length) := by
  rw [sl_mkS]
  exact Lg.recAll_back (rs.map enc) (encs_le h)
theorem img_size {rs : List Rec} {s : St} (h : play rs = some s) (hl : rs.length ≤ 2097152) : (mkS (imgL rs)).size ≤ 2147483648 := by
  rw [mkS_size]
  have := imgL_len (rs := rs) fun q hq => encs_le h (enc q) (List.mem_map.2 ⟨q, hq, rfl⟩)
  omega
theorem imageS_any (n0 p mb : Nat) (g : Option Nat) (rs : List Rec) (s : St) (w : World) (h : BkS w n0 p mb g rs s) :
    Calls Try.prog 38 #[ptr p] w fun e w' => e = .returned (.string (mkS (imgL rs))) ∧ BkS w' n0 p mb g rs s ∧ GS w w' (foot p mb g) :=
  (imageB_any n0 p mb g rs s w h.t).mono fun e w' ⟨h1, h2, h3⟩ => ⟨h1, ⟨h2, h.pl⟩, h3.mono (by simp [foot]; exact fun j hj => .inr (.inr hj))⟩
theorem key50 {rs : List Rec} {s : St} (h : play rs = some s) : ∀ k v, s.1 k = some v → k.size ≤ 50 := fun k v hk => ((inv_play h).key k v hk).2.1
set_option maxHeartbeats 8000000 in
theorem bookBack_walk (v1 : Value) (xs : List Stp) (v2 : Value) (ys : List Stp) (w : World) (h1 : SlR w e_st v1 xs) (hl1 : xs.length ≤ 1048576) (hx1 : ∀ x ∈ xs, Wide x.k ∧ Wide x.a ∧ Wide x.b ∧ x.s.size ≤ maxLen ∧ x.t.size ≤ maxLen)
    (h2 : SlR w e_st v2 ys) (hl2 : ys.length ≤ 1048576) (hx2 : ∀ x ∈ ys, Wide x.k ∧ Wide x.a ∧ Wide x.b ∧ x.s.size ≤ maxLen ∧ x.t.size ≤ maxLen) :
    Calls Try.prog 8 #[v1, v2] w fun e w' => e = .returned (.bool true) ∧ Below w.heap.size w w' := by
  have HR0 := Lib.hid (booked_any v1 xs w h1 hl1 hx1)
  have hrl := run_len xs
  have HV := Lib.hid (fun hn => h2.rowN (size := 22) (fun _ => rfl) hn)
  have HX := Lib.hid hx2
  obtain ⟨A, cp, rfl, hc⟩ := h1.form
  obtain ⟨A2, cp2, rfl, hc2⟩ := h2.form
  clear h1 hx1 h2 hx2
  generalize run xs = rr at *
  obtain ⟨ra, sa⟩ := rr
  dsimp only at HR0 hrl
  go_enter Try.func8, Try.ntmps8
  go_wp2_with fail
  refine HR0.out.mono ?_
  rintro e w1 ⟨pa, ma, ga, vi, rfl, ha1, _, b1⟩
  have HA1 := Lib.hid ha1
  have HB1 := Lib.hid b1
  have HPL := Lib.hid ha1.pl
  clear HR0 ha1 b1
  go_wp2_with fail
  refine (imageS_any _ pa ma ga ra sa _ HA1.out).mono ?_
  rintro e w2 ⟨rfl, ha2, gs2⟩
  have HA2 := Lib.hid ha2
  have HB2 := Lib.hid (HB1.out.trans (gs2.bel HB1.out.size (fun j hj => (HA1.out.t.gle j hj).1)))
  clear ha2 gs2
  go_wp2_with fail
  refine (open_any (mkS (imgL ra)) ra sa (imgL ra).length _ HPL.out (recAll_img HPL.out) (img_size HPL.out (by omega)) (by omega)).mono ?_
  rintro e w3 ⟨pb, mb, gb, rfl, hb3, b3⟩
  have HA3 := Lib.hid (HA2.out.below b3)
  have HBb3 := Lib.hid hb3
  have HB3 := Lib.hid (HB2.out.trans (b3.mono HB2.out.size))
  have HAP : Hid (Apart pa ma ga pb mb gb) := fun j h1 h2 => by
    have e1 := (HA2.out.t.gle j h1).2
    have e2 := (HBb3.out.t.gle j h2).1
    omega
  have hn2 : w.heap.size ≤ w2.heap.size := HB2.out.size
  clear hb3 b3
  go_wp2_with fail
  refine (imageS_any _ pa ma ga ra sa _ HA3.out).mono ?_
  rintro e w4 ⟨rfl, ha4, gs4⟩
  have HA4 := Lib.hid ha4
  have HBb4 := Lib.hid (HBb3.out.gs gs4 (fun j hj => HAP.out.symm j hj))
  have HB4 := Lib.hid (HB3.out.trans (gs4.bel HB3.out.size (fun j hj => (HA3.out.t.gle j hj).1)))
  clear ha4 gs4
  have hms : (mkS (imgL ra)).size = (imgL ra).length := mkS_size _
  have hia := (inv_play HPL.out).many
  go_wp2_with fail
  refine (sameBook_any _ _ pa ma pb mb ga gb ra ra sa sa _ HA4.out.t HBb4.out.t hia hia rfl (key50 HPL.out)).mono ?_
  rintro e w5 ⟨rfl, b5⟩
  have HA5 := Lib.hid (HA4.out.below b5)
  have HBb5 := Lib.hid (HBb4.out.below b5)
  have HB5 := Lib.hid (HB4.out.trans (b5.mono HB4.out.size))
  clear b5 hms
  go_wp2_with fail
  refine (imageS_any _ pb mb gb ra sa _ HBb5.out).mono ?_
  rintro e w6 ⟨rfl, hb6, gs6⟩
  have HBb6 := Lib.hid hb6
  have HA6 := Lib.hid (HA5.out.gs gs6 (fun j hj => HAP.out j hj))
  have HB6 := Lib.hid (HB5.out.trans (gs6.bel HB5.out.size (fun j hj => Nat.le_trans hn2 (HBb5.out.t.gle j hj).1)))
  clear hb6 gs6
  go_wp2_with fail
  refine (imageS_any _ pa ma ga ra sa _ HA6.out).mono ?_
  rintro e w7 ⟨rfl, ha7, gs7⟩
  have HA7 := Lib.hid ha7
  have HBb7 := Lib.hid (HBb6.out.gs gs7 (fun j hj => HAP.out.symm j hj))
  have HB7 := Lib.hid (HB6.out.trans (gs7.bel HB6.out.size (fun j hj => (HA6.out.t.gle j hj).1)))
  clear ha7 gs7
  go_wp2_with fail
  go_loopw [48] (fun iv wr => ∃ (k : Nat) (ga gb : Option Nat) (rs : List Rec) (s : St), iv = .int .i64 (k : Int) ∧ k ≤ ys.length ∧ BkS wr w.heap.size pa ma ga rs s ∧ BkS wr w2.heap.size pb mb gb rs s ∧ Apart pa ma ga pb mb gb ∧ rs.length ≤ ra.length + k ∧ Below w.heap.size w wr) (fun iv _ => ys.length - (intOf iv).toNat)
  case atStart => exact ⟨0, ga, gb, ra, sa, rfl, Nat.zero_le _, HA7.out, HBb7.out, HAP.out, by omega, HB7.out⟩
  case round =>
    obtain ⟨k, ga, gb, rs, s, rfl, hk, hA, hBb, hap, hrs, hbel⟩ := hrel
    have HA := Lib.hid hA
    have HBb := Lib.hid hBb
    have HAP := Lib.hid hap
    have HB := Lib.hid hbel
    clear hA hBb hap HA1 HA2 HA3 HA4 HA5 HA6 HA7 HBb3 HBb4 HBb5 HBb6 HBb7 HB1 HB2 HB3 HB4 HB5 HB6 HB7
    by_cases hlt : k < ys.length
    · obtain ⟨bb, off, c3, hv2, hc3, hbb, hcell⟩ := HV.out (by omega)
      injection hv2 with g1 g2 g3
      subst g1 g3
      have hC : wr.rangeAt bb (off + k * 22) (e_st ys[k]) := fun j v hv => (hbel.cell (p := ⟨bb, off + (k * 22) + j, none⟩) hbb).trans (by rw [Nat.add_assoc]; exact hcell k hlt j v hv)
      have hxk := HX.out ys[k] (List.getElem_mem hlt)
      clear hcell g2
      generalize ys[k] = x at *
      obtain ⟨hx1, hx2, hx3, hx4, hx5⟩ := hxk
      have hO := Lib.hid (fun (W : World) => of_any x 3 W hx1 (by decide))
      have hBk := Blk.new wr 63 (e_st x).toArray
      have hst : (storeCells ⟨wr.heap.size, 0, none⟩ (e_st x)).run Try.prog (wr.alloc (.cells stZ 63)) = .ok () (wr.alloc (.cells (e_st x).toArray 63)) :=
        run_storeCells_new (P := Try.prog) wr 63 stZ (e_st x).toArray (by kernel_rfl) (by simp [stZ, e_st]) (by simp [e_st, Value.oneCell'])
      unfold stZ at hst
      have HA5 := Lib.hid (HA.out.alloc (.cells (e_st x).toArray 63))
      have HBb5 := Lib.hid (HBb.out.alloc (.cells (e_st x).toArray 63))
      have HB5 := Lib.hid (HB.out.alloc HB.out.size (.cells (e_st x).toArray 63))
      clear hbel
      go_wp2_with (first
        | refine wpList_load_mid rfl 63 (.tmp 50) rfl bb (off + k * 22) rfl (e_st x) _ hC Try.underlying63 rfl (by kernel_rfl) ?_
        | refine wpList_load_row rfl 63 (.tmp 10) rfl wr.heap.size rfl 63 (e_st x).toArray (0, 0) _ (heap_alloc_last wr _) Try.underlying63 rfl (by kernel_rfl) ?_)
      clear hst hC
      generalize wr.alloc _ = w5 at *
      refine (hO.out _).mono ?_
      rintro e w6 ⟨rfl, g6⟩
      have HA6 := Lib.hid (HA5.out.below g6)
      have HBb6 := Lib.hid (HBb5.out.below g6)
      have HB6 := Lib.hid (HB5.out.trans (g6.mono HB5.out.size))
      have hBk6 := hBk.below g6 hBk.lt
      obtain ⟨xk, xa, xb, xS, xT, og, ou, oi⟩ := x
      dsimp only at hx1 hx2 hx3 hx4 hx5 hBk6 ⊢
      have HXB : Hid (∀ W : World, Blk W wr.heap.size 63 (e_st ⟨xk, xa, xb, xS, xT, og, ou, oi⟩).toArray → W.cell? ⟨wr.heap.size, 3, none⟩ = some (.string xS) ∧ W.cell? ⟨wr.heap.size, 4, none⟩ = some (.string xT)) := fun W hW => ⟨hW.cell 3, hW.cell 4⟩
      have HBK := Lib.hid hBk6
      clear hBk g6 HA5 HBb5 HB5 hO hx1 hx2 hx3 HA HBb HB hBk6
      generalize hXX : (e_st _).toArray = X at *
      clear hXX
      generalize wr.heap.size = bx at *
      have hrl2 : rs.length ≤ 2097152 := by omega
      by_cases hmp : 0 < xk % 3
      · have hd : decide (0 < xk % 3) = true := by rw [decide_eq_true_iff]; exact hmp
        clear hmp
        go_wp2_with fail
        refine wp_region_seq [(true, 0), (true, 1), (true, 2), (true, 3), (true, 4), (true, 6), (true, 7), (true, 8), (true, 9), (true, 10), (false, 5), (false, 11), (true, 12)] (fun w' => Blk w' bx 63 X) (by kernel_rfl) (by kernel_rfl) (fun _ _ _ _ _ h => h) (by kernel_rfl) (by kernel_rfl) ?_ ?_
        · exact HBK.out.drew
        iterate 10 (first | (apply seqH_skip; (focus (simp only [List.getElem?_toArray, List.getElem?_cons_succ, List.getElem?_cons_zero]; rfl)); (focus rfl); simp only [Act.put, List.setIfInBounds_toArray, List.set_cons_zero, List.set_cons_succ]) | (apply seqH_take; (focus (simp only [List.getElem?_toArray, List.getElem?_cons_succ, List.getElem?_cons_zero]; rfl)); (focus rfl); (focus (intro w' hS; (obtain ⟨e3, e4⟩ := HXB.out _ hS); first | (go_simp; rfl) | (go_simp; done))); simp only [Act.put, List.setIfInBounds_toArray, List.set_cons_zero, List.set_cons_succ]) | (apply seqH_pass; (focus (simp only [List.getElem?_toArray, List.getElem?_cons_succ, List.getElem?_cons_zero]; rfl)); (focus rfl); (focus assumption); simp only [Act.put, List.setIfInBounds_toArray, List.set_cons_zero, List.set_cons_succ]))
        have HA7 := Lib.hid (HA6.out.gs (GS.drew (GS.refl w6 [])) (by simp))
        have HBb7 := Lib.hid (HBb6.out.gs (GS.drew (GS.refl w6 [])) (by simp))
        have HB7 : Hid (Below w.heap.size w w6.drew) := HB6.out.drew
        have HBK7 := Lib.hid HBK.out.drew
        clear HA6 HBb6 HB6 HBK
        generalize w6.drew = w7 at *
        apply seqH_eff
        (focus (simp only [List.getElem?_toArray, List.getElem?_cons_succ, List.getElem?_cons_zero]; rfl))
        (focus rfl)
        intro K hK
        go_simp
        refine (setB_any _ pa ma ga rs s xS xT _ HA7.out hx4 hrl2).mono ?_
        rintro e w8 ⟨rfl, ga8, gs8, gn8, h8⟩
        have HBK8 := Lib.hid (Blk.gs HBK7.out gs8 (fun hm => not_foot HA7.out.t HBK7.out (by decide) (by decide) hm))
        have HBb8 := Lib.hid (HBb7.out.gs gs8 (fun j hj => HAP.out.symm j hj))
        have HAP8 := Lib.hid ((HAP.out.symm.turn HBb7.out.t gn8).symm)
        have HB8 := Lib.hid (HB7.out.trans (gs8.bel HB7.out.size (fun j hj => (HA7.out.t.gle j hj).1)))
        have HA8 := Lib.hid h8
        refine hK _ _ ⟨HBK8.out, ?_⟩
        clear hK K gs8 gn8 h8 HA7 HBb7 HB7 HBK7
        apply seqH_eff
        (focus (simp only [List.getElem?_toArray, List.getElem?_cons_succ, List.getElem?_cons_zero]; rfl))
        (focus rfl)
        intro K hK
        go_simp
        refine (setB_any _ pb mb gb rs s xS xT _ HBb8.out hx4 hrl2).mono ?_
        rintro e w9 ⟨rfl, gb9, gs9, gn9, h9⟩
        have HA9 := Lib.hid (HA8.out.gs gs9 (fun j hj => HAP8.out j hj))
        have HAP9 := Lib.hid (HAP8.out.turn HA8.out.t gn9)
        have HB9 := Lib.hid (HB8.out.trans (gs9.bel HB8.out.size (fun j hj => Nat.le_trans hn2 (HBb8.out.t.gle j hj).1)))
        have HBb9 := Lib.hid h9
        have HBK9 := Lib.hid (Blk.gs HBK8.out gs9 (fun hm => not_foot HBb8.out.t HBK8.out (by decide) (by decide) hm))
        refine hK _ _ ⟨HBK9.out, ?_⟩
        clear hK K gs9 gn9 h9
        have HLL : Hid ((if setE s xS xT = 0 then rs ++ [Rec.set xS xT] else rs).length ≤ ra.length + (k + 1)) := by
          show _ ≤ _
          split
          · rw [List.length_append, List.length_singleton]; omega
          · omega
        iterate 1 (first | (apply seqH_skip; (focus (simp only [List.getElem?_toArray, List.getElem?_cons_succ, List.getElem?_cons_zero]; rfl)); (focus rfl); simp only [Act.put, List.setIfInBounds_toArray, List.set_cons_zero, List.set_cons_succ]) | (apply seqH_take; (focus (simp only [List.getElem?_toArray, List.getElem?_cons_succ, List.getElem?_cons_zero]; rfl)); (focus rfl); (focus (intro w' hS; skip; first | (go_simp; rfl) | (go_simp; done))); simp only [Act.put, List.setIfInBounds_toArray, List.set_cons_zero, List.set_cons_succ]) | (apply seqH_pass; (focus (simp only [List.getElem?_toArray, List.getElem?_cons_succ, List.getElem?_cons_zero]; rfl)); (focus rfl); (focus assumption); simp only [Act.put, List.setIfInBounds_toArray, List.set_cons_zero, List.set_cons_succ]))
        refine seqH_nil ?_
        generalize (if setE s xS xT = 0 then rs ++ [Rec.set xS xT] else rs) = rs' at *
        generalize (if setE s xS xT = 0 then setS s xS xT else s) = s' at *
        generalize setE s xS xT = q at *
        go_wp2_with fail
        exact ⟨⟨k + 1, ga8, gb9, rs', s', by simp, by omega, HA9.out, HBb9.out, HAP9.out, HLL.out, HB9.out⟩, by simp only [intOf]; omega⟩
      · have hd : decide (0 < xk % 3) = false := by rw [decide_eq_false_iff_not]; exact hmp
        clear hmp
        go_wp2_with fail
        refine wp_region_seq [(true, 0), (true, 1), (true, 2), (true, 4), (true, 5), (true, 6), (false, 3), (false, 7), (true, 8)] (fun w' => Blk w' bx 63 X) (by kernel_rfl) (by kernel_rfl) (fun _ _ _ _ _ h => h) (by kernel_rfl) (by kernel_rfl) ?_ ?_
        · exact HBK.out.drew
        iterate 6 (first | (apply seqH_skip; (focus (simp only [List.getElem?_toArray, List.getElem?_cons_succ, List.getElem?_cons_zero]; rfl)); (focus rfl); simp only [Act.put, List.setIfInBounds_toArray, List.set_cons_zero, List.set_cons_succ]) | (apply seqH_take; (focus (simp only [List.getElem?_toArray, List.getElem?_cons_succ, List.getElem?_cons_zero]; rfl)); (focus rfl); (focus (intro w' hS; (obtain ⟨e3, e4⟩ := HXB.out _ hS); first | (go_simp; rfl) | (go_simp; done))); simp only [Act.put, List.setIfInBounds_toArray, List.set_cons_zero, List.set_cons_succ]) | (apply seqH_pass; (focus (simp only [List.getElem?_toArray, List.getElem?_cons_succ, List.getElem?_cons_zero]; rfl)); (focus rfl); (focus assumption); simp only [Act.put, List.setIfInBounds_toArray, List.set_cons_zero, List.set_cons_succ]))
        have HA7 := Lib.hid (HA6.out.gs (GS.drew (GS.refl w6 [])) (by simp))
        have HBb7 := Lib.hid (HBb6.out.gs (GS.drew (GS.refl w6 [])) (by simp))
        have HB7 : Hid (Below w.heap.size w w6.drew) := HB6.out.drew
        have HBK7 := Lib.hid HBK.out.drew
        clear HA6 HBb6 HB6 HBK
        generalize w6.drew = w7 at *
        apply seqH_eff
        (focus (simp only [List.getElem?_toArray, List.getElem?_cons_succ, List.getElem?_cons_zero]; rfl))
        (focus rfl)
        intro K hK
        go_simp
        refine (delB_any _ pa ma ga rs s xS _ HA7.out hx4 hrl2).mono ?_
        rintro e w8 ⟨rfl, ga8, gs8, gn8, h8⟩
        have HBK8 := Lib.hid (Blk.gs HBK7.out gs8 (fun hm => not_foot HA7.out.t HBK7.out (by decide) (by decide) hm))
        have HBb8 := Lib.hid (HBb7.out.gs gs8 (fun j hj => HAP.out.symm j hj))
        have HAP8 := Lib.hid ((HAP.out.symm.turn HBb7.out.t gn8).symm)
        have HB8 := Lib.hid (HB7.out.trans (gs8.bel HB7.out.size (fun j hj => (HA7.out.t.gle j hj).1)))
        have HA8 := Lib.hid h8
        refine hK _ _ ⟨HBK8.out, ?_⟩
        clear hK K gs8 gn8 h8 HA7 HBb7 HB7 HBK7
        apply seqH_eff
        (focus (simp only [List.getElem?_toArray, List.getElem?_cons_succ, List.getElem?_cons_zero]; rfl))
        (focus rfl)
        intro K hK
        go_simp
        refine (delB_any _ pb mb gb rs s xS _ HBb8.out hx4 hrl2).mono ?_
        rintro e w9 ⟨rfl, gb9, gs9, gn9, h9⟩
        have HA9 := Lib.hid (HA8.out.gs gs9 (fun j hj => HAP8.out j hj))
        have HAP9 := Lib.hid (HAP8.out.turn HA8.out.t gn9)
        have HB9 := Lib.hid (HB8.out.trans (gs9.bel HB8.out.size (fun j hj => Nat.le_trans hn2 (HBb8.out.t.gle j hj).1)))
        have HBb9 := Lib.hid h9
        have HBK9 := Lib.hid (Blk.gs HBK8.out gs9 (fun hm => not_foot HBb8.out.t HBK8.out (by decide) (by decide) hm))
        refine hK _ _ ⟨HBK9.out, ?_⟩
        clear hK K gs9 gn9 h9
        have HLL : Hid ((if delE s xS = 0 then rs ++ [Rec.del xS] else rs).length ≤ ra.length + (k + 1)) := by
          show _ ≤ _
          split
          · rw [List.length_append, List.length_singleton]; omega
          · omega
        iterate 1 (first | (apply seqH_skip; (focus (simp only [List.getElem?_toArray, List.getElem?_cons_succ, List.getElem?_cons_zero]; rfl)); (focus rfl); simp only [Act.put, List.setIfInBounds_toArray, List.set_cons_zero, List.set_cons_succ]) | (apply seqH_take; (focus (simp only [List.getElem?_toArray, List.getElem?_cons_succ, List.getElem?_cons_zero]; rfl)); (focus rfl); (focus (intro w' hS; skip; first | (go_simp; rfl) | (go_simp; done))); simp only [Act.put, List.setIfInBounds_toArray, List.set_cons_zero, List.set_cons_succ]) | (apply seqH_pass; (focus (simp only [List.getElem?_toArray, List.getElem?_cons_succ, List.getElem?_cons_zero]; rfl)); (focus rfl); (focus assumption); simp only [Act.put, List.setIfInBounds_toArray, List.set_cons_zero, List.set_cons_succ]))
        refine seqH_nil ?_
        generalize (if delE s xS = 0 then rs ++ [Rec.del xS] else rs) = rs' at *
        generalize (if delE s xS = 0 then delS s xS else s) = s' at *
        generalize delE s xS = q at *
        go_wp2_with fail
        exact ⟨⟨k + 1, ga8, gb9, rs', s', by simp, by omega, HA9.out, HBb9.out, HAP9.out, HLL.out, HB9.out⟩, by simp only [intOf]; omega⟩
    · obtain rfl : k = ys.length := by omega
      have hm9 := (inv_play HA.out.pl).many
      clear hbel
      go_wp2_with fail
      refine (sameBook_any _ _ pa ma pb mb ga gb rs rs s s _ HA.out.t HBb.out.t hm9 hm9 rfl (key50 HA.out.pl)).mono ?_
      rintro e w5 ⟨rfl, b5⟩
      have HA5 := Lib.hid (HA.out.below b5)
      have HBb5 := Lib.hid (HBb.out.below b5)
      have HB5 := Lib.hid (HB.out.trans (b5.mono HB.out.size))
      clear b5 hm9
      go_wp2_with fail
      refine (imageS_any _ pa ma ga rs s _ HA5.out).mono ?_
      rintro e w7 ⟨rfl, ha7, gs7⟩
      have HBb7 := Lib.hid (HBb5.out.gs gs7 (fun j hj => HAP.out.symm j hj))
      have HB7 := Lib.hid (HB5.out.trans (gs7.bel HB5.out.size (fun j hj => (HA5.out.t.gle j hj).1)))
      clear ha7 gs7
      go_wp2_with fail
      refine (imageS_any _ pb mb gb rs s _ HBb7.out).mono ?_
      rintro e w8 ⟨rfl, hb8, gs8⟩
      have HB8 := Lib.hid (HB7.out.trans (gs8.bel HB7.out.size (fun j hj => Nat.le_trans hn2 (HBb7.out.t.gle j hj).1)))
      clear hb8 gs8
      have hss : ((mkS (imgL rs)).toList == (mkS (imgL rs)).toList) = true := by simp
      go_wp2_with fail
      go_ret
      exact ⟨rfl, HB8.out⟩
end Bk
end Go.Proofs.Ytemknajlmocfeaa
namespace Go.Proofs.Ytemknajlmocfeaa
set_option maxRecDepth 20000
open Go.RowKit Go.Shelf
namespace Bk
set_option maxHeartbeats 8000000 in
theorem bookCompacts_walk (v1 : Value) (xs : List Stp) (w : World) (h1 : SlR w e_st v1 xs) (hl1 : xs.length ≤ 1048576) (hx1 : ∀ x ∈ xs, Wide x.k ∧ Wide x.a ∧ Wide x.b ∧ x.s.size ≤ maxLen ∧ x.t.size ≤ maxLen) :
    Calls Try.prog 11 #[v1] w fun e w' => e = .returned (.bool true) ∧ Below w.heap.size w w' := by
  have HR0 := Lib.hid (fun (W : World) (hW : Below w.heap.size w W) => booked_any v1 xs W (h1.below hW) hl1 hx1)
  have hrl := run_len xs
  obtain ⟨A, cp, rfl, hc⟩ := h1.form
  clear h1 hx1
  generalize run xs = rr at *
  obtain ⟨ra, sa⟩ := rr
  dsimp only at HR0 hrl
  go_enter Try.func11, Try.ntmps11
  go_wp2_with fail
  refine (HR0.out w (Below.refl _ _)).mono ?_
  rintro e w1 ⟨pa, ma, ga, vi, rfl, ha1, _, b1⟩
  have HA1 := Lib.hid ha1
  have HB1 := Lib.hid b1
  have HPL := Lib.hid ha1.pl
  clear ha1 b1
  go_wp2_with fail
  refine (HR0.out w1 HB1.out).mono ?_
  rintro e w2 ⟨pb, mb, gb, vj, rfl, hb2, _, b2⟩
  have HA2 := Lib.hid (HA1.out.below b2)
  have HBb2 := Lib.hid hb2
  have HB2 := Lib.hid (HB1.out.trans (b2.mono HB1.out.size))
  have HAP : Hid (Apart pa ma ga pb mb gb) := fun j h1 h2 => by
    have e1 := (HA1.out.t.gle j h1).2
    have e2 := (HBb2.out.t.gle j h2).1
    omega
  have hn1 : w.heap.size ≤ w1.heap.size := HB1.out.size
  have hia := (inv_play HPL.out).many
  clear HR0 hb2 b2
  go_wp2_with fail
  refine (compact_any _ pa ma ga ra sa _ HA2.out).mono ?_
  rintro e w3 ⟨rfl, ga3, ks, gs3, gn3, hso, hkl, hkm, ha3⟩
  have HA3 := Lib.hid ha3
  have HBb3 := Lib.hid (HBb2.out.gs gs3 (fun j hj => HAP.out.symm j hj))
  have HAP3 := Lib.hid ((HAP.out.symm.turn HBb2.out.t gn3).symm)
  have HB3 := Lib.hid (HB2.out.trans (gs3.bel HB2.out.size (fun j hj => (HA2.out.t.gle j hj).1)))
  have HSO := Lib.hid hso
  have HKM := Lib.hid hkm
  have hcl : (cl sa.1 ks).length ≤ 100 := by unfold cl; rw [List.length_map]; omega
  have HTOT : Hid ((imgL (cl sa.1 ks)).length ≤ (imgL ra).length) := by show _ ≤ _; rw [tot_img, tot_img]; exact tot_compact _ rfl HPL.out ks (Ky.sorted_nodup hso) hkm
  clear gs3 gn3 ha3 hso hkm hkl
  go_wp2_with fail
  refine (imageS_any _ pa ma ga3 _ sa _ HA3.out).mono ?_
  rintro e w4 ⟨rfl, ha4, gs4⟩
  have HA4 := Lib.hid ha4
  have HBb4 := Lib.hid (HBb3.out.gs gs4 (fun j hj => HAP3.out.symm j hj))
  have HB4 := Lib.hid (HB3.out.trans (gs4.bel HB3.out.size (fun j hj => (HA3.out.t.gle j hj).1)))
  clear ha4 gs4
  go_wp2_with fail
  refine (open_any (mkS (imgL (cl sa.1 ks))) (cl sa.1 ks) sa _ _ HA4.out.pl (recAll_img HA4.out.pl) (img_size HA4.out.pl (by omega)) (by omega)).mono ?_
  rintro e w5 ⟨pc, mc, gc, rfl, hc5, b5⟩
  have HA5 := Lib.hid (HA4.out.below b5)
  have HBb5 := Lib.hid (HBb4.out.below b5)
  have HC5 := Lib.hid hc5
  have HB5 := Lib.hid (HB4.out.trans (b5.mono HB4.out.size))
  have HAC : Hid (Apart pb mb gb pc mc gc) := fun j h1 h2 => by
    have e1 := (HBb4.out.t.gle j h1).2
    have e2 := (HC5.out.t.gle j h2).1
    omega
  have hn4 : w.heap.size ≤ w4.heap.size := HB4.out.size
  clear hc5 b5
  go_wp2_with fail
  refine (sameBook_any _ _ pa ma pb mb ga3 gb _ ra sa sa _ HA5.out.t HBb5.out.t hia hia rfl (key50 HPL.out)).mono ?_
  rintro e w6 ⟨rfl, b6⟩
  have HA6 := Lib.hid (HA5.out.below b6)
  have HBb6 := Lib.hid (HBb5.out.below b6)
  have HC6 := Lib.hid (HC5.out.below b6)
  have HB6 := Lib.hid (HB5.out.trans (b6.mono HB5.out.size))
  clear b6
  go_wp2_with fail
  refine (imageS_any _ pb mb gb ra sa _ HBb6.out).mono ?_
  rintro e w7 ⟨rfl, hb7, gs7⟩
  have HBb7 := Lib.hid hb7
  have HA7 := Lib.hid (HA6.out.gs gs7 (fun j hj => HAP3.out j hj))
  have HC7 := Lib.hid (HC6.out.gs gs7 (fun j hj => HAC.out.symm j hj))
  have HB7 := Lib.hid (HB6.out.trans (gs7.bel HB6.out.size (fun j hj => Nat.le_trans hn1 (HBb6.out.t.gle j hj).1)))
  have hz1 : (mkS (imgL (cl sa.1 ks))).size = (imgL (cl sa.1 ks)).length := mkS_size _
  have hz2 : (mkS (imgL ra)).size = (imgL ra).length := mkS_size _
  have hd : decide (((imgL ra).length : Int) < ((imgL (cl sa.1 ks)).length : Int)) = false := by rw [decide_eq_false_iff_not]; have := HTOT.out; omega
  clear hb7 gs7
  go_wp2_with fail
  refine (sameBook_any _ _ pc mc pb mb gc gb _ ra sa sa _ HC7.out.t HBb7.out.t hia hia rfl (key50 HPL.out)).mono ?_
  rintro e w8 ⟨rfl, b8⟩
  have HA8 := Lib.hid (HA7.out.below b8)
  have HB8 := Lib.hid (HB7.out.trans (b8.mono HB7.out.size))
  clear b8 hz1 hz2 hd
  go_wp2_with fail
  refine (compact_any _ pa ma ga3 _ sa _ HA8.out).mono ?_
  rintro e w9 ⟨rfl, ga9, ks9, gs9, gn9, hso9, hkl9, hkm9, ha9⟩
  have hke : ks9 = ks := Ky.sorted_eq hso9 HSO.out (fun k => by rw [hkm9, HKM.out])
  subst hke
  have HA9 := Lib.hid ha9
  have HB9 := Lib.hid (HB8.out.trans (gs9.bel HB8.out.size (fun j hj => (HA8.out.t.gle j hj).1)))
  clear gs9 gn9 ha9 hso9 hkm9 hkl9
  go_wp2_with fail
  refine (imageS_any _ pa ma ga9 _ sa _ HA9.out).mono ?_
  rintro e w10 ⟨rfl, ha10, gs10⟩
  have HB10 := Lib.hid (HB9.out.trans (gs10.bel HB9.out.size (fun j hj => (HA9.out.t.gle j hj).1)))
  have hss : ((mkS (imgL (cl sa.1 ks9))).toList == (mkS (imgL (cl sa.1 ks9))).toList) = true := by simp
  clear ha10 gs10
  go_wp2_with fail
  go_ret
  exact ⟨rfl, HB10.out⟩
end Bk
end Go.Proofs.Ytemknajlmocfeaa
namespace Go.Proofs.Ytemknajlmocfeaa
set_option maxRecDepth 20000
open Go.RowKit Go.Shelf
namespace Bk
theorem whole_iff : ∀ (l : List (List UInt8)) (k n i : Nat), i ≤ l.length → ((Lg.writeL k (l.take i)).length ≤ n ↔ i ≤ (Lg.whole k l n).1)
  | l, k, n, 0, _ => by simp [Lg.writeL]
  | [], k, n, i + 1, h => by simp at h
  | s :: l, k, n, i + 1, h => by
    have ih := whole_iff l (k + 1) (n - (Lg.frame k s).length) i (by simpa using h)
    rw [List.take_succ_cons]
    unfold Lg.writeL Lg.whole
    rw [List.length_append]
    by_cases hn : n < (Lg.frame k s).length
    · rw [if_pos hn]
      simp only
      omega
    · rw [if_neg hn]
      simp only
      omega
/-- How many records are whole within the first n bytes. -/
def wh (rs : List Rec) (n : Nat) : Nat := (Lg.whole 0 (rs.map enc) n).1
theorem wh_le (rs : List Rec) (n : Nat) : wh rs n ≤ rs.length := by have := (Lg.whole_le (rs.map enc) 0 n).1; rwa [List.length_map] at this
theorem wh_iff (rs : List Rec) (n i : Nat) (h : i ≤ rs.length) : (imgL (rs.take i)).length ≤ n ↔ i ≤ wh rs n := by
  unfold imgL wh
  rw [List.map_take]
  exact whole_iff _ 0 n i (by rw [List.length_map]; exact h)
/-- What the loop over the images finds, behind i of them. -/
def wantS (rs : List Rec) (n i : Nat) : ByteArray := mkS (imgL (rs.take (min (i - 1) (wh rs n))))
theorem wantS_zero (rs : List Rec) (n : Nat) : wantS rs n 0 = ByteArray.empty := by
  unfold wantS
  simp [imgL, Lg.writeL]
  rfl
theorem wantS_step (rs : List Rec) (n i : Nat) (h : i ≤ rs.length) : wantS rs n (i + 1) = if (mkS (imgL (rs.take i))).size ≤ n then mkS (imgL (rs.take i)) else wantS rs n i := by
  unfold wantS
  rw [mkS_size]
  by_cases hi : i ≤ wh rs n
  · rw [if_pos ((wh_iff rs n i h).2 hi), Nat.add_sub_cancel, Nat.min_eq_left hi]
  · rw [if_neg (fun h2 => hi ((wh_iff rs n i h).1 h2)), Nat.add_sub_cancel, Nat.min_eq_right (by omega), Nat.min_eq_right (by omega)]
theorem wantS_end (rs : List Rec) (n : Nat) : wantS rs n (rs.length + 1) = mkS (imgL (rs.take (wh rs n))) := by
  unfold wantS
  rw [Nat.add_sub_cancel, Nat.min_eq_right (wh_le rs n)]
theorem imgs_get (rs : List Rec) (i : Nat) (h : i < (imgs rs).length) : (imgs rs)[i] = mkS (imgL (rs.take i)) := by
  have h2 : (imgs rs)[i]? = some (mkS (imgL (rs.take i))) := by
    unfold imgs
    rw [imgs_len] at h
    rw [List.getElem?_map, List.getElem?_range h]
    rfl
  rw [List.getElem?_eq_getElem h] at h2
  exact Option.some.inj h2
theorem torn_rec {rs : List Rec} {s : St} (h : play rs = some s) (n : Nat) : ∃ m, Lg.recAll 0 ((imgL rs).take n) = ((rs.take (wh rs n)).map enc, m) := by
  have := Lg.recAll_torn (rs.map enc) 0 n (encs_le h)
  refine ⟨(Lg.whole 0 (rs.map enc) n).2, ?_⟩
  rw [List.map_take]
  exact this
set_option maxHeartbeats 8000000 in
theorem bookTorn_walk (v1 : Value) (xs : List Stp) (at_ : Int) (w : World) (h1 : SlR w e_st v1 xs) (hl1 : xs.length ≤ 1048576) (hx1 : ∀ x ∈ xs, Wide x.k ∧ Wide x.a ∧ Wide x.b ∧ x.s.size ≤ maxLen ∧ x.t.size ≤ maxLen) (hat : (Lit.int .i64 at_).wf = true) :
    Calls Try.prog 9 #[v1, .int .i64 at_] w fun e w' => e = .returned (.bool true) ∧ Below w.heap.size w w' := by
  have HR0 := Lib.hid (booked_any v1 xs w h1 hl1 hx1)
  have hrl := run_len xs
  have HAT := Lib.hid (wide_of hat)
  obtain ⟨A, cp, rfl, hc⟩ := h1.form
  clear h1 hx1 hat
  generalize run xs = rr at *
  obtain ⟨ra, sa⟩ := rr
  dsimp only at HR0 hrl
  go_enter Try.func9, Try.ntmps9
  go_wp2_with fail
  refine HR0.out.mono ?_
  rintro e w1 ⟨pa, ma, ga, vi, rfl, ha1, how, b1⟩
  have HA1 := Lib.hid ha1
  have HB1 := Lib.hid b1
  have HPL := Lib.hid ha1.pl
  have HO1 := Lib.hid how
  obtain ⟨Ai, ci, rfl⟩ := how.slice
  have hil := imgs_len ra
  rw [hil] at HO1 ⊢
  clear HR0 ha1 b1 how hil
  go_wp2_with fail
  refine (imageS_any _ pa ma ga ra sa _ HA1.out).mono ?_
  rintro e w2 ⟨rfl, ha2, gs2⟩
  have HO2 := Lib.hid (Owns.keepB HO1.out HA1.out.t gs2 (by decide) (by decide))
  have HB2 := Lib.hid (HB1.out.trans (gs2.bel HB1.out.size (fun j hj => (HA1.out.t.gle j hj).1)))
  have hsz := img_size HPL.out (by omega)
  rw [mkS_size] at hsz
  obtain ⟨T, hT⟩ : ∃ T, T = mkS (imgL ra) := ⟨_, rfl⟩
  have hTz : T.size ≤ 2147483648 := by rw [hT, mkS_size]; exact hsz
  have HT := Lib.hid hT
  rw [← hT]
  clear ha2 gs2 HA1 hsz hT
  have hw1 : IntKind.i64.wrap ((T.size : Int) + 1) = (T.size : Int) + 1 := by rw [IntKind.wrap_i64]; omega
  go_wp2_with fail
  refine (rest_any at_ ((T.size : Int) + 1) _ HAT.out (by omega)).mono ?_
  rintro e w3 ⟨rfl, rfl⟩
  obtain ⟨n, hn⟩ : ∃ n : Nat, at_ % ((T.size : Int) + 1) = (n : Int) := ⟨(at_ % ((T.size : Int) + 1)).toNat, by rw [Int.toNat_of_nonneg (Int.emod_nonneg _ (by omega))]⟩
  have hnT : n ≤ T.size := by have := Int.emod_lt_of_pos at_ (show (0 : Int) < (T.size : Int) + 1 by omega); omega
  rw [hn]
  clear hn
  obtain ⟨sw, hsw⟩ := play_take HPL.out (wh ra n)
  have HSW := Lib.hid hsw
  obtain ⟨m, hrec⟩ := (show ∃ m, Lg.recAll 0 (sl (T.extract 0 n)) = ((ra.take (wh ra n)).map enc, m) by rw [sl_extract, List.drop_zero, Nat.sub_zero, HT.out, sl_mkS]; exact torn_rec HPL.out n)
  have hwl := wh_le ra n
  have htw : (ra.take (wh ra n)).length ≤ 2097152 := by rw [List.length_take]; omega
  clear hsw
  go_wp2_with fail
  refine (open_any (T.extract 0 n) (ra.take (wh ra n)) sw m _ HSW.out hrec (by rw [ext_size _ _ _ hnT]; omega) htw).mono ?_
  rintro e w4 ⟨pb, mb, gb, rfl, hb4, b4⟩
  have HBb4 := Lib.hid hb4
  have HO4 := Lib.hid (HO2.out.below b4)
  have HB4 := Lib.hid (HB2.out.trans (b4.mono HB2.out.size))
  have hn2 : w.heap.size ≤ w2.heap.size := HB2.out.size
  have HWZ : Hid ((mkS (imgL (ra.take (wh ra n)))).size = (imgL (ra.take (wh ra n))).length) := mkS_size _
  clear hb4 b4 hrec
  go_wp2_with fail
  go_loopw [11, 39] (fun wv iv wr => ∃ (k : Nat), iv = .int .i64 (k : Int) ∧ k ≤ ra.length + 1 ∧ wv = .string (wantS ra n k) ∧ wr = w4) (fun _ iv _ => ra.length + 1 - (intOf iv).toNat)
  case atStart => exact ⟨0, rfl, Nat.zero_le _, by rw [wantS_zero]; rfl, rfl⟩
  case round =>
    obtain ⟨k, rfl, hk, rfl, rfl⟩ := hrel
    by_cases hlt : k < ra.length + 1
    · obtain ⟨bb, off, c3, hv2, hc3, hbb, hcell⟩ := SlR.texts (xs := imgs ra) (SlR.of_owns HO4.out) (by rw [imgs_len]; omega)
      rw [imgs_len] at hv2
      injection hv2 with g1 g2 g3
      subst g1 g3
      have c0 := hcell k (by rw [imgs_len]; exact hlt)
      rw [imgs_get] at c0
      have HST := Lib.hid (wantS_step ra n k (by omega))
      have hxz : (mkS (imgL (ra.take k))).size ≤ 2147483648 := by
        obtain ⟨sk, hsk⟩ := play_take HPL.out k
        exact img_size hsk (by rw [List.length_take]; omega)
      clear hcell g2 hc3
      generalize mkS (imgL (ra.take k)) = x at *
      by_cases hle : x.size ≤ n
      · have hd : decide ((x.size : Int) ≤ (n : Int)) = true := by rw [decide_eq_true_iff]; omega
        have hd2 : decide (x.size ≤ n) = true := by rw [decide_eq_true_iff]; omega
        have HF : Hid (wantS ra n (k + 1) = x) := by show _ = _; rw [HST.out, if_pos hle]
        clear hle
        go_wp2_with fail
        exact ⟨⟨k + 1, by simp, by omega, by rw [HF.out], by simp⟩, by simp only [intOf]; omega⟩
      · have hd : decide ((x.size : Int) ≤ (n : Int)) = false := by rw [decide_eq_false_iff_not]; omega
        have hd2 : decide (x.size ≤ n) = false := by rw [decide_eq_false_iff_not]; omega
        have HF : Hid (wantS ra n (k + 1) = wantS ra n k) := by show _ = _; rw [HST.out, if_neg hle]
        clear hle
        go_wp2_with fail
        exact ⟨⟨k + 1, by simp, by omega, by rw [HF.out], by simp⟩, by simp only [intOf]; omega⟩
    · obtain rfl : k = ra.length + 1 := by omega
      rw [wantS_end]
      clear hlt
      have hm := (inv_play HSW.out).many
      go_wp2_with fail
      refine (open_any (mkS (imgL (ra.take (wh ra n)))) (ra.take (wh ra n)) sw _ _ HSW.out (recAll_img HSW.out) (img_size HSW.out htw) htw).mono ?_
      rintro e w5 ⟨pc, mc, gc, rfl, hc5, b5⟩
      have HBb5 := Lib.hid (HBb4.out.below b5)
      have HC5 := Lib.hid hc5
      have HB5 := Lib.hid (HB4.out.trans (b5.mono HB4.out.size))
      have hz := HWZ.out
      clear hc5 b5
      go_wp2_with fail
      refine (sameBook_any _ _ pb mb pc mc gb gc _ _ sw sw _ HBb5.out.t HC5.out.t hm hm rfl (key50 HSW.out)).mono ?_
      rintro e w6 ⟨rfl, b6⟩
      have HBb6 := Lib.hid (HBb5.out.below b6)
      have HB6 := Lib.hid (HB5.out.trans (b6.mono HB5.out.size))
      clear b6
      go_wp2_with fail
      refine (imageS_any _ pb mb gb _ sw _ HBb6.out).mono ?_
      rintro e w7 ⟨rfl, hb7, gs7⟩
      have HB7 := Lib.hid (HB6.out.trans (gs7.bel HB6.out.size (fun j hj => Nat.le_trans hn2 (HBb6.out.t.gle j hj).1)))
      have hss : ((mkS (imgL (ra.take (wh ra n)))).toList == (mkS (imgL (ra.take (wh ra n)))).toList) = true := by simp
      clear hb7 gs7
      go_wp2_with fail
      go_ret
      exact ⟨rfl, HB7.out⟩
end Bk
end Go.Proofs.Ytemknajlmocfeaa
namespace Go.Proofs.Ytemknajlmocfeaa
open Go.RowKit
/-- Block g holds these bytes at its head, and they may be written. -/
def Buf (w : World) (g : Nat) (l : List UInt8) : Prop := g < w.heap.size ∧ ∀ j (hj : j < l.length), w.cell? ⟨g, j, none⟩ = some (bv l[j]) ∧ w.frozen? ⟨g, j, none⟩ = false
theorem Buf.cell {w : World} {g : Nat} {l : List UInt8} (h : Buf w g l) (j : Nat) (hj : j < l.length) : w.cell? ⟨g, j, none⟩ = some (bv l[j]) := (h.2 j hj).1
theorem Buf.free {w : World} {g : Nat} {l : List UInt8} (h : Buf w g l) (j : Nat) (hj : j < l.length) : w.frozen? ⟨g, j, none⟩ = false := (h.2 j hj).2
theorem Buf.below {w w' : World} {g : Nat} {l : List UInt8} (h : Buf w g l) (hb : Below w.heap.size w w') : Buf w' g l :=
  ⟨Nat.lt_of_lt_of_le h.1 hb.size, fun j hj => ⟨(hb.cell (p := ⟨g, j, none⟩) h.1).trans (h.cell j hj), (hb.frozen (p := ⟨g, j, none⟩) h.1).trans (h.free j hj)⟩⟩
theorem Buf.drew {w : World} {g : Nat} {l : List UInt8} (h : Buf w g l) : Buf w.drew g l := h
theorem Buf.alloc {w : World} {g : Nat} {l : List UInt8} (h : Buf w g l) (o : Obj) : Buf (w.alloc o) g l := h.below ((Below.refl _ _).alloc (Nat.le_refl _) o)
theorem Buf.put {w : World} {g : Nat} {l : List UInt8} (h : Buf w g l) (i : Nat) (hi : i < l.length) (c : UInt8) : Buf (w.setCell ⟨g, i, none⟩ (bv c)) g (l.set i c) := by
  refine ⟨by simpa using h.1, fun j hj => ?_⟩
  rw [List.length_set] at hj
  refine ⟨?_, by rw [World.frozen?_setCell]; exact h.free j hj⟩
  by_cases e : i = j
  · subst e
    rw [World.cell?_setCell_same _ _ _ (h.cell i hi)]
    simp
  · rw [World.cell?_setCell_other _ _ _ _ (by intro h; injection h with _ h2 _; exact e h2), h.cell j hj]
    simp [e]
section
variable {P : Program}
theorem buf_new (w : World) (e : TypeId) (s : ByteArray) (cap : Nat) (fr : Nat × Nat) (h0 : s.size ≤ fr.1) : Buf (w.drew.alloc (.cells (bytesRow s cap) e fr)) w.heap.size (sl s) := by
  refine ⟨by simp, fun j hj => ?_⟩
  have hj' : j < s.size := by rwa [sl_len] at hj
  have hh : (w.drew.alloc (.cells (bytesRow s cap) e fr)).heap[w.heap.size]? = some (.cells (bytesRow s cap) e fr) := heap_alloc_new w.drew _
  constructor
  · rw [cell_of_row _ _ j _ _ _ hh]
    simp [bytesRow, sl, bv, Array.getElem?_append, hj']
  · simp only [World.frozen?, hh]
    simp
    omega
theorem wpList_to_bytes {ops : Array Oper} {rest : List Oper} {o : Oper} {a : Act} {Q : Exit → Act → World → Prop} {w : World} (hgd : o.guard = none) (x : Operand) (src dst e : TypeId)
    (ho : o.op = .convert src dst x) (hs : P.underlying src = some .string) (hd : P.underlying dst = some (.slice e)) (he : P.underlying e = some (.int .u8)) (s : ByteArray) (hx : a.eval x = .string s)
    (h : ∀ c w1, s.size ≤ c → Buf w1 w.heap.size (sl s) → Below w.heap.size w w1 → w1.heap.size = w.heap.size + 1 → wpList P ops Q rest (a.put o.dst (.slice (some ⟨w.heap.size, 0, none⟩) s.size c)) w1) : wpList P ops Q (o :: rest) a w := by
  refine wpList_plain hgd fun K hK => ?_
  unfold Oper.wp execOp
  simp only [ho, hx, Sem.run_bind, Result.andThen_ok, run_bytes_of_string w src dst e s hs hd he]
  have hc : s.size ≤ grownCap w s.size 0 e := grownCap_ge _ _ _ _
  refine hK _ _ (h _ _ hc (buf_new w e s _ _ ?_) ((Below.refl _ _).drew.alloc (by simp) _) (by simp))
  simp [bytesRow]
/-- 'string(b)'. -/
theorem run_string_buf {src dst e : TypeId} (hs : P.underlying src = some (.slice e)) (he : P.underlying e = some (.int .u8)) (hd : P.underlying dst = some .string) {w : World} {g : Nat} {l : List UInt8} (h : Buf w g l) (cap : Nat) :
    (convert src dst (.slice (some ⟨g, 0, none⟩) l.length cap)).run P w = .ok (.string (mkS l)) w := by
  refine run_convert_bytes_back w src dst e ⟨g, 0, none⟩ cap l hs he hd (fun j hj => ?_)
  have e : ((⟨g, 0, none⟩ : Addr).add j) = ⟨g, j, none⟩ := by unfold Addr.add; split <;> simp_all
  rw [e]; exact h.cell j hj
end
end Go.Proofs.Ytemknajlmocfeaa
namespace Go.Proofs.Ytemknajlmocfeaa
set_option maxRecDepth 20000
open Go.RowKit Go.Shelf
namespace Bk
theorem spoilK_two : ∀ (t : List UInt8) (k : Nat) (a b : UInt8) (h : k + 1 < t.length), (t.set k (t[k] ^^^ a)).set (k + 1) (t[k + 1] ^^^ b) = Lg.spoil t k a b
  | x :: y :: t, 0, a, b, _ => by simp [Lg.spoil]
  | x :: t, k + 1, a, b, h => by
    have := spoilK_two t k a b (by simpa using h)
    simp only [List.set_cons_succ, List.getElem_cons_succ, Lg.spoil, this]
theorem spoilK_last : ∀ (t : List UInt8) (k : Nat) (a b : UInt8) (h : k < t.length), k + 1 = t.length → t.set k (t[k] ^^^ a) = Lg.spoil t k a b
  | [x], 0, a, b, _, _ => by simp [Lg.spoil]
  | x :: y :: t, 0, a, b, _, h => by simp at h
  | x :: t, k + 1, a, b, h, h2 => by
    have := spoilK_last t k a b (by simpa using h) (by simpa using h2)
    simp only [List.set_cons_succ, List.getElem_cons_succ, Lg.spoil, this]
theorem xorK_byte (c a : UInt8) : bits BinOp.xor IntKind.u8 (c.toNat : Int) (a.toNat : Int) = ((c ^^^ a).toNat : Int) := by
  rw [UInt8.toNat_xor]; exact u8_xor_nat _ _ (Lg.byte_lt c) (Lg.byte_lt a)
theorem xorK_byte0 (c : UInt8) : bits BinOp.xor IntKind.u8 (c.toNat : Int) 0 = ((c ^^^ (0 : UInt8)).toNat : Int) := xorK_byte c 0
theorem spoilt_rec {rs : List Rec} {s : St} (h : play rs = some s) (n : Nat) (a b : UInt8) (ha : a ≠ 0) (hn : n < (imgL rs).length) : ∃ m, Lg.recAll 0 (Lg.spoil (imgL rs) n a b) = ((rs.take (wh rs n)).map enc, m) := by
  have := Lg.recAll_spoilt a b ha (rs.map enc) 0 n (encs_le h) hn
  refine ⟨(Lg.whole 0 (rs.map enc) n).2, ?_⟩
  rw [List.map_take]
  exact this
set_option maxHeartbeats 8000000 in
theorem bookSpoilt_core (v1 : Value) (xs : List Stp) (at_ : Int) (x y : UInt8) (w : World) (h1 : SlR w e_st v1 xs) (hl1 : xs.length ≤ 1048576) (hx1 : ∀ x ∈ xs, Wide x.k ∧ Wide x.a ∧ Wide x.b ∧ x.s.size ≤ maxLen ∧ x.t.size ≤ maxLen) (hat : Wide at_) :
    Calls Try.prog 10 #[v1, .int .i64 at_, .int .u8 x.toNat, .int .u8 y.toNat] w fun e w' => e = .returned (.bool true) ∧ Below w.heap.size w w' := by
  have HR0 := Lib.hid (booked_any v1 xs w h1 hl1 hx1)
  have hrl := run_len xs
  have HAT := Lib.hid hat
  obtain ⟨A, cp, rfl, hc⟩ := h1.form
  clear h1 hx1 hat
  generalize run xs = rr at *
  obtain ⟨ra, sa⟩ := rr
  dsimp only at HR0 hrl
  go_enter Try.func10, Try.ntmps10
  go_wp2_with fail
  refine HR0.out.mono ?_
  rintro e w1 ⟨pa, ma, ga, vi, rfl, ha1, how, b1⟩
  have HA1 := Lib.hid ha1
  have HB1 := Lib.hid b1
  have HPL := Lib.hid ha1.pl
  have HO1 := Lib.hid how
  obtain ⟨Ai, ci, rfl⟩ := how.slice
  have hil := imgs_len ra
  rw [hil] at HO1 ⊢
  clear HR0 ha1 b1 how hil
  go_wp2_with fail
  refine (imageS_any _ pa ma ga ra sa _ HA1.out).mono ?_
  rintro e w2 ⟨rfl, ha2, gs2⟩
  have HO2 := Lib.hid (Owns.keepB HO1.out HA1.out.t gs2 (by decide) (by decide))
  have HB2 := Lib.hid (HB1.out.trans (gs2.bel HB1.out.size (fun j hj => (HA1.out.t.gle j hj).1)))
  have hsz := img_size HPL.out (by omega)
  rw [mkS_size] at hsz
  obtain ⟨j, hj⟩ : ∃ j, j = mkS (imgL ra) := ⟨_, rfl⟩
  have hjz : j.size ≤ 2147483648 := by rw [hj, mkS_size]; exact hsz
  have HJ : Hid (sl j = imgL ra) := by show _ = _; rw [hj, sl_mkS]
  rw [← hj]
  clear ha2 gs2 HA1 hsz hj
  by_cases hj0 : j.size = 0
  · have d0 : ((j.size : Int) == 0) = true := by rw [beq_iff_eq]; omega
    clear hj0
    go_wp2_with ((refine wpList_to_bytes rfl (.tmp 28) 9 83 5 rfl Try.underlying9 Try.underlying83 Try.underlying5 j rfl ?_); intro cpb w3 hcp hbuf b2 hsz2)
    go_ret
    exact ⟨rfl, HB2.out.trans (b2.mono HB2.out.size)⟩
  · have d0 : ((j.size : Int) == 0) = false := by rw [beq_eq_false_iff_ne]; omega
    by_cases hx0 : x = 0
    · have dx : ((x.toNat : Int) == 0) = true := by rw [hx0]; rfl
      clear hj0 hx0
      go_wp2_with ((refine wpList_to_bytes rfl (.tmp 28) 9 83 5 rfl Try.underlying9 Try.underlying83 Try.underlying5 j rfl ?_); intro cpb w3 hcp hbuf b2 hsz2)
      go_ret
      exact ⟨rfl, HB2.out.trans (b2.mono HB2.out.size)⟩
    · have dx : ((x.toNat : Int) == 0) = false := by rw [beq_eq_false_iff_ne]; intro h; apply hx0; exact UInt8.toNat_inj.1 (by simpa using h)
      obtain ⟨n, hk, hkz⟩ : ∃ n : Nat, at_ % (j.size : Int) = (n : Int) ∧ n < j.size := by
        have h0 := Int.emod_nonneg at_ (b := (j.size : Int)) (by omega)
        have h1 := Int.emod_lt_of_pos at_ (b := (j.size : Int)) (by omega)
        exact ⟨(at_ % (j.size : Int)).toNat, by omega, by omega⟩
      have HK := Lib.hid hk
      have HX0 : Hid (x ≠ 0) := hx0
      clear hk hj0 hx0
      go_wp2_with ((refine wpList_to_bytes rfl (.tmp 28) 9 83 5 rfl Try.underlying9 Try.underlying83 Try.underlying5 j rfl ?_); intro cpb w3 hcp hbuf b2 hsz2)
      refine (rest_any at_ (j.size : Int) _ HAT.out (by omega)).mono ?_
      rintro e w' ⟨rfl, rfl⟩
      rw [HK.out]
      have hkl : n < (sl j).length := by rw [sl_len]; exact hkz
      have c0 := hbuf.cell n hkl
      have f0 := hbuf.free n hkl
      generalize hp : (sl j)[n] = p at c0
      have hb1 := hbuf.put n hkl (p ^^^ x)
      have HB1' := Lib.hid hb1
      have hgk : w2.heap.size < w3.heap.size := hbuf.1
      have hx1 := xorK_byte p x
      by_cases hk1 : n + 1 < j.size
      · have hkl1 : n + 1 < (sl j).length := by rw [sl_len]; exact hk1
        have q0 := hbuf.cell (n + 1) hkl1
        have q1 := hbuf.free (n + 1) hkl1
        generalize hq : (sl j)[n + 1] = q at q0
        have hx2 := xorK_byte q y
        have hL : Hid (((sl j).set n (p ^^^ x)).set (n + 1) (q ^^^ y) = Lg.spoil (sl j) n x y) := by
          show _ = _; rw [← hp, ← hq]; exact spoilK_two (sl j) n x y hkl1
        have hb2 := HB1'.out.put (n + 1) (by rw [List.length_set]; exact hkl1) (q ^^^ y)
        rw [hL.out] at hb2
        have hrs := run_string_buf (dst := 9) Try.underlying83 Try.underlying5 Try.underlying9 hb2 cpb
        rw [Lg.spoil_len, sl_len] at hrs
        have hw1 : IntKind.i64.wrap ((n : Int) + 1) = (n : Int) + 1 := by rw [IntKind.wrap_i64]; omega
        clear hb1 hb2 hbuf hp hq hkl hkl1
        simp only [bv, UInt8.toNat_xor, UInt8.xor_zero] at c0 q0 hrs
        go_wp2_with fail
        have b2' : Below w2.heap.size w2 ((w3.setCell ⟨w2.heap.size, n, none⟩ (.int .u8 (((p.toNat ^^^ x.toNat : Nat) : Int)))).setCell ⟨w2.heap.size, n + 1, none⟩ (.int .u8 (((q.toNat ^^^ y.toNat : Nat) : Int)))) := (b2.setCell (p := ⟨w2.heap.size, n, none⟩) (Nat.le_refl _) _).setCell (p := ⟨w2.heap.size, n + 1, none⟩) (Nat.le_refl _) _
        obtain ⟨S, hS, hSz, HSL⟩ : ∃ S : ByteArray, mkS (Lg.spoil (sl j) n x y) = S ∧ S.size ≤ 2147483648 ∧ Hid (sl S = Lg.spoil (sl j) n x y) := ⟨_, rfl, by rw [mkS_size, Lg.spoil_len, sl_len]; omega, sl_mkS _⟩
        rw [hS]
        have HREC := show ∃ m, Lg.recAll 0 (sl S) = ((ra.take (wh ra n)).map enc, m) by rw [HSL.out, HJ.out]; exact spoilt_rec HPL.out n x y HX0.out (by rw [← HJ.out, sl_len]; exact hkz)
        clear hS hrs c0 f0
        generalize (w3.setCell ⟨w2.heap.size, n, none⟩ (.int .u8 (((p.toNat ^^^ x.toNat : Nat) : Int)))).setCell ⟨w2.heap.size, n + 1, none⟩ (.int .u8 (((q.toNat ^^^ y.toNat : Nat) : Int))) = w3b at b2' ⊢
        have HO3 := Lib.hid (HO2.out.below b2')
        have HB3 := Lib.hid (HB2.out.trans (b2'.mono HB2.out.size))
        clear b2'
        obtain ⟨sw, hsw⟩ := play_take HPL.out (wh ra n)
        have HSW := Lib.hid hsw
        obtain ⟨m, hrec⟩ := HREC
        have hwl := wh_le ra n
        have htw : (ra.take (wh ra n)).length ≤ 2097152 := by rw [List.length_take]; omega
        clear hsw
        refine (open_any S (ra.take (wh ra n)) sw m _ HSW.out hrec hSz htw).mono ?_
        rintro e w4 ⟨pb, mb, gb, rfl, hb4, b4⟩
        have HBb4 := Lib.hid hb4
        have HO4 := Lib.hid (HO3.out.below b4)
        have HB4 := Lib.hid (HB3.out.trans (b4.mono HB3.out.size))
        have hn2 : w.heap.size ≤ w3b.heap.size := HB3.out.size
        have HWZ : Hid ((mkS (imgL (ra.take (wh ra n)))).size = (imgL (ra.take (wh ra n))).length) := mkS_size _
        clear hb4 b4 hrec
        go_wp2_with fail
        go_loopw [15, 69] (fun wv iv wr => ∃ (k : Nat), iv = .int .i64 (k : Int) ∧ k ≤ ra.length + 1 ∧ wv = .string (wantS ra n k) ∧ wr = w4) (fun _ iv _ => ra.length + 1 - (intOf iv).toNat)
        case atStart => exact ⟨0, rfl, Nat.zero_le _, by rw [wantS_zero]; rfl, rfl⟩
        case round =>
          obtain ⟨k, rfl, hk, rfl, rfl⟩ := hrel
          by_cases hlt : k < ra.length + 1
          · obtain ⟨bb, off, c3, hv2, hc3, hbb, hcell⟩ := SlR.texts (xs := imgs ra) (SlR.of_owns HO4.out) (by rw [imgs_len]; omega)
            rw [imgs_len] at hv2
            injection hv2 with g1 g2 g3
            subst g1 g3
            have c0 := hcell k (by rw [imgs_len]; exact hlt)
            rw [imgs_get] at c0
            have HST := Lib.hid (wantS_step ra n k (by omega))
            have hxz : (mkS (imgL (ra.take k))).size ≤ 2147483648 := by
              obtain ⟨sk, hsk⟩ := play_take HPL.out k
              exact img_size hsk (by rw [List.length_take]; omega)
            clear hcell g2 hc3
            generalize mkS (imgL (ra.take k)) = x at *
            by_cases hle : x.size ≤ n
            · have hd : decide ((x.size : Int) ≤ (n : Int)) = true := by rw [decide_eq_true_iff]; omega
              have hd2 : decide (x.size ≤ n) = true := by rw [decide_eq_true_iff]; omega
              have HF : Hid (wantS ra n (k + 1) = x) := by show _ = _; rw [HST.out, if_pos hle]
              clear hle
              go_wp2_with fail
              exact ⟨⟨k + 1, by simp, by omega, by rw [HF.out], by simp⟩, by simp only [intOf]; omega⟩
            · have hd : decide ((x.size : Int) ≤ (n : Int)) = false := by rw [decide_eq_false_iff_not]; omega
              have hd2 : decide (x.size ≤ n) = false := by rw [decide_eq_false_iff_not]; omega
              have HF : Hid (wantS ra n (k + 1) = wantS ra n k) := by show _ = _; rw [HST.out, if_neg hle]
              clear hle
              go_wp2_with fail
              exact ⟨⟨k + 1, by simp, by omega, by rw [HF.out], by simp⟩, by simp only [intOf]; omega⟩
          · obtain rfl : k = ra.length + 1 := by omega
            rw [wantS_end]
            clear hlt
            have hm := (inv_play HSW.out).many
            go_wp2_with fail
            refine (open_any (mkS (imgL (ra.take (wh ra n)))) (ra.take (wh ra n)) sw _ _ HSW.out (recAll_img HSW.out) (img_size HSW.out htw) htw).mono ?_
            rintro e w5 ⟨pc, mc, gc, rfl, hc5, b5⟩
            have HBb5 := Lib.hid (HBb4.out.below b5)
            have HC5 := Lib.hid hc5
            have HB5 := Lib.hid (HB4.out.trans (b5.mono HB4.out.size))
            have hz := HWZ.out
            clear hc5 b5
            go_wp2_with fail
            refine (sameBook_any _ _ pb mb pc mc gb gc _ _ sw sw _ HBb5.out.t HC5.out.t hm hm rfl (key50 HSW.out)).mono ?_
            rintro e w6 ⟨rfl, b6⟩
            have HBb6 := Lib.hid (HBb5.out.below b6)
            have HB6 := Lib.hid (HB5.out.trans (b6.mono HB5.out.size))
            clear b6
            go_wp2_with fail
            go_ret
            exact ⟨rfl, HB6.out⟩
      · have hnl : n + 1 = (sl j).length := by rw [sl_len]; omega
        have hL : Hid ((sl j).set n (p ^^^ x) = Lg.spoil (sl j) n x y) := by
          show _ = _; rw [← hp]; exact spoilK_last (sl j) n x y hkl hnl
        have hb2 := HB1'.out
        rw [hL.out] at hb2
        have hrs := run_string_buf (dst := 9) Try.underlying83 Try.underlying5 Try.underlying9 hb2 cpb
        rw [Lg.spoil_len, sl_len] at hrs
        have hw1 : IntKind.i64.wrap ((n : Int) + 1) = (n : Int) + 1 := by rw [IntKind.wrap_i64]; omega
        have hd1 : decide ((n : Int) + 1 < (j.size : Int)) = false := by rw [decide_eq_false_iff_not]; omega
        clear hb1 hb2 hbuf hp hkl hk1 hnl
        simp only [bv, UInt8.toNat_xor, UInt8.xor_zero] at c0 hrs
        go_wp2_with fail
        have b2' : Below w2.heap.size w2 (w3.setCell ⟨w2.heap.size, n, none⟩ (.int .u8 (((p.toNat ^^^ x.toNat : Nat) : Int)))) := b2.setCell (p := ⟨w2.heap.size, n, none⟩) (Nat.le_refl _) _
        obtain ⟨S, hS, hSz, HSL⟩ : ∃ S : ByteArray, mkS (Lg.spoil (sl j) n x y) = S ∧ S.size ≤ 2147483648 ∧ Hid (sl S = Lg.spoil (sl j) n x y) := ⟨_, rfl, by rw [mkS_size, Lg.spoil_len, sl_len]; omega, sl_mkS _⟩
        rw [hS]
        have HREC := show ∃ m, Lg.recAll 0 (sl S) = ((ra.take (wh ra n)).map enc, m) by rw [HSL.out, HJ.out]; exact spoilt_rec HPL.out n x y HX0.out (by rw [← HJ.out, sl_len]; exact hkz)
        clear hS hrs c0 f0
        generalize w3.setCell ⟨w2.heap.size, n, none⟩ (.int .u8 (((p.toNat ^^^ x.toNat : Nat) : Int))) = w3b at b2' ⊢
        have HO3 := Lib.hid (HO2.out.below b2')
        have HB3 := Lib.hid (HB2.out.trans (b2'.mono HB2.out.size))
        clear b2'
        obtain ⟨sw, hsw⟩ := play_take HPL.out (wh ra n)
        have HSW := Lib.hid hsw
        obtain ⟨m, hrec⟩ := HREC
        have hwl := wh_le ra n
        have htw : (ra.take (wh ra n)).length ≤ 2097152 := by rw [List.length_take]; omega
        clear hsw
        refine (open_any S (ra.take (wh ra n)) sw m _ HSW.out hrec hSz htw).mono ?_
        rintro e w4 ⟨pb, mb, gb, rfl, hb4, b4⟩
        have HBb4 := Lib.hid hb4
        have HO4 := Lib.hid (HO3.out.below b4)
        have HB4 := Lib.hid (HB3.out.trans (b4.mono HB3.out.size))
        have hn2 : w.heap.size ≤ w3b.heap.size := HB3.out.size
        have HWZ : Hid ((mkS (imgL (ra.take (wh ra n)))).size = (imgL (ra.take (wh ra n))).length) := mkS_size _
        clear hb4 b4 hrec
        go_wp2_with fail
        go_loopw [15, 69] (fun wv iv wr => ∃ (k : Nat), iv = .int .i64 (k : Int) ∧ k ≤ ra.length + 1 ∧ wv = .string (wantS ra n k) ∧ wr = w4) (fun _ iv _ => ra.length + 1 - (intOf iv).toNat)
        case atStart => exact ⟨0, rfl, Nat.zero_le _, by rw [wantS_zero]; rfl, rfl⟩
        case round =>
          obtain ⟨k, rfl, hk, rfl, rfl⟩ := hrel
          by_cases hlt : k < ra.length + 1
          · obtain ⟨bb, off, c3, hv2, hc3, hbb, hcell⟩ := SlR.texts (xs := imgs ra) (SlR.of_owns HO4.out) (by rw [imgs_len]; omega)
            rw [imgs_len] at hv2
            injection hv2 with g1 g2 g3
            subst g1 g3
            have c0 := hcell k (by rw [imgs_len]; exact hlt)
            rw [imgs_get] at c0
            have HST := Lib.hid (wantS_step ra n k (by omega))
            have hxz : (mkS (imgL (ra.take k))).size ≤ 2147483648 := by
              obtain ⟨sk, hsk⟩ := play_take HPL.out k
              exact img_size hsk (by rw [List.length_take]; omega)
            clear hcell g2 hc3
            generalize mkS (imgL (ra.take k)) = x at *
            by_cases hle : x.size ≤ n
            · have hd : decide ((x.size : Int) ≤ (n : Int)) = true := by rw [decide_eq_true_iff]; omega
              have hd2 : decide (x.size ≤ n) = true := by rw [decide_eq_true_iff]; omega
              have HF : Hid (wantS ra n (k + 1) = x) := by show _ = _; rw [HST.out, if_pos hle]
              clear hle
              go_wp2_with fail
              exact ⟨⟨k + 1, by simp, by omega, by rw [HF.out], by simp⟩, by simp only [intOf]; omega⟩
            · have hd : decide ((x.size : Int) ≤ (n : Int)) = false := by rw [decide_eq_false_iff_not]; omega
              have hd2 : decide (x.size ≤ n) = false := by rw [decide_eq_false_iff_not]; omega
              have HF : Hid (wantS ra n (k + 1) = wantS ra n k) := by show _ = _; rw [HST.out, if_neg hle]
              clear hle
              go_wp2_with fail
              exact ⟨⟨k + 1, by simp, by omega, by rw [HF.out], by simp⟩, by simp only [intOf]; omega⟩
          · obtain rfl : k = ra.length + 1 := by omega
            rw [wantS_end]
            clear hlt
            have hm := (inv_play HSW.out).many
            go_wp2_with fail
            refine (open_any (mkS (imgL (ra.take (wh ra n)))) (ra.take (wh ra n)) sw _ _ HSW.out (recAll_img HSW.out) (img_size HSW.out htw) htw).mono ?_
            rintro e w5 ⟨pc, mc, gc, rfl, hc5, b5⟩
            have HBb5 := Lib.hid (HBb4.out.below b5)
            have HC5 := Lib.hid hc5
            have HB5 := Lib.hid (HB4.out.trans (b5.mono HB4.out.size))
            have hz := HWZ.out
            clear hc5 b5
            go_wp2_with fail
            refine (sameBook_any _ _ pb mb pc mc gb gc _ _ sw sw _ HBb5.out.t HC5.out.t hm hm rfl (key50 HSW.out)).mono ?_
            rintro e w6 ⟨rfl, b6⟩
            have HBb6 := Lib.hid (HBb5.out.below b6)
            have HB6 := Lib.hid (HB5.out.trans (b6.mono HB5.out.size))
            clear b6
            go_wp2_with fail
            go_ret
            exact ⟨rfl, HB6.out⟩
theorem bookSpoilt_walk (v1 : Value) (xs : List Stp) (at_ x y : Int) (w : World) (h1 : SlR w e_st v1 xs) (hl1 : xs.length ≤ 1048576) (hx1 : ∀ x ∈ xs, Wide x.k ∧ Wide x.a ∧ Wide x.b ∧ x.s.size ≤ maxLen ∧ x.t.size ≤ maxLen) (hat : (Lit.int .i64 at_).wf = true) (hx : (Lit.int .u8 x).wf = true) (hy : (Lit.int .u8 y).wf = true) :
    Calls Try.prog 10 #[v1, .int .i64 at_, .int .u8 x, .int .u8 y] w fun e w' => e = .returned (.bool true) ∧ Below w.heap.size w w' := by
  have byte : ∀ z : Int, (Lit.int .u8 z).wf = true → ∃ c : UInt8, z = (c.toNat : Int) := by
    intro z hz
    simp only [Lit.wf, Bool.and_eq_true, decide_eq_true_eq] at hz
    have h1 : 0 ≤ z := hz.1
    have h2 : z ≤ 255 := hz.2
    exact ⟨UInt8.ofNat z.toNat, by simp; omega⟩
  obtain ⟨a, rfl⟩ := byte x hx
  obtain ⟨b, rfl⟩ := byte y hy
  exact bookSpoilt_core v1 xs at_ a b w h1 hl1 hx1 (wide_of hat)
end Bk
end Go.Proofs.Ytemknajlmocfeaa
