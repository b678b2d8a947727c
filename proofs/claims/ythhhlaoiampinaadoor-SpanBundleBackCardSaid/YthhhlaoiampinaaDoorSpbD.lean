/- SpanBundleBack: the law's walk. -/
import Derived.Test.YthhhlaoiampinaaDoorSpbC
import Derived.Test.YthhhlaoiampinaaDoorEqSlc
namespace Go.Proofs.YthhhlaoiampinaaDoor
set_option maxRecDepth 20000
open Go.RowKit
namespace Spb
open Spc
set_option maxHeartbeats 4000000 in
theorem spanBundleBack_walk (bd body : ByteArray) (v : Value) (l : List (Int × Int)) (w : World) (hbd : bd.size ≤ 140737488351232) (hbo : body.size ≤ 140737488351232) (h : SlR w e_ii v l) (hl : l.length ≤ 140737488351232) (hm : HasMaxU w) (he : Bd.HasErr w) :
    Calls Tryd.prog 3 #[.string bd, .string body, v] w fun e w' => e = .returned (.bool true) ∧ Below w.heap.size w w' := by
  have HBu := Lib.hid (bundle_any bd body v l w hbd hbo h hl he.p10)
  have HU0 := Lib.hid (fun w' => unbundle_bad ByteArray.empty ByteArray.empty 0 w' (by decide) (by decide))
  have HUn := Lib.hid (fun (hq : isBd bd = true) (hne : l ≠ []) (h20 : l.length ≤ 20) (hok : okL (body.size : Int) l) w' (hb : Below w.heap.size w w') => unbundle_ok bd (sl body) (body.size : Int) l w' hq hne h20 (by rw [sl_len]) hok (he.below hb) (hm.below hb))
  have HL := Lib.hid (fun w' (hb : Below w.heap.size w w') => h.below hb)
  have HV := Lib.hid h
  clear hm he
  obtain ⟨A, c, rfl, hc, -⟩ := h
  go_enter Tryd.func3, Tryd.ntmps3
  go_wp2_with fail
  refine HBu.out.mono ?_
  rintro e w1 ⟨hA, B1⟩
  rcases hA with ⟨hq, hne, h20, hok, rfl⟩ | ⟨-, k, hk, rfl⟩
  · have HU := Lib.hid (HUn.out hq hne h20 hok)
    have HOk : Hid (∀ i (h : i < l.length), conB l[i].1 l[i].2 (body.size : Int) = true) := fun i h => hok l[i] (List.getElem_mem h)
    clear hq hok HBu HUn
    generalize mkS (bunL (sl bd) (sl body) (body.size : Int) l) = S at *
    go_wp2_with fail
    refine (HU0.out _).mono ?_
    rintro e w2 ⟨⟨a2, c2, rfl⟩, b2⟩
    have B2 := belT B1 b2
    go_wp2_with fail
    refine (HU.out _ B2).mono ?_
    rintro e w3 ⟨⟨v1, v2, rfl, h1, h2⟩, b3⟩
    have B3 := belT B2 b3
    have HEq := Lib.hid (eqSlc_any _ v1 l l w3 (HL.out _ B3) h1 hl hl)
    simp only [decide_true] at HEq
    have hts : (l.map fun d => mkS (cutT (sl body) d)).length = l.length := List.length_map ..
    have HTx : Hid (∀ i (h : i < l.length) (h2 : i < (l.map fun d => mkS (cutT (sl body) d)).length), (l.map fun d => mkS (cutT (sl body) d))[i] = mkS (cutT (sl body) l[i])) := fun i h h2 => List.getElem_map ..
    generalize (l.map fun d => mkS (cutT (sl body) d)) = ts at *
    have HT2 := Lib.hid h2
    have HTl := Lib.hid hts
    obtain ⟨A2, cc2, hv2, -⟩ := h2
    subst hv2
    have htt : ((ts.length : Int) != (l.length : Int)) = false := by rw [hts]; simp
    have htn : (ts.length != l.length) = false := by rw [hts]; simp
    clear HU HU0 h1 hts hne
    go_wp2_with fail
    refine HEq.out.mono ?_
    rintro e w4 ⟨rfl, b4⟩
    have B4 := belT B3 b4
    clear HEq
    go_wp2_with fail
    go_loopw [61] (fun i wr => ∃ k : Nat, k ≤ l.length ∧ i = .int .i64 k ∧ Below w4.heap.size w4 wr) (fun i _ => l.length - (intOf i).toNat)
    case atStart => exact ⟨0, by omega, rfl, Below.refl _ _⟩
    case round =>
      obtain ⟨k, hk, rfl, hbel⟩ := hrel
      by_cases hlt : k < l.length
      · have hlt2 : k < ts.length := by have := HTl.out; omega
        obtain ⟨b, off, c', he, hbb, hcell⟩ := HV.out.two (fun _ => rfl) (by omega)
        obtain ⟨rfl, rfl⟩ : A = some ⟨b, off, none⟩ ∧ c = c' := by injection he with h1 h2 h3; exact ⟨h1, h3⟩
        obtain ⟨q0, q1⟩ := hcell k hlt (.int .i64 l[k].1) (.int .i64 l[k].2) rfl rfl
        have hBw := belT B4 hbel
        have c0 := (hBw.cell (p := ⟨b, off + k * 2, none⟩) hbb).trans q0
        have c1 := (hBw.cell (p := ⟨b, off + k * 2 + 1, none⟩) hbb).trans q1
        have hS2 := (HT2.out.below b4).below hbel
        obtain ⟨b2, off2, c2', he2, -, hbb2, hcell2⟩ := hS2.texts (by omega)
        obtain ⟨rfl, rfl⟩ : A2 = some ⟨b2, off2, none⟩ ∧ cc2 = c2' := by injection he2 with h1 h2 h3; exact ⟨h1, h3⟩
        have q2 := hcell2 k hlt2
        have htx := HTx.out k hlt hlt2
        have hin := conB_in (HOk.out k hlt)
        rw [htx] at q2
        clear hcell hcell2 q0 q1 he he2 hBw hS2 htx
        generalize l[k] = d at *
        obtain ⟨x, y⟩ := d
        dsimp only at c0 c1 hin
        obtain ⟨nx, rfl⟩ : ∃ nx : Nat, x = nx := ⟨x.toNat, by omega⟩
        obtain ⟨ny, rfl⟩ : ∃ ny : Nat, y = ny := ⟨y.toNat, by omega⟩
        have hX : body.extract nx ny = mkS (cutT (sl body) ((nx : Int), (ny : Int))) := sl_inj (by rw [sl_extract, sl_mkS]; rfl)
        generalize mkS (cutT (sl body) ((nx : Int), (ny : Int))) = X at *
        have i1 : (nx : Int) ≤ (ny : Int) := by omega
        have i2 : (ny : Int) ≤ (body.size : Int) := by omega
        have hki : (k : Int) < (ts.length : Int) := by omega
        have hxx : (X.toList == X.toList) = true := beq_self_eq_true _
        have hxn : (X.toList != X.toList) = false := by simp
        have HB0 := hbel.alloc hbel.size (.cells #[.int .i64 (nx : Int), .int .i64 (ny : Int)] 31)
        have HK := Blk.new wr 31 #[.int .i64 (nx : Int), .int .i64 (ny : Int)]
        have q3 : (wr.alloc (.cells #[.int .i64 (nx : Int), .int .i64 (ny : Int)] 31)).cell? ⟨b2, off2 + k, none⟩ = some (.string X) := (World.cell?_alloc_lt wr _ _ hbb2).trans q2
        clear q2 hin
        go_wp2_with fail
        generalize wr.alloc (.cells #[.int .i64 (nx : Int), .int .i64 (ny : Int)] 31) = wa at *
        have k0 := HK.cell 0
        have k1 := HK.cell 1
        clear c0 c1
        refine wp_region_seq [(true, 0), (true, 1), (true, 2), (true, 3), (true, 4), (true, 5), (true, 6), (true, 7), (true, 8), (true, 9), (true, 10)] (fun w' => w' = wa.drew) (by kernel_rfl) (by kernel_rfl) (fun _ _ _ _ _ h => h) (by kernel_rfl) (by kernel_rfl) ?_ ?_
        · rfl
        iterate 11 (first | (apply seqH_skip; (focus (simp only [List.getElem?_toArray, List.getElem?_cons_succ, List.getElem?_cons_zero]; rfl)); (focus rfl); simp only [Act.put, List.setIfInBounds_toArray, List.set_cons_zero, List.set_cons_succ]) | (apply seqH_take; (focus (simp only [List.getElem?_toArray, List.getElem?_cons_succ, List.getElem?_cons_zero]; rfl)); (focus rfl); (focus (intro w' hS; subst hS; first | (go_simp; rfl) | (go_simp; done))); simp only [Act.put, List.setIfInBounds_toArray, List.set_cons_zero, List.set_cons_succ]) | (apply seqH_pass; (focus (simp only [List.getElem?_toArray, List.getElem?_cons_succ, List.getElem?_cons_zero]; rfl)); (focus rfl); (focus assumption); simp only [Act.put, List.setIfInBounds_toArray, List.set_cons_zero, List.set_cons_succ]))
        refine seqH_nil ?_
        go_wp2_with fail
        go_roundw
        case rel => exact ⟨k + 1, by omega, by go_num, HB0.drew⟩
        case measure => simp [intOf]; omega
      · go_wp2_with fail
        go_ret
        exact ⟨rfl, belT B4 hbel⟩
  · clear HBu HUn
    go_wp2_with fail
    refine (HU0.out _).mono ?_
    rintro e w2 ⟨⟨a2, c2, rfl⟩, b2⟩
    go_wp2_with fail
    go_ret
    exact ⟨rfl, belT B1 b2⟩
end Spb
end Go.Proofs.YthhhlaoiampinaaDoor
