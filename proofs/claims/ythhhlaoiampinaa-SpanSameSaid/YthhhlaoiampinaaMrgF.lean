/- SpanSame: the law's walk. -/
import Derived.Test.YthhhlaoiampinaaMrgE
namespace Go.Proofs.Ythhhlaoiampinaa
set_option maxRecDepth 20000
open Go.RowKit
namespace Mrg
theorem inL_take (l : List (Int × Int)) (k : Nat) (x : Int) (h : k < l.length) : inL (l.take (k + 1)) x = (inL (l.take k) x || hitB l[k] x) := by
  rw [List.take_add_one, List.getElem?_eq_getElem h]
  show inL (l.take k ++ [l[k]]) x = _
  rw [inL_app, inL_one]
theorem inL_hit {l : List (Int × Int)} {k : Nat} {x : Int} (h : k < l.length) (hx : hitB l[k] x = true) : inL l x = true := by
  unfold inL; rw [List.any_eq_true]; exact ⟨l[k], List.getElem_mem h, hx⟩
set_option maxHeartbeats 800000 in
theorem inside_any (v : Value) (l : List (Int × Int)) (x : Int) (w : World) (h : SlR w e_ii v l) (hl : l.length ≤ 140737488351232) :
    Calls Try.prog 9 #[v, .int .i64 x] w fun e w' => e = .returned (.bool (inL l x)) ∧ Below w.heap.size w w' := by
  have HR := Lib.hid h
  obtain ⟨A, c, rfl, hc, -⟩ := h
  go_enter Try.func9, Try.ntmps9
  go_wp2_with fail
  go_loopw [9] (fun i wr => ∃ k : Nat, k ≤ l.length ∧ i = .int .i64 k ∧ inL (l.take k) x = false ∧ Below w.heap.size w wr) (fun i _ => l.length - (intOf i).toNat)
  case atStart => exact ⟨0, by omega, rfl, rfl, Below.refl _ _⟩
  case round =>
    obtain ⟨k, hk, rfl, hN, hbel⟩ := hrel
    have HN := Lib.hid hN
    clear hN
    by_cases hlt : k < l.length
    · obtain ⟨b, off, c', he, hbb, hcell⟩ := HR.out.two (fun _ => rfl) (by omega)
      obtain ⟨rfl, rfl⟩ : A = some ⟨b, off, none⟩ ∧ c = c' := by injection he with h1 h2 h3; exact ⟨h1, h3⟩
      obtain ⟨q0, q1⟩ := hcell k hlt (.int .i64 l[k].1) (.int .i64 l[k].2) rfl rfl
      have c0 := (hbel.cell (p := ⟨b, off + k * 2, none⟩) hbb).trans q0
      have c1 := (hbel.cell (p := ⟨b, off + k * 2 + 1, none⟩) hbb).trans q1
      have HT := Lib.hid (inL_take l k x hlt)
      have HH := Lib.hid (fun hx => inL_hit (x := x) hlt hx)
      clear hcell q0 q1 he
      generalize l[k] = s at *
      obtain ⟨f, t⟩ := s
      dsimp only at c0 c1
      have HB0 := hbel.alloc hbel.size (.cells #[.int .i64 f, .int .i64 t] 26)
      cases hf : decide (f ≤ x)
      · have hq : hitB (f, t) x = false := by unfold hitB; rw [hf]; rfl
        have HQ : Hid (inL (l.take (k + 1)) x = false) := by show _ = _; rw [HT.out, HN.out, hq]; rfl
        clear hq
        go_wp2_with fail
        go_roundw
        case rel => exact ⟨k + 1, by omega, by go_num, HQ.out, HB0⟩
        case measure => simp [intOf]; omega
      · cases ht : decide (x < t)
        · have hq : hitB (f, t) x = false := by unfold hitB; rw [hf, ht]; rfl
          have HQ : Hid (inL (l.take (k + 1)) x = false) := by show _ = _; rw [HT.out, HN.out, hq]; rfl
          clear hq
          go_wp2_with fail
          go_roundw
          case rel => exact ⟨k + 1, by omega, by go_num, HQ.out, HB0⟩
          case measure => simp [intOf]; omega
        · have HQ : Hid (inL l x = true) := HH.out (by unfold hitB; rw [hf, ht]; rfl)
          go_wp2_with fail
          go_ret
          exact ⟨by rw [HQ.out]; rfl, HB0⟩
    · have HQ : Hid (inL l x = false) := by show _ = _; have := HN.out; rwa [List.take_of_length_le (by omega)] at this
      go_wp2_with fail
      go_ret
      exact ⟨by rw [HQ.out]; rfl, hbel⟩
theorem sep_at {m : List (Int × Int)} (h : Sep m) {k : Nat} (hk : k < m.length) : m[k].1 < m[k].2 ∧ ∀ j (hj : j + 1 = k), (m[j]'(by omega)).2 < m[k].1 :=
  ⟨h.1 _ (List.getElem_mem hk), fun j hj => (List.pairwise_iff_getElem.1 h.2) j k (by omega) hk (by omega)⟩
set_option maxHeartbeats 2000000 in
theorem spanSame_walk (v : Value) (l : List (Int × Int)) (x : Int) (w : World) (h : SlR w e_ii v l) (hl : l.length * 16 ≤ 140737488351232) :
    Calls Try.prog 3 #[v, .int .i64 x] w fun e w' => e = .returned (.bool true) ∧ Below w.heap.size w w' := by
  have HV := Lib.hid (fun w' (hb : Below w.heap.size w w') => h.below hb)
  have HMg := Lib.hid (merge_any v l w h (by omega))
  have hll : l.length ≤ 140737488351232 := by omega
  have HVf := Lib.hid h
  obtain ⟨A, c, rfl, hc, -⟩ := h
  go_enter Try.func3, Try.ntmps3
  go_wp2_with fail
  refine HMg.out.mono ?_
  rintro e w1 ⟨⟨u, m, rfl, o1, mm⟩, B1⟩
  have HS := Lib.hid mm
  have HM1 := Lib.hid (SlR.of_owns o1)
  have hml : m.length ≤ 140737488351232 := by have := mm.2.2; omega
  have hmle : m.length ≤ l.length := mm.2.2
  obtain ⟨A1, c1, hv⟩ := o1.slice
  subst hv
  clear o1 mm HMg
  have hlit := SlR.lit (enc := e_ii) w1 [.int .i64 3, .int .i64 5, .int .i64 1, .int .i64 3] 26 [(3, 5), (1, 3)] rfl
  have hbl : Below w1.heap.size w1 (w1.alloc (.cells #[.int .i64 3, .int .i64 5, .int .i64 1, .int .i64 3] 26)) := (Below.refl _ _).alloc (Nat.le_refl _) _
  have HLit := Lib.hid hlit
  clear hlit
  go_wp2_with fail
  refine (mergeR_any _ [(3, 5), (1, 3)] _ HLit.out (by decide)).mono ?_
  rintro e w2 ⟨⟨d, ld, rfl, od, md, zd⟩, b2⟩
  obtain rfl : ld = [(1, 5)] := merged_known md
  have b2' : Below w1.heap.size w1 w2 := belT hbl b2
  have hl2 := SlR.lit (enc := e_ii) w2 [.int .i64 1, .int .i64 5] 26 [(1, 5)] rfl
  have hb3 := b2'.alloc b2'.size (.cells #[.int .i64 1, .int .i64 5] 26)
  have HEq := Lib.hid (eqSlc_any d _ [(1, 5)] [(1, 5)] _ ((SlR.of_owns od).alloc (.cells #[.int .i64 1, .int .i64 5] 26)) hl2 (by decide) (by decide))
  simp only [decide_true] at HEq
  clear hbl HLit od md zd b2 b2' hl2
  go_wp2_with fail
  refine HEq.out.mono ?_
  rintro e w4 ⟨rfl, b4⟩
  have b14 := belT hb3 b4
  have B4 := belT B1 b14
  have HM4 := Lib.hid (HM1.out.below b14)
  clear hb3 b4 HEq
  go_wp2_with fail
  go_loopw [24] (fun i wr => ∃ k : Nat, k ≤ m.length ∧ i = .int .i64 k ∧ Below w4.heap.size w4 wr) (fun i _ => m.length - (intOf i).toNat)
  case atStart => exact ⟨0, by omega, rfl, Below.refl _ _⟩
  case round =>
    obtain ⟨k, hk, rfl, hbel⟩ := hrel
    by_cases hlt : k < m.length
    · obtain ⟨b, off, c', he, hbb, hcell⟩ := HM4.out.two (fun _ => rfl) (by omega)
      obtain ⟨rfl, rfl⟩ : A1 = some ⟨b, off, none⟩ ∧ c1 = c' := by injection he with h1 h2 h3; exact ⟨h1, h3⟩
      have hsep := sep_at HS.out.1 hlt
      obtain ⟨q0, q1⟩ := hcell k hlt (.int .i64 m[k].1) (.int .i64 m[k].2) rfl rfl
      have c0 := (hbel.cell (p := ⟨b, off + k * 2, none⟩) hbb).trans q0
      have c1 := (hbel.cell (p := ⟨b, off + k * 2 + 1, none⟩) hbb).trans q1
      clear q0 q1 he
      rcases Nat.eq_zero_or_pos k with rfl | hk0
      · clear hcell
        rw [Nat.zero_mul, Nat.add_zero] at c0 c1
        generalize m[0] = s at *
        obtain ⟨f, t⟩ := s
        dsimp only at c0 c1 hsep
        have hd1 : decide (t ≤ f) = false := by rw [decide_eq_false_iff_not]; omega
        have HB0 := hbel.alloc hbel.size (.cells #[.int .i64 f, .int .i64 t] 26)
        have HK := Blk.new wr 26 #[.int .i64 f, .int .i64 t]
        clear hsep
        go_wp2_with fail
        generalize wr.alloc (.cells #[.int .i64 f, .int .i64 t] 26) = wa at *
        have k0 := HK.cell 0
        have k1 := HK.cell 1
        refine wp_region_seq [(true, 0), (true, 1), (true, 2), (true, 3), (true, 4), (true, 5), (true, 6), (true, 7), (true, 8), (true, 9), (true, 10), (true, 11), (true, 12), (true, 13), (true, 14), (true, 15), (true, 16), (true, 17), (true, 18), (true, 19)] (fun w' => w' = wa.drew) (by kernel_rfl) (by kernel_rfl) (fun _ _ _ _ _ h => h) (by kernel_rfl) (by kernel_rfl) ?_ ?_
        · rfl
        iterate 20 (first | (apply seqH_skip; (focus (simp only [List.getElem?_toArray, List.getElem?_cons_succ, List.getElem?_cons_zero]; rfl)); (focus rfl); simp only [Act.put, List.setIfInBounds_toArray, List.set_cons_zero, List.set_cons_succ]) | (apply seqH_take; (focus (simp only [List.getElem?_toArray, List.getElem?_cons_succ, List.getElem?_cons_zero]; rfl)); (focus rfl); (focus (intro w' hS; subst hS; first | (go_simp; rfl) | (go_simp; done))); simp only [Act.put, List.setIfInBounds_toArray, List.set_cons_zero, List.set_cons_succ]) | (apply seqH_pass; (focus (simp only [List.getElem?_toArray, List.getElem?_cons_succ, List.getElem?_cons_zero]; rfl)); (focus rfl); (focus assumption); simp only [Act.put, List.setIfInBounds_toArray, List.set_cons_zero, List.set_cons_succ]))
        refine seqH_nil ?_
        go_wp2_with fail
        go_roundw
        case rel => exact ⟨1, by omega, rfl, HB0.drew⟩
        case measure => simp [intOf]; omega
      · obtain ⟨j, rfl⟩ : ∃ j, k = j + 1 := ⟨k - 1, by omega⟩
        have hs2 := hsep.2 j rfl
        have hs1 := hsep.1
        obtain ⟨q0, q1⟩ := hcell j (by omega) (.int .i64 m[j].1) (.int .i64 m[j].2) rfl rfl
        have e1 := (hbel.cell (p := ⟨b, off + j * 2 + 1, none⟩) hbb).trans q1
        clear hcell q0 q1 hsep
        generalize m[j + 1] = s at *
        generalize m[j].2 = pt at *
        obtain ⟨f, t⟩ := s
        dsimp only at c0 c1 hs1 hs2
        have hd1 : decide (t ≤ f) = false := by rw [decide_eq_false_iff_not]; omega
        have hd2 : decide (f ≤ pt) = false := by rw [decide_eq_false_iff_not]; omega
        have hd3 : decide ((0 : Int) < (j : Int) + 1) = true := by rw [decide_eq_true_iff]; omega
        have hw1 : IntKind.i64.wrap ((j : Int) + 1 - 1) = (j : Int) := by rw [IntWalk.i64_in _ (by omega)]; omega
        have hw0 : IntKind.i64.wrap (j : Int) = (j : Int) := IntWalk.i64_in _ (by omega)
        have hjl : (j : Int) < (m.length : Int) := by omega
        have HB0 := hbel.alloc hbel.size (.cells #[.int .i64 f, .int .i64 t] 26)
        have HK := Blk.new wr 26 #[.int .i64 f, .int .i64 t]
        have e1a : (wr.alloc (.cells #[.int .i64 f, .int .i64 t] 26)).cell? ⟨b, off + j * 2 + 1, none⟩ = some (.int .i64 pt) := (World.cell?_alloc_lt wr _ _ (by have := hbel.size; show b < wr.heap.size; omega)).trans e1
        clear hs1 hs2 e1
        go_wp2_with fail
        generalize wr.alloc (.cells #[.int .i64 f, .int .i64 t] 26) = wa at *
        have k0 := HK.cell 0
        have k1 := HK.cell 1
        refine wp_region_seq [(true, 0), (true, 1), (true, 2), (true, 3), (true, 4), (true, 5), (true, 6), (true, 7), (true, 8), (true, 9), (true, 10), (true, 11), (true, 12), (true, 13), (true, 14), (true, 15), (true, 16), (true, 17), (true, 18), (true, 19)] (fun w' => w' = wa.drew) (by kernel_rfl) (by kernel_rfl) (fun _ _ _ _ _ h => h) (by kernel_rfl) (by kernel_rfl) ?_ ?_
        · rfl
        iterate 20 (first | (apply seqH_skip; (focus (simp only [List.getElem?_toArray, List.getElem?_cons_succ, List.getElem?_cons_zero]; rfl)); (focus rfl); simp only [Act.put, List.setIfInBounds_toArray, List.set_cons_zero, List.set_cons_succ]) | (apply seqH_take; (focus (simp only [List.getElem?_toArray, List.getElem?_cons_succ, List.getElem?_cons_zero]; rfl)); (focus rfl); (focus (intro w' hS; subst hS; first | (go_simp; rfl) | (go_simp; done))); simp only [Act.put, List.setIfInBounds_toArray, List.set_cons_zero, List.set_cons_succ]) | (apply seqH_pass; (focus (simp only [List.getElem?_toArray, List.getElem?_cons_succ, List.getElem?_cons_zero]; rfl)); (focus rfl); (focus assumption); simp only [Act.put, List.setIfInBounds_toArray, List.set_cons_zero, List.set_cons_succ]))
        refine seqH_nil ?_
        go_wp2_with fail
        go_roundw
        case rel => exact ⟨j + 2, by omega, by go_num, HB0.drew⟩
        case measure => simp [intOf]; omega
    · have HVi := Lib.hid (fun y w' (hb : Below w4.heap.size w4 w') => inside_any _ l y w' (HV.out w' (belT B4 hb)) hll)
      have HMi := Lib.hid (fun y w' (hb : Below w4.heap.size w4 w') => inside_any _ m y w' (HM4.out.below hb) hml)
      have HIn := Lib.hid HS.out.2.1
      go_wp2_with fail
      clear hlt
      go_loopw [52] (fun i wr => ∃ k : Nat, k ≤ l.length ∧ i = .int .i64 k ∧ Below w4.heap.size w4 wr) (fun i _ => l.length - (intOf i).toNat)
      case atStart => exact ⟨0, by omega, rfl, hbel⟩
      case round =>
        rename_i hbel0
        obtain ⟨k, hk, rfl, hbel⟩ := hrel
        by_cases hlt : k < l.length
        · obtain ⟨b, off, c', he, hbb, hcell⟩ := HVf.out.two (fun _ => rfl) (by omega)
          obtain ⟨rfl, rfl⟩ : A = some ⟨b, off, none⟩ ∧ c = c' := by injection he with h1 h2 h3; exact ⟨h1, h3⟩
          obtain ⟨q0, q1⟩ := hcell k hlt (.int .i64 l[k].1) (.int .i64 l[k].2) rfl rfl
          have hBw := belT B4 hbel
          have c0 := (hBw.cell (p := ⟨b, off + k * 2, none⟩) hbb).trans q0
          have c1 := (hBw.cell (p := ⟨b, off + k * 2 + 1, none⟩) hbb).trans q1
          clear hcell q0 q1 he hBw
          generalize l[k] = s at *
          obtain ⟨f, t⟩ := s
          dsimp only at c0 c1
          have HB0 := hbel.alloc hbel.size (.cells #[.int .i64 f, .int .i64 t] 26)
          have HK := Blk.new wr 26 #[.int .i64 f, .int .i64 t]
          go_wp2_with fail
          have hC := Blk.new (wr.alloc (.cells #[.int .i64 f, .int .i64 t] 26)) 3 #[.int .i64 f, .int .i64 t, .int .i64 x]
          rw [World.size_alloc] at hC
          have HB1 := HB0.alloc HB0.size (.cells #[.int .i64 f, .int .i64 t, .int .i64 x] 3)
          clear HB0 HK c0 c1 hbel hbel0
          generalize (wr.alloc (.cells #[.int .i64 f, .int .i64 t] 26)).alloc (.cells #[.int .i64 f, .int .i64 t, .int .i64 x] 3) = wb at *
          obtain ⟨B0, hB0⟩ : ∃ B0, B0 = wr.heap.size + 1 := ⟨_, rfl⟩
          rw [← hB0] at hC ⊢
          clear hB0
          go_loopw [63] (fun i w5 => ∃ j : Nat, j ≤ 3 ∧ i = .int .i64 j ∧ Below wb.heap.size wb w5) (fun i _ => 3 - (intOf i).toNat)
          case atStart => exact ⟨0, by omega, rfl, Below.refl _ _⟩
          case round =>
            obtain ⟨j, hj, rfl, hb5⟩ := hrel
            have hjc : j = 0 ∨ j = 1 ∨ j = 2 ∨ j = 3 := by omega
            rcases hjc with rfl | rfl | rfl | rfl
            · have cc := (hb5.cell (p := ⟨B0, 0, none⟩) hC.lt).trans (hC.cell 0)
              go_wp2_with fail
              refine (HVi.out f _ (belT HB1 hb5)).mono ?_
              rintro e w6 ⟨rfl, b6⟩
              have b56 := belT hb5 b6
              clear cc
              go_wp2_with fail
              refine (HMi.out f _ (belT HB1 b56)).mono ?_
              rintro e w7 ⟨rfl, b7⟩
              rw [HIn.out f]
              have b57 := belT b56 b7
              generalize inL l f = q at *
              have hqq : (q != q) = false := by cases q <;> rfl
              go_wp2_with fail
              go_roundw
              case rel => exact ⟨0 + 1, by omega, rfl, b57⟩
              case measure => simp [intOf]
            · have cc := (hb5.cell (p := ⟨B0, 1, none⟩) hC.lt).trans (hC.cell 1)
              go_wp2_with fail
              refine (HVi.out t _ (belT HB1 hb5)).mono ?_
              rintro e w6 ⟨rfl, b6⟩
              have b56 := belT hb5 b6
              clear cc
              go_wp2_with fail
              refine (HMi.out t _ (belT HB1 b56)).mono ?_
              rintro e w7 ⟨rfl, b7⟩
              rw [HIn.out t]
              have b57 := belT b56 b7
              generalize inL l t = q at *
              have hqq : (q != q) = false := by cases q <;> rfl
              go_wp2_with fail
              go_roundw
              case rel => exact ⟨1 + 1, by omega, rfl, b57⟩
              case measure => simp [intOf]
            · have cc := (hb5.cell (p := ⟨B0, 2, none⟩) hC.lt).trans (hC.cell 2)
              go_wp2_with fail
              refine (HVi.out x _ (belT HB1 hb5)).mono ?_
              rintro e w6 ⟨rfl, b6⟩
              have b56 := belT hb5 b6
              clear cc
              go_wp2_with fail
              refine (HMi.out x _ (belT HB1 b56)).mono ?_
              rintro e w7 ⟨rfl, b7⟩
              rw [HIn.out x]
              have b57 := belT b56 b7
              generalize inL l x = q at *
              have hqq : (q != q) = false := by cases q <;> rfl
              go_wp2_with fail
              go_roundw
              case rel => exact ⟨2 + 1, by omega, rfl, b57⟩
              case measure => simp [intOf]
            · go_wp2_with fail
              go_roundw
              case rel => exact ⟨k + 1, by omega, by go_num, belT HB1 hb5⟩
              case measure => simp [intOf]; omega
        · have hdm : decide ((m.length : Int) ≤ (l.length : Int)) = true := by rw [decide_eq_true_iff]; omega
          go_wp2_with fail
          refine (HVi.out x _ hbel).mono ?_
          rintro e w6 ⟨rfl, b6⟩
          have b56 := belT hbel b6
          go_wp2_with fail
          refine (HMi.out x _ b56).mono ?_
          rintro e w7 ⟨rfl, b7⟩
          rw [HIn.out x]
          have b57 := belT b56 b7
          generalize inL l x = q at *
          have hqq : (q == q) = true := by cases q <;> rfl
          go_wp2_with fail
          go_ret
          exact ⟨rfl, belT B4 b57⟩
end Mrg
end Go.Proofs.Ythhhlaoiampinaa
