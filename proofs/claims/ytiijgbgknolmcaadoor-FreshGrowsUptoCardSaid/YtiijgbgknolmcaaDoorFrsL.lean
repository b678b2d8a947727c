/- FreshGrows, FreshLater and FreshStale: the laws' walks. -/
import Derived.Test.YtiijgbgknolmcaaDoorFrs
import Derived.Test.YtiijgbgknolmcaaDoorRest
import Derived.Laws.Runes
namespace Go.Proofs.YtiijgbgknolmcaaDoor
set_option maxRecDepth 20000
open Go.RowKit
abbrev HasMax := HasMaxL
open Fr
theorem wt_le {l : List Fld} (h : (l.map (fun d => d.1.size + d.2.size + 2)).sum ≤ 1048576) : wt l ≤ 4398046511104 := by
  have : wt l ≤ 1048576 := h
  omega
theorem rest_40 (n : Int) : 0 ≤ n % 1099511627776 ∧ n % 1099511627776 ≤ 1099511627775 := by omega
theorem rest_31 (n : Int) : 0 ≤ n % 2147483648 ∧ n % 2147483648 ≤ 2147483647 := by omega
set_option maxHeartbeats 12800000 in
theorem freshGrows_walk (x : Hd) (u : Value) (l : List Fld) (now0 n0 : Int) (w : World) (h : SlR w e_ss u l) (hs : (l.map (fun d => d.1.size + d.2.size + 2)).sum ≤ 1048576) (hc : (Lit.int .i64 x.code).wf = true) (ha : (Lit.int .i64 x.asked).wf = true) (hca : (Lit.int .i64 x.came).wf = true) (hnow : (Lit.int .i64 now0).wf = true) (hn : (Lit.int .i64 n0).wf = true) (hmax : HasMax w) (hp10 : HasP10 w) :
    Calls Tryd.prog 8 #[hv x u, .int .i64 now0, .int .i64 n0] w fun e w' => e = .returned (.bool true) ∧ Below w.heap.size w w' := by
  obtain ⟨D, hD⟩ := isDate_ex
  have hL : LOk w u l := ⟨h, wt_le hs⟩
  have b0 : Below w.heap.size w (hA w x u) := (Below.refl _ _).alloc (Nat.le_refl _) _
  obtain ⟨hw1, hw2⟩ := rest_40 now0
  obtain ⟨hn1, hn2⟩ := rest_31 n0
  have HR1 := Lib.hid (fun w => rest_any now0 1099511627776 w (wide_of hnow) (by omega))
  have HR2 := Lib.hid (fun w => rest_any n0 2147483648 w (wide_of hn) (by omega))
  have HH := Lib.hid (HB.new w x u)
  generalize now0 % 1099511627776 = now at *
  generalize n0 % 2147483648 = n at *
  have HG := Lib.hid (grows hD l x.came x.asked now n hw1 hn1)
  have HA1 := Lib.hid (fun w' (hb : Below (hA w x u).heap.size (hA w x u) w') => age_any D hD x u l now w' (hL.below (b0.trans (hb.mono b0.size))) (hp10.below rfl (b0.trans (hb.mono b0.size))) (hmax.below rfl (b0.trans (hb.mono b0.size))))
  have HA2 := Lib.hid (fun w' (hb : Below (hA w x u).heap.size (hA w x u) w') => age_any D hD x u l (now + n) w' (hL.below (b0.trans (hb.mono b0.size))) (hp10.below rfl (b0.trans (hb.mono b0.size))) (hmax.below rfl (b0.trans (hb.mono b0.size))))
  have hwr : IntKind.i64.wrap (now + n) = now + n := wrap_small _ (by omega) (by omega)
  have HAN := Lib.hid (fun w' (hb : Below w.heap.size w w') => anchored_any w' (hp10.below rfl hb) (hmax.below rfl hb))
  clear h hs hc ha hca hnow hn hL hmax hp10
  obtain ⟨g1, g2, g3, g4, g5⟩ := HG.out
  unfold isTime at g5
  clear HG
  generalize ageF D l x.came x.asked now = a at *
  generalize ageF D l x.came x.asked (now + n) = b at *
  obtain ⟨rm, rt, rf, rb, code, rs, bd, asked, came, mark⟩ := x
  unfold hv at *
  unfold hA at *
  dsimp only at *
  go_enter Tryd.func8, Tryd.ntmps8
  go_wp2_with fail
  refine (HR1.out _).mono ?_
  rintro e w' ⟨rfl, rfl⟩
  go_wp2_with fail
  refine (HR2.out _).mono ?_
  rintro e w' ⟨rfl, rfl⟩
  go_wp2_with fail
  have HX := Lib.hid (fun w' (hb : Below (w.alloc (.cells #[.string rm, .string rt, rf, .string rb, .int .i64 code, .string rs, u, .string bd, .int .i64 asked, .int .i64 came, .int .i64 mark] 44)).heap.size (w.alloc (.cells #[.string rm, .string rt, rf, .string rb, .int .i64 code, .string rs, u, .string bd, .int .i64 asked, .int .i64 came, .int .i64 mark] 44)) w') => HH.out.below hb)
  clear HH HR1 HR2
  refine wp_region_seq [(true, 0), (true, 1), (true, 3), (true, 4), (true, 5), (true, 6), (false, 2), (false, 7), (true, 8), (true, 9)] (fun w' => Below (w.alloc (.cells #[.string rm, .string rt, rf, .string rb, .int .i64 code, .string rs, u, .string bd, .int .i64 asked, .int .i64 came, .int .i64 mark] 44)).heap.size (w.alloc (.cells #[.string rm, .string rt, rf, .string rb, .int .i64 code, .string rs, u, .string bd, .int .i64 asked, .int .i64 came, .int .i64 mark] 44)) w') (by kernel_rfl) (by kernel_rfl) (fun _ _ _ _ _ h => h) (by kernel_rfl) (by kernel_rfl) (by first | exact (Below.refl _ _).drew | exact Below.drew (by assumption)) ?_
  have bS : Below (w.alloc (.cells #[.string rm, .string rt, rf, .string rb, .int .i64 code, .string rs, u, .string bd, .int .i64 asked, .int .i64 came, .int .i64 mark] 44)).heap.size (w.alloc (.cells #[.string rm, .string rt, rf, .string rb, .int .i64 code, .string rs, u, .string bd, .int .i64 asked, .int .i64 came, .int .i64 mark] 44)) _ := (by first | exact Below.drew (by assumption) | exact (Below.refl _ (w.alloc (.cells #[.string rm, .string rt, rf, .string rb, .int .i64 code, .string rs, u, .string bd, .int .i64 asked, .int .i64 came, .int .i64 mark] 44))).drew)
  iterate 10 (first
    | (apply seqH_skip; (focus (simp only [List.getElem?_toArray, List.getElem?_cons_succ, List.getElem?_cons_zero]; rfl)); (focus rfl); simp only [Act.put, List.setIfInBounds_toArray, List.set_cons_zero, List.set_cons_succ])
    | (apply seqH_take; (focus (simp only [List.getElem?_toArray, List.getElem?_cons_succ, List.getElem?_cons_zero]; rfl)); (focus rfl); (focus (intro w' hS; obtain ⟨hl, x0, x1, x2, x3, x4, x5, x6, x7, x8, x9, x10⟩ := HX.out _ hS; dsimp only at x0 x1 x2 x3 x4 x5 x6 x7 x8 x9 x10; first | (go_simp; rfl) | (go_simp; done))); simp only [Act.put, List.setIfInBounds_toArray, List.set_cons_zero, List.set_cons_succ])
    | (apply seqH_pass; (focus (simp only [List.getElem?_toArray, List.getElem?_cons_succ, List.getElem?_cons_zero]; rfl)); (focus rfl); (focus assumption); simp only [Act.put, List.setIfInBounds_toArray, List.set_cons_zero, List.set_cons_succ])
    | (apply seqH_eff; (focus (simp only [List.getElem?_toArray, List.getElem?_cons_succ, List.getElem?_cons_zero]; rfl)); (focus rfl); intro K hK; go_simp; (go_at_call 19; (first | (with_reducible refine (HA1.out _ (by assumption)).mono ?_) | (with_reducible refine (HA2.out _ (by assumption)).mono ?_))); rintro e wN ⟨rfl, bN⟩; refine hK _ _ (seq_next (by assumption) bN (fun bS' => ?_)); clear hK K))
  refine seqH_nil ?_
  have bR : Below (w.alloc (.cells #[.string rm, .string rt, rf, .string rb, .int .i64 code, .string rs, u, .string bd, .int .i64 asked, .int .i64 came, .int .i64 mark] 44)).heap.size (w.alloc (.cells #[.string rm, .string rt, rf, .string rb, .int .i64 code, .string rs, u, .string bd, .int .i64 asked, .int .i64 came, .int .i64 mark] 44)) wN := by assumption
  have B1 := b0.trans (bR.mono b0.size)
  have HHr := Lib.hid (HX.out _ bR)
  clear HX HA1 HA2 bR
  go_wp2_with fail
  refine (HAN.out _ B1).mono ?_
  rintro e w2 ⟨rfl, b2⟩
  have B2 := belT B1 b2
  obtain ⟨hl, x0, x1, x2, x3, x4, x5, x6, x7, x8, x9, x10⟩ := HHr.out.below b2
  dsimp only at x0 x1 x2 x3 x4 x5 x6 x7 x8 x9 x10
  have d1 : decide (a < 0) = false := decide_eq_false (by omega)
  have d2 : decide (b < a) = false := decide_eq_false (by omega)
  have d3 : decide (a + n < b) = false := decide_eq_false (by omega)
  have d4 : decide (2147483648 < b) = false := decide_eq_false (by omega)
  by_cases c1 : now < min (max came 0) 253402300799
  · have d5 : decide (now < min (max came 0) 253402300799) = true := decide_eq_true c1
    clear c1 g5
    go_wp2_with fail
    go_ret
    exact ⟨rfl, B2⟩
  · have d5 : decide (now < min (max came 0) 253402300799) = false := decide_eq_false c1
    by_cases c2 : 253402300799 < now + n
    · have d6 : decide (253402300799 < now + n) = true := decide_eq_true c2
      clear c1 c2 g5
      go_wp2_with fail
      go_ret
      exact ⟨rfl, B2⟩
    · have d6 : decide (253402300799 < now + n) = false := decide_eq_false c2
      have c3 : b = min (a + n) 2147483648 := by omega
      have d7 : (b == min (a + n) 2147483648) = true := by rw [beq_iff_eq]; exact c3
      clear c1 c2 c3 g5
      go_wp2_with fail
      go_ret
      exact ⟨rfl, B2⟩
end Go.Proofs.YtiijgbgknolmcaaDoor
