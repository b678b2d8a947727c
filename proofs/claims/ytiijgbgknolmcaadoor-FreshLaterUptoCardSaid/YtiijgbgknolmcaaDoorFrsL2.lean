/- FreshLater: the law's walk. -/
import Derived.Test.YtiijgbgknolmcaaDoorFrsL
namespace Go.Proofs.YtiijgbgknolmcaaDoor
set_option maxRecDepth 20000
open Go.RowKit
open Fr
set_option maxHeartbeats 12800000 in
theorem freshLater_walk (v0 : Value) (l0 : List Fld) (x : Hd) (u : Value) (l : List Fld) (now0 n0 : Int) (w : World) (h0 : SlR w e_ss v0 l0) (hs0 : (l0.map (fun d => d.1.size + d.2.size + 2)).sum ≤ 1048576) (h : SlR w e_ss u l) (hs : (l.map (fun d => d.1.size + d.2.size + 2)).sum ≤ 1048576) (hc : (Lit.int .i64 x.code).wf = true) (ha : (Lit.int .i64 x.asked).wf = true) (hca : (Lit.int .i64 x.came).wf = true) (hnow : (Lit.int .i64 now0).wf = true) (hn : (Lit.int .i64 n0).wf = true) (hmax : HasMax w) (hp10 : HasP10 w) :
    Calls Tryd.prog 9 #[v0, hv x u, .int .i64 now0, .int .i64 n0] w fun e w' => e = .returned (.bool true) ∧ Below w.heap.size w w' := by
  obtain ⟨D, hD⟩ := isDate_ex
  have hL : LOk w u l := ⟨h, wt_le hs⟩
  have hL0 : LOk w v0 l0 := ⟨h0, wt_le hs0⟩
  have b0 : Below w.heap.size w (hA w x u) := (Below.refl _ _).alloc (Nat.le_refl _) _
  obtain ⟨hw1, hw2⟩ := rest_40 now0
  obtain ⟨hn1, hn2⟩ := rest_40 n0
  have HR1 := Lib.hid (fun w => rest_any now0 1099511627776 w (wide_of hnow) (by omega))
  have HR2 := Lib.hid (fun w => rest_any n0 1099511627776 w (wide_of hn) (by omega))
  have HH := Lib.hid (HB.new w x u)
  generalize now0 % 1099511627776 = now at *
  generalize n0 % 1099511627776 = n at *
  have hmono := age_mono D l x.came x.asked now n hn1
  have hlat := later (dirsF l0) (dirsF l) (lifeF D l x.code x.came) _ _ hmono
  have hin := useF_in (dirsF l0) (dirsF l) (lifeF D l x.code x.came) (ageF D l x.came x.asked now)
  have hli := lifeF_in D l x.code x.came
  have HA1 := Lib.hid (fun w' (hb : Below (hA w x u).heap.size (hA w x u) w') => use_any D hD v0 l0 x u l now w' (hL0.below (b0.trans (hb.mono b0.size))) (hL.below (b0.trans (hb.mono b0.size))) (hp10.below rfl (b0.trans (hb.mono b0.size))) (hmax.below rfl (b0.trans (hb.mono b0.size))))
  have HA2 := Lib.hid (fun w' (hb : Below (hA w x u).heap.size (hA w x u) w') => use_any D hD v0 l0 x u l (now + n) w' (hL0.below (b0.trans (hb.mono b0.size))) (hL.below (b0.trans (hb.mono b0.size))) (hp10.below rfl (b0.trans (hb.mono b0.size))) (hmax.below rfl (b0.trans (hb.mono b0.size))))
  have HLI := Lib.hid (fun w' (hb : Below w.heap.size w w') => life_any D hD x u l w' (hL.below hb) (hp10.below rfl hb) (hmax.below rfl hb))
  have hwr : IntKind.i64.wrap (now + n) = now + n := wrap_small _ (by omega) (by omega)
  have HAN := Lib.hid (fun w' (hb : Below w.heap.size w w') => anchored_any w' (hp10.below rfl hb) (hmax.below rfl hb))
  clear h hs hc ha hca hnow hn hL hmax hp10 h0 hs0 hL0 hmono
  generalize useF (dirsF l0) (dirsF l) (lifeF D l x.code x.came) (ageF D l x.came x.asked now) = a at *
  generalize useF (dirsF l0) (dirsF l) (lifeF D l x.code x.came) (ageF D l x.came x.asked (now + n)) = b at *
  generalize lifeF D l x.code x.came = li at *
  obtain ⟨rm, rt, rf, rb, code, rs, bd, asked, came, mark⟩ := x
  unfold hv at *
  unfold hA at *
  dsimp only at *
  go_enter Tryd.func9, Tryd.ntmps9
  go_wp2_with fail
  refine (HR1.out _).mono ?_
  rintro e w' ⟨rfl, rfl⟩
  go_wp2_with fail
  refine (HR2.out _).mono ?_
  rintro e w' ⟨rfl, rfl⟩
  go_wp2_with fail
  have HX := Lib.hid (fun w' (hb : Below (w.alloc (.cells #[.string rm, .string rt, rf, .string rb, .int .i64 code, .string rs, u, .string bd, .int .i64 asked, .int .i64 came, .int .i64 mark] 44)).heap.size (w.alloc (.cells #[.string rm, .string rt, rf, .string rb, .int .i64 code, .string rs, u, .string bd, .int .i64 asked, .int .i64 came, .int .i64 mark] 44)) w') => HH.out.below hb)
  clear HH HR1 HR2
  refine wp_region_seq [(true, 0), (true, 1), (true, 2), (true, 4), (true, 5), (true, 6), (true, 7), (true, 8), (false, 3), (false, 9), (true, 10), (true, 11)] (fun w' => Below (w.alloc (.cells #[.string rm, .string rt, rf, .string rb, .int .i64 code, .string rs, u, .string bd, .int .i64 asked, .int .i64 came, .int .i64 mark] 44)).heap.size (w.alloc (.cells #[.string rm, .string rt, rf, .string rb, .int .i64 code, .string rs, u, .string bd, .int .i64 asked, .int .i64 came, .int .i64 mark] 44)) w') (by kernel_rfl) (by kernel_rfl) (fun _ _ _ _ _ h => h) (by kernel_rfl) (by kernel_rfl) (by first | exact (Below.refl _ _).drew | exact Below.drew (by assumption)) ?_
  have bS : Below (w.alloc (.cells #[.string rm, .string rt, rf, .string rb, .int .i64 code, .string rs, u, .string bd, .int .i64 asked, .int .i64 came, .int .i64 mark] 44)).heap.size (w.alloc (.cells #[.string rm, .string rt, rf, .string rb, .int .i64 code, .string rs, u, .string bd, .int .i64 asked, .int .i64 came, .int .i64 mark] 44)) _ := (by first | exact Below.drew (by assumption) | exact (Below.refl _ (w.alloc (.cells #[.string rm, .string rt, rf, .string rb, .int .i64 code, .string rs, u, .string bd, .int .i64 asked, .int .i64 came, .int .i64 mark] 44))).drew)
  iterate 12 (first
    | (apply seqH_skip; (focus (simp only [List.getElem?_toArray, List.getElem?_cons_succ, List.getElem?_cons_zero]; rfl)); (focus rfl); simp only [Act.put, List.setIfInBounds_toArray, List.set_cons_zero, List.set_cons_succ])
    | (apply seqH_take; (focus (simp only [List.getElem?_toArray, List.getElem?_cons_succ, List.getElem?_cons_zero]; rfl)); (focus rfl); (focus (intro w' hS; obtain ⟨hl, x0, x1, x2, x3, x4, x5, x6, x7, x8, x9, x10⟩ := HX.out _ hS; dsimp only at x0 x1 x2 x3 x4 x5 x6 x7 x8 x9 x10; first | (go_simp; rfl) | (go_simp; done))); simp only [Act.put, List.setIfInBounds_toArray, List.set_cons_zero, List.set_cons_succ])
    | (apply seqH_pass; (focus (simp only [List.getElem?_toArray, List.getElem?_cons_succ, List.getElem?_cons_zero]; rfl)); (focus rfl); (focus assumption); simp only [Act.put, List.setIfInBounds_toArray, List.set_cons_zero, List.set_cons_succ])
    | (apply seqH_eff; (focus (simp only [List.getElem?_toArray, List.getElem?_cons_succ, List.getElem?_cons_zero]; rfl)); (focus rfl); intro K hK; go_simp; (go_at_call 21; (first | (with_reducible refine (HA1.out _ (by assumption)).mono ?_) | (with_reducible refine (HA2.out _ (by assumption)).mono ?_))); rintro e wN ⟨rfl, bN⟩; refine hK _ _ (seq_next (by assumption) bN (fun bS' => ?_)); clear hK K))
  refine seqH_nil ?_
  have bR : Below (w.alloc (.cells #[.string rm, .string rt, rf, .string rb, .int .i64 code, .string rs, u, .string bd, .int .i64 asked, .int .i64 came, .int .i64 mark] 44)).heap.size (w.alloc (.cells #[.string rm, .string rt, rf, .string rb, .int .i64 code, .string rs, u, .string bd, .int .i64 asked, .int .i64 came, .int .i64 mark] 44)) wN := by assumption
  have B1 := b0.trans (bR.mono b0.size)
  have HHr := Lib.hid (HX.out _ bR)
  clear HX HA1 HA2 bR
  go_wp2_with fail
  refine (HAN.out _ B1).mono ?_
  rintro e w2 ⟨rfl, b2⟩
  have B2 := belT B1 b2
  have HH2 := Lib.hid (HHr.out.below b2)
  obtain ⟨hl, x0, x1, x2, x3, x4, x5, x6, x7, x8, x9, x10⟩ := HH2.out
  dsimp only at x0 x1 x2 x3 x4 x5 x6 x7 x8 x9 x10
  have d1 : decide (1 ≤ a) = true := decide_eq_true hin.1
  have d2 : decide (a ≤ 3) = true := decide_eq_true hin.2
  have d3 : decide (0 ≤ li) = true := decide_eq_true hli.1
  have d4 : decide (li ≤ 2147483648) = true := decide_eq_true hli.2
  have hcs : ((a == 1) = true) ∨ ((a == 1) = false ∧ (a == b) = true) := by
    rcases hlat with h | h
    · exact .inl (by rw [beq_iff_eq]; exact h)
    · cases hq : (a == 1)
      · exact .inr ⟨rfl, by rw [beq_iff_eq]; exact h⟩
      · exact .inl rfl
  clear hlat hin hli
  rcases hcs with q1 | ⟨q1, q2⟩
  all_goals
    go_wp2_with fail
    refine (HLI.out _ B2).mono ?_
    rintro e w3 ⟨rfl, b3⟩
    have B3 := belT B2 b3
    obtain ⟨hl', z0, z1, z2, z3, z4, z5, z6, z7, z8, z9, z10⟩ := HH2.out.below b3
    dsimp only at z0 z1 z2 z3 z4 z5 z6 z7 z8 z9 z10
    go_wp2_with fail
    refine (HLI.out _ B3).mono ?_
    rintro e w4 ⟨rfl, b4⟩
    go_wp2_with fail
    go_ret
    exact ⟨rfl, belT B3 b4⟩
end Go.Proofs.YtiijgbgknolmcaaDoor
