/- date's Parse: what it answers, whatever it is given. -/
import Derived.Test.YtiijgbgknolmcaaDoorDatR
import Derived.Test.YtiijgbgknolmcaaDoorRest
namespace Go.Proofs.YtiijgbgknolmcaaDoor
set_option maxRecDepth 20000
open Go.RowKit
set_option maxHeartbeats 3200000 in
theorem parse_neg (s : ByteArray) (w : World) (hs : s.size = 29) (hp : HasP10 w) (Y D H Mi Se k c : Int) (hY : -1 ≤ Y ∧ Y ≤ 9999) (hD : -1 ≤ D ∧ D ≤ 99) (hH : -1 ≤ H ∧ H ≤ 99) (hMi : -1 ≤ Mi ∧ Mi ≤ 99) (hSe : -1 ≤ Se ∧ Se ≤ 99) (hk : 0 ≤ k ∧ k ≤ 2932896) (hc : c = 0 ∨ c = 1)
    (HI : ∀ w', Below w.heap.size w w' → Calls Tryd.prog 77 #[.string ⟨#[74, 97, 110, 70, 101, 98, 77, 97, 114, 65, 112, 114, 77, 97, 121, 74, 117, 110, 74, 117, 108, 65, 117, 103, 83, 101, 112, 79, 99, 116, 78, 111, 118, 68, 101, 99]⟩, .string (s.extract 8 11)] w' fun e w'' => e = .returned (.int .i64 (-1)) ∧ w' = w'')
    (HA : ∀ w', Calls Tryd.prog 79 #[.string (s.extract 12 16)] w' fun e w'' => e = .returned (.int .i64 Y) ∧ w' = w'')
    (HB : ∀ w', Calls Tryd.prog 79 #[.string (s.extract 5 7)] w' fun e w'' => e = .returned (.int .i64 D) ∧ w' = w'')
    (HD : ∀ w', Calls Tryd.prog 78 #[.int .i64 Y, .int .i64 1, .int .i64 D] w' fun e w'' => e = .returned (.tuple #[.int .i64 k, .int .i64 c]) ∧ w' = w'')
    (HH : ∀ w', Calls Tryd.prog 79 #[.string (s.extract 17 19)] w' fun e w'' => e = .returned (.int .i64 H) ∧ w' = w'')
    (HM : ∀ w', Calls Tryd.prog 79 #[.string (s.extract 20 22)] w' fun e w'' => e = .returned (.int .i64 Mi) ∧ w' = w'')
    (HS : ∀ w', Calls Tryd.prog 79 #[.string (s.extract 23 25)] w' fun e w'' => e = .returned (.int .i64 Se) ∧ w' = w'') :
    Calls Tryd.prog 63 #[.string s] w fun e w' => e = .returned (.tuple #[.int .i64 0, .int .i64 3]) ∧ Below w.heap.size w w' := by
  obtain ⟨sM, hsM⟩ : ∃ x, s.extract 8 11 = x := ⟨_, rfl⟩
  obtain ⟨sA, hsA⟩ : ∃ x, s.extract 12 16 = x := ⟨_, rfl⟩
  obtain ⟨sB, hsB⟩ : ∃ x, s.extract 5 7 = x := ⟨_, rfl⟩
  obtain ⟨sH, hsH⟩ : ∃ x, s.extract 17 19 = x := ⟨_, rfl⟩
  obtain ⟨sI, hsI⟩ : ∃ x, s.extract 20 22 = x := ⟨_, rfl⟩
  obtain ⟨sS, hsS⟩ : ∃ x, s.extract 23 25 = x := ⟨_, rfl⟩
  rw [hsM] at HI
  rw [hsA] at HA
  rw [hsB] at HB
  rw [hsH] at HH
  rw [hsI] at HM
  rw [hsS] at HS
  have hb : ∀ {P : Ending → Prop} {f : FuncId} {vs : Array Value} {w : World}, Calls Tryd.prog f vs w (fun e w'' => P e ∧ w = w'') → Calls Tryd.prog f vs w (fun e w'' => P e ∧ Below w.heap.size w w'') := fun h => h.mono fun e w'' ⟨h1, h2⟩ => ⟨h1, h2 ▸ Below.refl _ _⟩
  have HA' := Lib.hid (fun w' => hb (HA w'))
  have HB' := Lib.hid (fun w' => hb (HB w'))
  have HD' := Lib.hid (fun w' => hb (HD w'))
  have HH' := Lib.hid (fun w' => hb (HH w'))
  have HM' := Lib.hid (fun w' => hb (HM w'))
  have HS' := Lib.hid (fun w' => hb (HS w'))
  have HI' := Lib.hid HI
  have HP := Lib.hid hp
  clear hb HA HB HD HH HM HS HI hp
  have hw1 : IntKind.i64.wrap (IntKind.i64.wrap 0 + 1) = 1 := by decide
  have hw0 : IntKind.i64.wrap 0 = 0 := by decide
  have hw2 : IntKind.i64.wrap (0 + 1) = 1 := by decide
  have hw3 : IntKind.i64.wrap 1 = 1 := by decide
  go_enter Tryd.func63, Tryd.ntmps63
  go_wp2_with fail
  refine (HI'.out _ (Below.refl _ _)).mono ?_
  rintro e w' ⟨rfl, rfl⟩
  go_wp2_with fail
  refine wp_region_seq [(true, 0), (true, 1), (true, 3), (true, 4), (true, 5), (true, 6), (true, 7), (false, 2), (false, 8), (false, 9), (true, 10), (true, 11), (true, 12), (true, 13), (true, 14)] (fun w' => Below w.heap.size w w') (by kernel_rfl) (by kernel_rfl) (fun _ _ _ _ _ h => h) (by kernel_rfl) (by kernel_rfl) (by first | exact (Below.refl _ _).drew | exact Below.drew (by assumption)) ?_
  have bS : Below w.heap.size w _ := (by first | exact Below.drew (by assumption) | exact (Below.refl _ w).drew)
  iterate 15 (first
    | (apply seqH_skip; (focus (simp only [List.getElem?_toArray, List.getElem?_cons_succ, List.getElem?_cons_zero]; rfl)); (focus rfl); simp only [Act.put, List.setIfInBounds_toArray, List.set_cons_zero, List.set_cons_succ])
    | (apply seqH_take; (focus (simp only [List.getElem?_toArray, List.getElem?_cons_succ, List.getElem?_cons_zero]; rfl)); (focus rfl); (focus (intro w' hS; skip; first | (go_simp; rfl) | (go_simp; done))); simp only [Act.put, List.setIfInBounds_toArray, List.set_cons_zero, List.set_cons_succ])
    | (apply seqH_pass; (focus (simp only [List.getElem?_toArray, List.getElem?_cons_succ, List.getElem?_cons_zero]; rfl)); (focus rfl); (focus assumption); simp only [Act.put, List.setIfInBounds_toArray, List.set_cons_zero, List.set_cons_succ])
    | (apply seqH_eff; (focus (simp only [List.getElem?_toArray, List.getElem?_cons_succ, List.getElem?_cons_zero]; rfl)); (focus rfl); intro K hK; go_simp; (first | (go_at_call 79; (first | (with_reducible refine (HA'.out _).mono ?_) | (with_reducible refine (HB'.out _).mono ?_))) | (go_at_call 78; (with_reducible refine (HD'.out _).mono ?_))); rintro e wN ⟨rfl, bN⟩; refine hK _ _ (seq_next (by assumption) bN (fun bS' => ?_)); clear hK K))
  refine seqH_nil ?_
  clear bN bS
  go_wp2_with fail
  refine wp_region_seq [(true, 0), (true, 1), (true, 3), (true, 4), (true, 6), (true, 7), (false, 2), (false, 5), (false, 8), (true, 9), (true, 10), (true, 11)] (fun w' => Below w.heap.size w w') (by kernel_rfl) (by kernel_rfl) (fun _ _ _ _ _ h => h) (by kernel_rfl) (by kernel_rfl) (by first | exact (Below.refl _ _).drew | exact Below.drew (by assumption)) ?_
  have bS : Below w.heap.size w _ := (by first | exact Below.drew (by assumption) | exact (Below.refl _ w).drew)
  iterate 12 (first
    | (apply seqH_skip; (focus (simp only [List.getElem?_toArray, List.getElem?_cons_succ, List.getElem?_cons_zero]; rfl)); (focus rfl); simp only [Act.put, List.setIfInBounds_toArray, List.set_cons_zero, List.set_cons_succ])
    | (apply seqH_take; (focus (simp only [List.getElem?_toArray, List.getElem?_cons_succ, List.getElem?_cons_zero]; rfl)); (focus rfl); (focus (intro w' hS; skip; first | (go_simp; rfl) | (go_simp; done))); simp only [Act.put, List.setIfInBounds_toArray, List.set_cons_zero, List.set_cons_succ])
    | (apply seqH_pass; (focus (simp only [List.getElem?_toArray, List.getElem?_cons_succ, List.getElem?_cons_zero]; rfl)); (focus rfl); (focus assumption); simp only [Act.put, List.setIfInBounds_toArray, List.set_cons_zero, List.set_cons_succ])
    | (apply seqH_eff; (focus (simp only [List.getElem?_toArray, List.getElem?_cons_succ, List.getElem?_cons_zero]; rfl)); (focus rfl); intro K hK; go_simp; (go_at_call 79; (first | (with_reducible refine (HH'.out _).mono ?_) | (with_reducible refine (HM'.out _).mono ?_) | (with_reducible refine (HS'.out _).mono ?_))); rintro e wN ⟨rfl, bN⟩; refine hK _ _ (seq_next (by assumption) bN (fun bS' => ?_)); clear hK K))
  refine seqH_nil ?_
  clear bN bS HA' HB' HD' HH' HM' HS' HI'
  go_wp2_with fail
  go_ret2
  exact ⟨rfl, by assumption⟩
theorem days_all (y m d : Int) : ∃ k c : Int, 0 ≤ k ∧ k ≤ 2932896 ∧ (c = 0 ∨ c = 1) ∧ (Cal.vld y m d = true → k = Cal.num y m d ∧ c = 0) ∧ ∀ w, Calls Tryd.prog 78 #[.int .i64 y, .int .i64 m, .int .i64 d] w fun e w' => e = .returned (.tuple #[.int .i64 k, .int .i64 c]) ∧ w = w' := by
  cases h : Cal.vld y m d
  · exact ⟨0, 1, by omega, by omega, .inr rfl, (fun h => by cases h), fun w => days_no y m d w h⟩
  · have := Cal.num_range y m d h
    exact ⟨_, 0, this.1, this.2, .inl rfl, (fun _ => ⟨rfl, rfl⟩), fun w => days_ok y m d w h⟩
/-- What is read in a date's text. -/
theorem read_print (n : Nat) (h : n ≤ 253402300799) : ∃ Y M D H Mi Se : Nat, 1 ≤ M ∧ M ≤ 12 ∧ Cal.vld Y M D = true ∧ Cal.num Y M D = ((n / 86400 : Nat) : Int) ∧ H * 3600 + Mi * 60 + Se = n % 86400 ∧
    Lib.index Dt.months12 (sl ((mkS (Dt.printD n)).extract 8 11)) = ((3 * M - 3 : Nat) : Int) ∧ Dt.numI (sl ((mkS (Dt.printD n)).extract 12 16)) = Y ∧ Dt.numI (sl ((mkS (Dt.printD n)).extract 5 7)) = D ∧
    Dt.numI (sl ((mkS (Dt.printD n)).extract 17 19)) = H ∧ Dt.numI (sl ((mkS (Dt.printD n)).extract 20 22)) = Mi ∧ Dt.numI (sl ((mkS (Dt.printD n)).extract 23 25)) = Se := by
  have hc := Cal.civ_ok ((n / 86400 : Nat) : Int) (by omega) (by omega)
  have hr : Dt.printD n = Dt.textD (n / 86400 % 7) (Cal.cd ((n / 86400 : Nat) : Int)).toNat (Cal.cm ((n / 86400 : Nat) : Int)).toNat (Cal.cy ((n / 86400 : Nat) : Int)).toNat (n % 86400) := rfl
  have hmd := (Cal.mdays_bd (Cal.cy ((n / 86400 : Nat) : Int)) (Cal.cm ((n / 86400 : Nat) : Int))).2
  have hv := hc.1
  rw [Cal.vld_iff] at hv
  generalize Cal.mdays (Cal.cy ((n / 86400 : Nat) : Int)) (Cal.cm ((n / 86400 : Nat) : Int)) = mx at *
  generalize Cal.cy ((n / 86400 : Nat) : Int) = cy at *
  generalize Cal.cm ((n / 86400 : Nat) : Int) = cm at *
  generalize Cal.cd ((n / 86400 : Nat) : Int) = cd at *
  obtain ⟨y1, y2, m1, m2, d1, d2⟩ := hv
  obtain ⟨Y, rfl⟩ : ∃ Y : Nat, cy = (Y : Int) := ⟨cy.toNat, by omega⟩
  obtain ⟨M, rfl⟩ : ∃ M : Nat, cm = (M : Int) := ⟨cm.toNat, by omega⟩
  obtain ⟨D, rfl⟩ : ∃ Dd : Nat, cd = (Dd : Int) := ⟨cd.toNat, by omega⟩
  rw [Int.toNat_natCast, Int.toNat_natCast, Int.toNat_natCast] at hr
  obtain ⟨t1, t2, t3, t4, t5, t6⟩ := Dt.textD_at (n / 86400 % 7) D M Y (n % 86400) (by omega) (by omega)
  rw [hr]
  refine ⟨Y, M, D, n % 86400 / 3600, n % 86400 / 60 % 60, n % 86400 % 60, by omega, by omega, hc.1, hc.2, by omega, ?_, ?_, ?_, ?_, ?_, ?_⟩
  · rw [mkS_ext, sl_mkS, t2]; exact Dt.index_mo M (by omega)
  · rw [mkS_ext, sl_mkS, t3]; exact Dt.numI_d4 Y (by omega)
  · rw [mkS_ext, sl_mkS, t1]; exact Dt.numI_d2 D (by omega)
  · rw [mkS_ext, sl_mkS, t4]; exact Dt.numI_d2 _ (by omega)
  · rw [mkS_ext, sl_mkS, t5]; exact Dt.numI_d2 _ (by omega)
  · rw [mkS_ext, sl_mkS, t6]; exact Dt.numI_d2 _ (by omega)
theorem HasMaxL.below {B : Nat} {w w' : World} (h : HasMaxL w) (hB : B = w.heap.size) (hb : Below B w w') : HasMaxL w' := by
  subst hB
  exact ⟨h.1.elim fun m hm => ⟨m, (hb.cell h.2).trans hm⟩, Nat.lt_of_lt_of_le h.2 hb.size⟩
theorem printD_len' (n : Nat) (h : n ≤ 253402300799) : (Dt.printD n).length = 29 := by
  have hv := (Cal.civ_ok ((n / 86400 : Nat) : Int) (by omega) (by omega)).1
  unfold Dt.printD
  rw [Cal.vld_iff] at hv
  generalize Cal.mdays (Cal.cy ((n / 86400 : Nat) : Int)) (Cal.cm ((n / 86400 : Nat) : Int)) = mx at *
  generalize Cal.cy ((n / 86400 : Nat) : Int) = cy at *
  generalize Cal.cm ((n / 86400 : Nat) : Int) = cm at *
  generalize Cal.cd ((n / 86400 : Nat) : Int) = cd at *
  exact Dt.textD_len _ _ _ _ _ (by omega) (by omega)
theorem dateParse_any (s : ByteArray) (w : World) (hz : s.size ≤ 140737488351232) (hp : HasP10 w) (hm : HasMaxL w) :
    Calls Tryd.prog 63 #[.string s] w fun e w' => DateAns s e ∧ Below w.heap.size w w' := by
  by_cases hs : s.size = 29
  · have hx : ∀ i j, j ≤ 29 → (sl (s.extract i j)).length = j - i := fun i j h => by rw [sl_len, ext_size _ _ _ (by omega)]
    have hY := Dt.numI_bound (sl (s.extract 12 16)) (by rw [hx _ _ (by omega)]; omega)
    have hD := Dt.numI_bound2 (sl (s.extract 5 7)) (by rw [hx _ _ (by omega)]; omega)
    have hH := Dt.numI_bound2 (sl (s.extract 17 19)) (by rw [hx _ _ (by omega)]; omega)
    have hMi := Dt.numI_bound2 (sl (s.extract 20 22)) (by rw [hx _ _ (by omega)]; omega)
    have hSe := Dt.numI_bound2 (sl (s.extract 23 25)) (by rw [hx _ _ (by omega)]; omega)
    have HA := fun w' => number_any (s.extract 12 16) w' (by rw [ext_size _ _ _ (by omega)]; omega)
    have HB := fun w' => number_any (s.extract 5 7) w' (by rw [ext_size _ _ _ (by omega)]; omega)
    have HH := fun w' => number_any (s.extract 17 19) w' (by rw [ext_size _ _ _ (by omega)]; omega)
    have HM := fun w' => number_any (s.extract 20 22) w' (by rw [ext_size _ _ _ (by omega)]; omega)
    have HS := fun w' => number_any (s.extract 23 25) w' (by rw [ext_size _ _ _ (by omega)]; omega)
    have HI := fun w' (hb : Below w.heap.size w w') => index_months (s.extract 8 11) w' (hm.below rfl hb)
    have hib := index_bound Dt.months12 (sl (s.extract 8 11))
    have hml : Dt.months12.length = 36 := rfl
    have hread : ∀ n : Nat, n ≤ 253402300799 → s = mkS (Dt.printD n) → ∃ Y M D H Mi Se : Nat, 1 ≤ M ∧ M ≤ 12 ∧ Cal.vld Y M D = true ∧ Cal.num Y M D = ((n / 86400 : Nat) : Int) ∧ H * 3600 + Mi * 60 + Se = n % 86400 ∧
        Lib.index Dt.months12 (sl (s.extract 8 11)) = ((3 * M - 3 : Nat) : Int) ∧ Dt.numI (sl (s.extract 12 16)) = Y ∧ Dt.numI (sl (s.extract 5 7)) = D ∧
        Dt.numI (sl (s.extract 17 19)) = H ∧ Dt.numI (sl (s.extract 20 22)) = Mi ∧ Dt.numI (sl (s.extract 23 25)) = Se := fun n hn he => by rw [he]; exact read_print n hn
    generalize Lib.index Dt.months12 (sl (s.extract 8 11)) = mi at *
    generalize Dt.numI (sl (s.extract 12 16)) = Y at *
    generalize Dt.numI (sl (s.extract 5 7)) = D at *
    generalize Dt.numI (sl (s.extract 17 19)) = H at *
    generalize Dt.numI (sl (s.extract 20 22)) = Mi at *
    generalize Dt.numI (sl (s.extract 23 25)) = Se at *
    by_cases hmi : mi = -1
    · subst hmi
      obtain ⟨k, c, k0, k1, kc, -, HD⟩ := days_all Y 1 D
      refine (parse_neg s w hs hp Y D H Mi Se k c hY hD hH hMi hSe ⟨k0, k1⟩ kc HI HA HB HD HH HM HS).mono fun e w' ⟨he, hb⟩ => ⟨.inr ⟨fun n hn hsn => ?_, he⟩, hb⟩
      obtain ⟨_, M, _, _, _, _, _, _, _, _, _, h1, _⟩ := hread n hn hsn
      omega
    · obtain ⟨a, rfl⟩ : ∃ a : Nat, mi = (a : Int) := ⟨mi.toNat, by omega⟩
      obtain ⟨k, c, k0, k1, kc, kv, HD⟩ := days_all Y ((a : Int) / 3 + 1) D
      refine (parse_core s w hs hp a (by omega) Y D H Mi Se k c hY hD hH hMi hSe ⟨k0, k1⟩ kc HI HA HB HD HH HM HS).mono fun e w' ⟨he, hb⟩ => ⟨?_, hb⟩
      rcases he with ⟨_, n, h1, h2, h3, rfl⟩ | ⟨hno, rfl⟩
      · exact .inl ⟨n, h2, h3.symm, rfl⟩
      · refine .inr ⟨fun n hn hsn => hno ?_, rfl⟩
        obtain ⟨Y', M, D', H', Mi', Se', m1, m2, hv, hnum, hsec, e1, e2, e3, e4, e5, e6⟩ := hread n hn hsn
        subst e2 e3 e4 e5 e6
        have ha3 : (a : Int) / 3 + 1 = (M : Int) := by omega
        rw [ha3] at kv
        obtain ⟨kv1, kv2⟩ := kv hv
        refine ⟨⟨by omega, by omega, kv2, by omega, by omega, by omega⟩, n, ?_, hn, hsn.symm⟩
        rw [kv1, hnum]
        omega
  · have hne : ((s.size : Int) != 29) = true := by simp; omega
    go_enter Tryd.func63, Tryd.ntmps63
    go_wp2_with fail
    go_ret2
    refine ⟨.inr ⟨fun n hn he => hs ?_, rfl⟩, Below.refl _ _⟩
    rw [he, mkS_size, printD_len' n hn]
theorem printD_inj {n m : Nat} (hn : n ≤ 253402300799) (hm : m ≤ 253402300799) (h : Dt.printD n = Dt.printD m) : n = m := by
  obtain ⟨Y, M, D, H, Mi, Se, m1, m2, hv, hnum, hsec, e1, e2, e3, e4, e5, e6⟩ := read_print n hn
  obtain ⟨Y', M', D', H', Mi', Se', m1', m2', hv', hnum', hsec', e1', e2', e3', e4', e5', e6'⟩ := read_print m hm
  rw [h] at e1 e2 e3 e4 e5 e6
  rw [e1] at e1'
  rw [e2] at e2'
  rw [e3] at e3'
  rw [e4] at e4'
  rw [e5] at e5'
  rw [e6] at e6'
  obtain rfl : M = M' := by omega
  obtain rfl : Y = Y' := by omega
  obtain rfl : D = D' := by omega
  rw [hnum] at hnum'
  omega
end Go.Proofs.YtiijgbgknolmcaaDoor
