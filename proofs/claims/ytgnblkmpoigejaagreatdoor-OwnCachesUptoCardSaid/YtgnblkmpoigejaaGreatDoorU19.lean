import Derived.Test.YtgnblkmpoigejaaGreatDoorU18
import Derived.Test.YtgnblkmpoigejaaGreatDoorU10
import Derived.Test.YtgnblkmpoigejaaGreatDoorU13
import Derived.Test.YtgnblkmpoigejaaGreatDoorU14
import Derived.Test.YtgnblkmpoigejaaGreatDoorU15
set_option linter.unusedVariables false
set_option linter.unusedSimpArgs false
namespace Go.Proofs.YtgnblkmpoigejaaGreatDoor
set_option maxRecDepth 20000
open Go.RowKit
set_option maxHeartbeats 3200000 in
theorem parse_neg (s : ByteArray) (w : World) (hs : s.size = 29) (hp : HasP10 w) (Y D H Mi Se k c : Int) (_ : -1 ≤ Y ∧ Y ≤ 9999) (_ : -1 ≤ D ∧ D ≤ 99) (_ : -1 ≤ H ∧ H ≤ 99) (_ : -1 ≤ Mi ∧ Mi ≤ 99) (_ : -1 ≤ Se ∧ Se ≤ 99) (_ : 0 ≤ k ∧ k ≤ 2932896) (_ : c = 0 ∨ c = 1)
  (HI : ∀ w', Below w.heap.size w w' → Calls Tryz.prog 170 #[.string ⟨#[74, 97, 110, 70, 101, 98, 77, 97, 114, 65, 112, 114, 77, 97, 121, 74, 117, 110, 74, 117, 108, 65, 117, 103, 83, 101, 112, 79, 99, 116, 78, 111, 118, 68, 101, 99]⟩, .string (s.extract 8 11)] w' fun e w'' => e = .returned (.int .i64 (-1)) ∧ w' = w'')
  (HA : ∀ w', Calls Tryz.prog 172 #[.string (s.extract 12 16)] w' fun e w'' => e = .returned (.int .i64 Y) ∧ w' = w'')
  (HB : ∀ w', Calls Tryz.prog 172 #[.string (s.extract 5 7)] w' fun e w'' => e = .returned (.int .i64 D) ∧ w' = w'')
  (HD : ∀ w', Calls Tryz.prog 171 #[.int .i64 Y, .int .i64 1, .int .i64 D] w' fun e w'' => e = .returned (.tuple #[.int .i64 k, .int .i64 c]) ∧ w' = w'')
  (HH : ∀ w', Calls Tryz.prog 172 #[.string (s.extract 17 19)] w' fun e w'' => e = .returned (.int .i64 H) ∧ w' = w'')
  (HM : ∀ w', Calls Tryz.prog 172 #[.string (s.extract 20 22)] w' fun e w'' => e = .returned (.int .i64 Mi) ∧ w' = w'')
  (HS : ∀ w', Calls Tryz.prog 172 #[.string (s.extract 23 25)] w' fun e w'' => e = .returned (.int .i64 Se) ∧ w' = w'') :
  Calls Tryz.prog 126 #[.string s] w fun e w' => e = .returned (.tuple #[.int .i64 0, .int .i64 3]) ∧ Below w.heap.size w w' := by
 obtain ⟨sM, hsM⟩ : ∃ x, s.extract 8 11 = x := ⟨_, rfl⟩
 obtain ⟨sA, hsA⟩ : ∃ x, s.extract 12 16 = x := ⟨_, rfl⟩
 obtain ⟨sB, hsB⟩ : ∃ x, s.extract 5 7 = x := ⟨_, rfl⟩
 obtain ⟨sH, hsH⟩ : ∃ x, s.extract 17 19 = x := ⟨_, rfl⟩
 obtain ⟨sI, hsI⟩ : ∃ x, s.extract 20 22 = x := ⟨_, rfl⟩
 obtain ⟨sS, hsS⟩ : ∃ x, s.extract 23 25 = x := ⟨_, rfl⟩
 rw [hsM] at HI
 rw [hsA] at HA
 rw [hsB] at HB
 rw [hsH] at HH
 rw [hsI] at HM
 rw [hsS] at HS
 have hb : ∀ {P : Ending → Prop} {f : FuncId} {vs : Array Value} {w : World}, Calls Tryz.prog f vs w (fun e w'' => P e ∧ w = w'') → Calls Tryz.prog f vs w (fun e w'' => P e ∧ Below w.heap.size w w'') := fun h => h.mono fun e w'' ⟨h1, h2⟩ => ⟨h1, h2 ▸ Below.refl _ _⟩
 have HA' := Lib.hid (fun w' => hb (HA w'))
 have HB' := Lib.hid (fun w' => hb (HB w'))
 have HD' := Lib.hid (fun w' => hb (HD w'))
 have HH' := Lib.hid (fun w' => hb (HH w'))
 have HM' := Lib.hid (fun w' => hb (HM w'))
 have HS' := Lib.hid (fun w' => hb (HS w'))
 have HI' := Lib.hid HI
 have HP := Lib.hid hp
 clear hb HA HB HD HH HM HS HI hp
 have hw1 : IntKind.i64.wrap (IntKind.i64.wrap 0 + 1) = 1 := by decide
 have hw0 : IntKind.i64.wrap 0 = 0 := by decide
 have hw2 : IntKind.i64.wrap (0 + 1) = 1 := by decide
 have hw3 : IntKind.i64.wrap 1 = 1 := by decide
 go_enter Tryz.func126, Tryz.ntmps126
 go_wp2_with fail
 refine (HI'.out _ (Below.refl _ _)).mono ?_
 rintro e w' ⟨rfl, rfl⟩
 go_wp2_with fail
 refine wp_region_seq [(true, 0), (true, 1), (true, 3), (true, 4), (true, 5), (true, 6), (true, 7), (false, 2), (false, 8), (false, 9), (true, 10), (true, 11), (true, 12), (true, 13), (true, 14)] (fun w' => Below w.heap.size w w') (by kernel_rfl) (by kernel_rfl) (fun _ _ _ _ _ h => h) (by kernel_rfl) (by kernel_rfl) (by first | exact (Below.refl _ _).drew | exact Below.drew (by assumption)) ?_
 have bS : Below w.heap.size w _ := (by first | exact Below.drew (by assumption) | exact (Below.refl _ w).drew)
 iterate 15 (first
  | (apply seqH_skip; (focus (simp only [List.getElem?_toArray, List.getElem?_cons_succ, List.getElem?_cons_zero]; rfl)); (focus rfl); simp only [Act.put, List.setIfInBounds_toArray, List.set_cons_zero, List.set_cons_succ])
  | (apply seqH_take; (focus (simp only [List.getElem?_toArray, List.getElem?_cons_succ, List.getElem?_cons_zero]; rfl)); (focus rfl); (focus (intro w' hS; skip; first | (go_simp; rfl) | (go_simp; done))); simp only [Act.put, List.setIfInBounds_toArray, List.set_cons_zero, List.set_cons_succ])
  | (apply seqH_pass; (focus (simp only [List.getElem?_toArray, List.getElem?_cons_succ, List.getElem?_cons_zero]; rfl)); (focus rfl); (focus assumption); simp only [Act.put, List.setIfInBounds_toArray, List.set_cons_zero, List.set_cons_succ])
  | (apply seqH_eff; (focus (simp only [List.getElem?_toArray, List.getElem?_cons_succ, List.getElem?_cons_zero]; rfl)); (focus rfl); intro K hK; go_simp; (first | (go_at_call 172; (first | (with_reducible refine (HA'.out _).mono ?_) | (with_reducible refine (HB'.out _).mono ?_))) | (go_at_call 171; (with_reducible refine (HD'.out _).mono ?_))); rintro e wN ⟨rfl, bN⟩; refine hK _ _ (seq_next (by assumption) bN (fun bS' => ?_)); clear hK K))
 refine seqH_nil ?_
 clear bN bS
 go_wp2_with fail
 refine wp_region_seq [(true, 0), (true, 1), (true, 3), (true, 4), (true, 6), (true, 7), (false, 2), (false, 5), (false, 8), (true, 9), (true, 10), (true, 11)] (fun w' => Below w.heap.size w w') (by kernel_rfl) (by kernel_rfl) (fun _ _ _ _ _ h => h) (by kernel_rfl) (by kernel_rfl) (by first | exact (Below.refl _ _).drew | exact Below.drew (by assumption)) ?_
 have bS : Below w.heap.size w _ := (by first | exact Below.drew (by assumption) | exact (Below.refl _ w).drew)
 iterate 12 (first
  | (apply seqH_skip; (focus (simp only [List.getElem?_toArray, List.getElem?_cons_succ, List.getElem?_cons_zero]; rfl)); (focus rfl); simp only [Act.put, List.setIfInBounds_toArray, List.set_cons_zero, List.set_cons_succ])
  | (apply seqH_take; (focus (simp only [List.getElem?_toArray, List.getElem?_cons_succ, List.getElem?_cons_zero]; rfl)); (focus rfl); (focus (intro w' hS; skip; first | (go_simp; rfl) | (go_simp; done))); simp only [Act.put, List.setIfInBounds_toArray, List.set_cons_zero, List.set_cons_succ])
  | (apply seqH_pass; (focus (simp only [List.getElem?_toArray, List.getElem?_cons_succ, List.getElem?_cons_zero]; rfl)); (focus rfl); (focus assumption); simp only [Act.put, List.setIfInBounds_toArray, List.set_cons_zero, List.set_cons_succ])
  | (apply seqH_eff; (focus (simp only [List.getElem?_toArray, List.getElem?_cons_succ, List.getElem?_cons_zero]; rfl)); (focus rfl); intro K hK; go_simp; (go_at_call 172; (first | (with_reducible refine (HH'.out _).mono ?_) | (with_reducible refine (HM'.out _).mono ?_) | (with_reducible refine (HS'.out _).mono ?_))); rintro e wN ⟨rfl, bN⟩; refine hK _ _ (seq_next (by assumption) bN (fun bS' => ?_)); clear hK K))
 refine seqH_nil ?_
 clear bN bS HA' HB' HD' HH' HM' HS' HI'
 go_wp2_with fail
 go_ret2
 exact ⟨rfl, by assumption⟩
theorem days_all (y m d : Int) : ∃ k c : Int, 0 ≤ k ∧ k ≤ 2932896 ∧ (c = 0 ∨ c = 1) ∧ (Cal.vld y m d = true → k = Cal.num y m d ∧ c = 0) ∧ ∀ w, Calls Tryz.prog 171 #[.int .i64 y, .int .i64 m, .int .i64 d] w fun e w' => e = .returned (.tuple #[.int .i64 k, .int .i64 c]) ∧ w = w' := by
 cases h : Cal.vld y m d
 ·exact ⟨0, 1, by omega, by omega, .inr rfl, (fun h => by cases h), fun w => days_no y m d w h⟩
 ·have := Cal.num_range y m d h
  exact ⟨_, 0, this.1, this.2, .inl rfl, (fun _ => ⟨rfl, rfl⟩), fun w => days_ok y m d w h⟩
theorem read_print (n : Nat) (h : n ≤ 253402300799) : ∃ Y M D H Mi Se : Nat, 1 ≤ M ∧ M ≤ 12 ∧ Cal.vld Y M D = true ∧ Cal.num Y M D = ((n / 86400 : Nat) : Int) ∧ H * 3600 + Mi * 60 + Se = n % 86400 ∧
  Lib.index Dt.months12 (sl ((mkS (Dt.printD n)).extract 8 11)) = ((3 * M - 3 : Nat) : Int) ∧ Dt.numI (sl ((mkS (Dt.printD n)).extract 12 16)) = Y ∧ Dt.numI (sl ((mkS (Dt.printD n)).extract 5 7)) = D ∧
  Dt.numI (sl ((mkS (Dt.printD n)).extract 17 19)) = H ∧ Dt.numI (sl ((mkS (Dt.printD n)).extract 20 22)) = Mi ∧ Dt.numI (sl ((mkS (Dt.printD n)).extract 23 25)) = Se := by
 have hc := Cal.civ_ok ((n / 86400 : Nat) : Int) (by omega) (by omega)
 have hr : Dt.printD n = Dt.textD (n / 86400 % 7) (Cal.cd ((n / 86400 : Nat) : Int)).toNat (Cal.cm ((n / 86400 : Nat) : Int)).toNat (Cal.cy ((n / 86400 : Nat) : Int)).toNat (n % 86400) := rfl
 have hmd := (Cal.mdays_bd (Cal.cy ((n / 86400 : Nat) : Int)) (Cal.cm ((n / 86400 : Nat) : Int))).2
 have hv := hc.1
 rw [Cal.vld_iff] at hv
 generalize Cal.mdays (Cal.cy ((n / 86400 : Nat) : Int)) (Cal.cm ((n / 86400 : Nat) : Int)) = mx at *
 generalize Cal.cy ((n / 86400 : Nat) : Int) = cy at *
 generalize Cal.cm ((n / 86400 : Nat) : Int) = cm at *
 generalize Cal.cd ((n / 86400 : Nat) : Int) = cd at *
 obtain ⟨y1, y2, m1, m2, d1, d2⟩ := hv
 obtain ⟨Y, rfl⟩ : ∃ Y : Nat, cy = (Y : Int) := ⟨cy.toNat, by omega⟩
 obtain ⟨M, rfl⟩ : ∃ M : Nat, cm = (M : Int) := ⟨cm.toNat, by omega⟩
 obtain ⟨D, rfl⟩ : ∃ Dd : Nat, cd = (Dd : Int) := ⟨cd.toNat, by omega⟩
 rw [Int.toNat_natCast, Int.toNat_natCast, Int.toNat_natCast] at hr
 obtain ⟨t1, t2, t3, t4, t5, t6⟩ := Dt.textD_at (n / 86400 % 7) D M Y (n % 86400) (by omega) (by omega)
 rw [hr]
 refine ⟨Y, M, D, n % 86400 / 3600, n % 86400 / 60 % 60, n % 86400 % 60, by omega, by omega, hc.1, hc.2, by omega, ?_, ?_, ?_, ?_, ?_, ?_⟩
 ·rw [mkS_ext, sl_mkS, t2]; exact Dt.index_mo M (by omega)
 ·rw [mkS_ext, sl_mkS, t3]; exact Dt.numI_d4 Y (by omega)
 ·rw [mkS_ext, sl_mkS, t1]; exact Dt.numI_d2 D (by omega)
 ·rw [mkS_ext, sl_mkS, t4]; exact Dt.numI_d2 _ (by omega)
 ·rw [mkS_ext, sl_mkS, t5]; exact Dt.numI_d2 _ (by omega)
 ·rw [mkS_ext, sl_mkS, t6]; exact Dt.numI_d2 _ (by omega)
theorem HasMaxL.below {B : Nat} {w w' : World} (h : HasMaxL w) (hB : B = w.heap.size) (hb : Below B w w') : HasMaxL w' := by
 subst hB
 exact ⟨h.1.elim fun m hm => ⟨m, (hb.cell h.2).trans hm⟩, Nat.lt_of_lt_of_le h.2 hb.size⟩
theorem printD_len' (n : Nat) (h : n ≤ 253402300799) : (Dt.printD n).length = 29 := by
 have hv := (Cal.civ_ok ((n / 86400 : Nat) : Int) (by omega) (by omega)).1
 unfold Dt.printD
 rw [Cal.vld_iff] at hv
 generalize Cal.mdays (Cal.cy ((n / 86400 : Nat) : Int)) (Cal.cm ((n / 86400 : Nat) : Int)) = mx at *
 generalize Cal.cy ((n / 86400 : Nat) : Int) = cy at *
 generalize Cal.cm ((n / 86400 : Nat) : Int) = cm at *
 generalize Cal.cd ((n / 86400 : Nat) : Int) = cd at *
 exact Dt.textD_len _ _ _ _ _ (by omega) (by omega)
theorem dateParse_any (s : ByteArray) (w : World) (hz : s.size ≤ 140737488351232) (hp : HasP10 w) (hm : HasMaxL w) :
  Calls Tryz.prog 126 #[.string s] w fun e w' => DateAns s e ∧ Below w.heap.size w w' := by
 by_cases hs : s.size = 29
 ·have hx : ∀ i j, j ≤ 29 → (sl (s.extract i j)).length = j - i := fun i j h => by rw [sl_len, ext_size _ _ _ (by omega)]
  have hY := Dt.numI_bound (sl (s.extract 12 16)) (by rw [hx _ _ (by omega)]; omega)
  have hD := Dt.numI_bound2 (sl (s.extract 5 7)) (by rw [hx _ _ (by omega)]; omega)
  have hH := Dt.numI_bound2 (sl (s.extract 17 19)) (by rw [hx _ _ (by omega)]; omega)
  have hMi := Dt.numI_bound2 (sl (s.extract 20 22)) (by rw [hx _ _ (by omega)]; omega)
  have hSe := Dt.numI_bound2 (sl (s.extract 23 25)) (by rw [hx _ _ (by omega)]; omega)
  have HA := fun w' => number_any (s.extract 12 16) w' (by rw [ext_size _ _ _ (by omega)]; omega)
  have HB := fun w' => number_any (s.extract 5 7) w' (by rw [ext_size _ _ _ (by omega)]; omega)
  have HH := fun w' => number_any (s.extract 17 19) w' (by rw [ext_size _ _ _ (by omega)]; omega)
  have HM := fun w' => number_any (s.extract 20 22) w' (by rw [ext_size _ _ _ (by omega)]; omega)
  have HS := fun w' => number_any (s.extract 23 25) w' (by rw [ext_size _ _ _ (by omega)]; omega)
  have HI := fun w' (hb : Below w.heap.size w w') => index_months (s.extract 8 11) w' (hm.below rfl hb)
  have hib := index_bound Dt.months12 (sl (s.extract 8 11))
  have hml : Dt.months12.length = 36 := rfl
  have hread : ∀ n : Nat, n ≤ 253402300799 → s = mkS (Dt.printD n) → ∃ Y M D H Mi Se : Nat, 1 ≤ M ∧ M ≤ 12 ∧ Cal.vld Y M D = true ∧ Cal.num Y M D = ((n / 86400 : Nat) : Int) ∧ H * 3600 + Mi * 60 + Se = n % 86400 ∧
    Lib.index Dt.months12 (sl (s.extract 8 11)) = ((3 * M - 3 : Nat) : Int) ∧ Dt.numI (sl (s.extract 12 16)) = Y ∧ Dt.numI (sl (s.extract 5 7)) = D ∧
    Dt.numI (sl (s.extract 17 19)) = H ∧ Dt.numI (sl (s.extract 20 22)) = Mi ∧ Dt.numI (sl (s.extract 23 25)) = Se := fun n hn he => by rw [he]; exact read_print n hn
  generalize Lib.index Dt.months12 (sl (s.extract 8 11)) = mi at *
  generalize Dt.numI (sl (s.extract 12 16)) = Y at *
  generalize Dt.numI (sl (s.extract 5 7)) = D at *
  generalize Dt.numI (sl (s.extract 17 19)) = H at *
  generalize Dt.numI (sl (s.extract 20 22)) = Mi at *
  generalize Dt.numI (sl (s.extract 23 25)) = Se at *
  by_cases hmi : mi = -1
  ·subst hmi
   obtain ⟨k, c, k0, k1, kc, -, HD⟩ := days_all Y 1 D
   refine (parse_neg s w hs hp Y D H Mi Se k c hY hD hH hMi hSe ⟨k0, k1⟩ kc HI HA HB HD HH HM HS).mono fun e w' ⟨he, hb⟩ => ⟨.inr ⟨fun n hn hsn => ?_, he⟩, hb⟩
   obtain ⟨_, M, _, _, _, _, _, _, _, _, _, h1, _⟩ := hread n hn hsn
   omega
  ·obtain ⟨a, rfl⟩ : ∃ a : Nat, mi = (a : Int) := ⟨mi.toNat, by omega⟩
   obtain ⟨k, c, k0, k1, kc, kv, HD⟩ := days_all Y ((a : Int) / 3 + 1) D
   refine (parse_core s w hs hp a (by omega) Y D H Mi Se k c hY hD hH hMi hSe ⟨k0, k1⟩ kc HI HA HB HD HH HM HS).mono fun e w' ⟨he, hb⟩ => ⟨?_, hb⟩
   rcases he with ⟨_, n, h1, h2, h3, rfl⟩ | ⟨hno, rfl⟩
   ·exact .inl ⟨n, h2, h3.symm, rfl⟩
   ·refine .inr ⟨fun n hn hsn => hno ?_, rfl⟩
    obtain ⟨Y', M, D', H', Mi', Se', m1, m2, hv, hnum, hsec, e1, e2, e3, e4, e5, e6⟩ := hread n hn hsn
    subst e2 e3 e4 e5 e6
    have ha3 : (a : Int) / 3 + 1 = (M : Int) := by omega
    rw [ha3] at kv
    obtain ⟨kv1, kv2⟩ := kv hv
    refine ⟨⟨by omega, by omega, kv2, by omega, by omega, by omega⟩, n, ?_, hn, hsn.symm⟩
    rw [kv1, hnum]
    omega
 ·have hne : ((s.size : Int) != 29) = true := by simp; omega
  go_enter Tryz.func126, Tryz.ntmps126
  go_wp2_with fail
  go_ret2
  refine ⟨.inr ⟨fun n hn he => hs ?_, rfl⟩, Below.refl _ _⟩
  rw [he, mkS_size, printD_len' n hn]
theorem printD_inj {n m : Nat} (hn : n ≤ 253402300799) (hm : m ≤ 253402300799) (h : Dt.printD n = Dt.printD m) : n = m := by
 obtain ⟨Y, M, D, H, Mi, Se, m1, m2, hv, hnum, hsec, e1, e2, e3, e4, e5, e6⟩ := read_print n hn
 obtain ⟨Y', M', D', H', Mi', Se', m1', m2', hv', hnum', hsec', e1', e2', e3', e4', e5', e6'⟩ := read_print m hm
 rw [h] at e1 e2 e3 e4 e5 e6
 rw [e1] at e1'
 rw [e2] at e2'
 rw [e3] at e3'
 rw [e4] at e4'
 rw [e5] at e5'
 rw [e6] at e6'
 obtain rfl : M = M' := by omega
 obtain rfl : Y = Y' := by omega
 obtain rfl : D = D' := by omega
 rw [hnum] at hnum'
 omega
set_option maxRecDepth 20000
namespace Fr
def txt (l : List Fld) (n : ByteArray) : ByteArray := joinS (selF l n) sep2
def isR (l : List Fld) (n : ByteArray) : Bool := decide (0 < (selF l n).length)
def IsDate (D : ByteArray → Option Nat) : Prop := ∀ s, (∃ n, n ≤ 253402300799 ∧ D s = some n ∧ s = mkS (Dt.printD n)) ∨ (D s = none ∧ ∀ n, n ≤ 253402300799 → s ≠ mkS (Dt.printD n))
theorem isDate_ex : ∃ D, IsDate D := by
 have h : ∀ s : ByteArray, ∃ r : Option Nat, (∃ n, n ≤ 253402300799 ∧ r = some n ∧ s = mkS (Dt.printD n)) ∨ (r = none ∧ ∀ n, n ≤ 253402300799 → s ≠ mkS (Dt.printD n)) := by
  intro s
  by_cases h : ∃ n, n ≤ 253402300799 ∧ s = mkS (Dt.printD n)
  ·obtain ⟨n, hn, h⟩ := h
   exact ⟨some n, .inl ⟨n, hn, rfl, h⟩⟩
  ·exact ⟨none, .inr ⟨rfl, fun n hn h' => h ⟨n, hn, h'⟩⟩⟩
 exact ⟨fun s => Classical.choose (h s), fun s => Classical.choose_spec (h s)⟩
theorem IsDate.le {D : ByteArray → Option Nat} (h : IsDate D) {s : ByteArray} {n : Nat} (hs : D s = some n) : n ≤ 253402300799 := by
 rcases h s with ⟨m, hm, h1, _⟩ | ⟨h1, _⟩
 ·rw [h1] at hs; injection hs with hs; omega
 ·rw [h1] at hs; cases hs
theorem IsDate.print {D : ByteArray → Option Nat} (h : IsDate D) {n : Nat} (hn : n ≤ 253402300799) : D (mkS (Dt.printD n)) = some n := by
 rcases h (mkS (Dt.printD n)) with ⟨m, hm, h1, h2⟩ | ⟨_, h1⟩
 ·have := congrArg sl h2
  rw [sl_mkS, sl_mkS] at this
  rw [h1, printD_inj hn hm this]
 ·exact absurd rfl (h1 n hn)
theorem IsDate.empty {D : ByteArray → Option Nat} (h : IsDate D) : D ByteArray.empty = none := by
 rcases h ByteArray.empty with ⟨m, hm, h1, h2⟩ | ⟨h1, _⟩
 ·have := congrArg ByteArray.size h2
  rw [mkS_size, printD_len' m hm] at this
  cases this
 ·exact h1
def allSome {α : Type} : List (Option α) → Option (List α)
 | [] => some []
 | none :: _ => none
 | some x :: l => match allSome l with | some r => some (x :: r) | none => none
theorem allSome_map {α : Type} : ∀ (ds : List α), allSome (ds.map some) = some ds
 | [] => rfl
 | d :: ds => by rw [List.map_cons, allSome, allSome_map ds]
theorem allSome_some {α : Type} : ∀ {l : List (Option α)} {ds : List α}, allSome l = some ds → l = ds.map some
 | [], ds, h => by simp only [allSome, Option.some.injEq] at h; subst h; rfl
 | none :: l, ds, h => by simp [allSome] at h
 | some x :: l, ds, h => by
  rw [allSome] at h
  cases hl : allSome l with
  | none => rw [hl] at h; cases h
  | some r =>
   rw [hl] at h
   simp only [Option.some.injEq] at h
   subst h
   rw [List.map_cons, allSome_some hl]
theorem dirD_size {p : ByteArray} {d : Dr} (h : dirD p = some d) : d.1.size ≤ p.size ∧ d.2.2.size ≤ p.size := by
 have hb : ∀ (l a b : List UInt8), cutAt 61 l = some (a, b) → a.length ≤ l.length ∧ b.length ≤ l.length := by
  intro l
  induction l with
  | nil => intro a b h; cases h
  | cons c l ih =>
   intro a b h
   unfold cutAt at h
   split at h
   ·injection h with h; injection h with h1 h; subst h1; subst h; simp
   ·obtain ⟨⟨x, y⟩, hx, he⟩ := Option.map_eq_some_iff.1 h
    injection he with h1 he; subst he; subst h1
    have := ih _ _ hx
    simp only [List.length_cons]; omega
 have hl : ∀ n : ByteArray, (lowT n).size = n.size := fun n => by unfold lowT; rw [mkS_size, Tok.low_len, sl_len]
 unfold dirD at h
 cases hc : cutAt 61 (sl p) with
 | none =>
  rw [hc] at h
  dsimp only at h
  split at h
  ·injection h with h; subst h
   exact ⟨Nat.le_of_eq (hl p), Nat.zero_le _⟩
  ·cases h
 | some ab =>
  obtain ⟨a, b⟩ := ab
  rw [hc] at h
  dsimp only at h
  have hz := hb _ _ _ hc
  rw [sl_len] at hz
  split at h
  ·split at h
   ·injection h with h; subst h
    dsimp only
    rw [hl, mkS_size, mkS_size]; exact hz
   ·obtain ⟨u, hu, rfl⟩ := Option.map_eq_some_iff.1 h
    have h1 := (Tok.unquote_some hu).1
    have h2 := escs_ge u
    simp [Tok.quoteL] at h1
    dsimp only
    rw [hl, mkS_size, mkS_size]; omega
  ·cases h
theorem mem_dirs {ps : List ByteArray} {ds : List Dr} (h : ps.map dirD = ds.map some) (n : Nat) (hp : ∀ p ∈ ps, p.size ≤ n) : ∀ d ∈ ds, d.1.size ≤ n ∧ d.2.2.size ≤ n := by
 intro d hd
 have : some d ∈ ds.map some := List.mem_map.2 ⟨d, hd, rfl⟩
 rw [← h] at this
 obtain ⟨p, hpp, hpd⟩ := List.mem_map.1 this
 have h1 := dirD_size hpd
 have h2 := hp p hpp
 omega
def dirsOf (s : ByteArray) : Option (List Dr) := match Tok.splitL (sl s) with | .error _ => none | .ok ps => allSome ((ps.map mkS).map dirD)
def nCC : ByteArray := ⟨#[67, 97, 99, 104, 101, 45, 67, 111, 110, 116, 114, 111, 108]⟩
def nDate : ByteArray := ⟨#[68, 97, 116, 101]⟩
def nSM : ByteArray := ⟨#[115, 45, 109, 97, 120, 97, 103, 101]⟩
def nMA : ByteArray := ⟨#[109, 97, 120, 45, 97, 103, 101]⟩
def nExp : ByteArray := ⟨#[69, 120, 112, 105, 114, 101, 115]⟩
def nLM : ByteArray := ⟨#[76, 97, 115, 116, 45, 77, 111, 100, 105, 102, 105, 101, 100]⟩
def nAge : ByteArray := ⟨#[65, 103, 101]⟩
def nage : ByteArray := ⟨#[97, 103, 101]⟩
def nMR : ByteArray := ⟨#[109, 117, 115, 116, 45, 114, 101, 118, 97, 108, 105, 100, 97, 116, 101]⟩
def nPR : ByteArray := ⟨#[112, 114, 111, 120, 121, 45, 114, 101, 118, 97, 108, 105, 100, 97, 116, 101]⟩
def nNC : ByteArray := ⟨#[110, 111, 45, 99, 97, 99, 104, 101]⟩
def nMF : ByteArray := ⟨#[109, 105, 110, 45, 102, 114, 101, 115, 104]⟩
def nOC : ByteArray := ⟨#[111, 110, 108, 121, 45, 105, 102, 45, 99, 97, 99, 104, 101, 100]⟩
def nMS : ByteArray := ⟨#[109, 97, 120, 45, 115, 116, 97, 108, 101]⟩
def dirsD (s : ByteArray) : List Dr := match dirsOf s with | some ds => ds | none => []
def dirsF (l : List Fld) : List Dr := dirsD (txt l nCC)
theorem dirsD_ok (s : ByteArray) : (dirsD s).length ≤ 20 ∧ ∀ d ∈ dirsD s, d.1.size ≤ 1000 ∧ d.2.2.size ≤ 1000 := by
 unfold dirsD
 split
 ·rename_i ds h
  unfold dirsOf at h
  split at h
  ·cases h
  ·rename_i ps hp
   obtain ⟨h1, h2, -⟩ := Tok.split_short hp
   have h3 := allSome_some h
   refine ⟨?_, ?_⟩
   ·have := congrArg List.length h3
    simp only [List.length_map] at this
    omega
   ·exact mem_dirs h3 1000 (fun p hpp => by
     obtain ⟨q, hq, rfl⟩ := List.mem_map.1 hpp
     rw [mkS_size]; exact h1 q hq)
 ·exact ⟨by simp, by simp⟩
def within (n : Int) : Int := min (max n 0) 2147483648
def isTime (n : Int) : Int := min (max n 0) 253402300799
def told (D : ByteArray → Option Nat) (l : List Fld) (n : ByteArray) : Option Nat := if isR l n = true then D (txt l n) else none
def dated (D : ByteArray → Option Nat) (l : List Fld) (came : Int) : Int := match told D l nDate with | some n => (n : Int) | none => isTime came
def guessed (c : Int) : Bool := ([200, 203, 204, 300, 301, 308, 404, 405, 410, 414, 501] : List Int).contains c
def lifeF (D : ByteArray → Option Nat) (l : List Fld) (code came : Int) : Int :=
 if (secD (dirsF l) nSM).2 = true then ((secD (dirsF l) nSM).1 : Int) else
 if (secD (dirsF l) nMA).2 = true then ((secD (dirsF l) nMA).1 : Int) else
 if isR l nExp = true then (match told D l nExp with | some n => within ((n : Int) - dated D l came) | none => 0) else
 match told D l nLM with
 | some n => if guessed code = true then within ((dated D l came - (n : Int)).tdiv 10) else 0
 | none => 0
def ageF (D : ByteArray → Option Nat) (l : List Fld) (came asked now : Int) : Int :=
 within (max (max (isTime came - dated D l came) 0) ((secs 0 (sl (txt l nAge)) : Int) + max (isTime came - isTime asked) 0) + max (isTime now - isTime came) 0)
def hasD (l : List Dr) (n : ByteArray) : Bool := (findD l n).isSome
def staleF (asks : List Dr) (k : Int) : Bool := match findD asks nMS with | some d => !d.2.1 || decide (k ≤ (secs 0 (sl d.2.2) : Int)) | none => false
def bnames : List ByteArray := [nMR, nPR, nSM, nNC]
def boundF (says : List Dr) : Bool := bnames.any (fun n => hasD says n)
def tailF (asks : List Dr) : Int := if hasD asks nOC = true then 3 else 2
def useF (asks says : List Dr) (life age : Int) : Int :=
 if hasD asks nNC = true ∨ hasD says nNC = true then tailF asks else
 if (secD asks nMA).2 = true ∧ ((secD asks nMA).1 : Int) < age then tailF asks else
 if (secD asks nMF).2 = true ∧ life - age < ((secD asks nMF).1 : Int) then tailF asks else
 if age < life ∨ (boundF says = false ∧ staleF asks (age - life) = true) then 1 else tailF asks
theorem within_in (n : Int) : 0 ≤ within n ∧ within n ≤ 2147483648 := by unfold within; omega
theorem isTime_in (n : Int) : 0 ≤ isTime n ∧ isTime n ≤ 253402300799 := by unfold isTime; omega
theorem told_le {D : ByteArray → Option Nat} (hD : IsDate D) {l : List Fld} {n : ByteArray} {k : Nat} (h : told D l n = some k) : k ≤ 253402300799 := by
 unfold told at h
 split at h
 ·exact hD.le h
 ·cases h
theorem dated_in {D : ByteArray → Option Nat} (hD : IsDate D) (l : List Fld) (came : Int) : 0 ≤ dated D l came ∧ dated D l came ≤ 253402300799 := by
 unfold dated
 cases h : told D l nDate with
 | none => exact isTime_in came
 | some k => have := told_le hD h; dsimp only; omega
theorem lifeF_in (D : ByteArray → Option Nat) (l : List Fld) (code came : Int) : 0 ≤ lifeF D l code came ∧ lifeF D l code came ≤ 2147483648 := by
 have h1 := secD_le (dirsF l) nSM
 have h2 := secD_le (dirsF l) nMA
 unfold lifeF
 split
 ·omega
 split
 ·omega
 split
 ·split
  ·exact within_in _
  ·omega
 ·split
  ·split
   ·exact within_in _
   ·omega
  ·omega
theorem tailF_in (asks : List Dr) : tailF asks = 2 ∨ tailF asks = 3 := by unfold tailF; split <;> simp
theorem stale_mono {asks : List Dr} {a b : Int} (h : a ≤ b) (hs : staleF asks b = true) : staleF asks a = true := by
 unfold staleF at *
 split
 ·rename_i d hd
  rw [hd] at hs
  dsimp only at hs
  simp only [Bool.or_eq_true, decide_eq_true_eq] at hs ⊢
  rcases hs with hs | hs
  ·exact .inl hs
  ·exact .inr (by omega)
 ·rename_i hd
  rw [hd] at hs
  cases hs
theorem later (asks says : List Dr) (life a b : Int) (h : a ≤ b) : useF asks says life a = 1 ∨ useF asks says life a = useF asks says life b := by
 by_cases hb : useF asks says life b = tailF asks
 ·rw [hb]
  unfold useF
  repeat' split
  all_goals first | exact .inr rfl | exact .inl rfl
 ·left
  have ht := tailF_in asks
  unfold useF at hb ⊢
  split at hb
  ·exact absurd rfl hb
  rename_i h1
  split at hb
  ·exact absurd rfl hb
  rename_i h2
  split at hb
  ·exact absurd rfl hb
  rename_i h3
  split at hb
  ·rename_i h4
   rw [if_neg h1, if_neg (fun hh => h2 ⟨hh.1, by omega⟩), if_neg (fun hh => h3 ⟨hh.1, by omega⟩), if_pos]
   rcases h4 with h4 | ⟨h4, h5⟩
   ·exact .inl (by omega)
   ·exact .inr ⟨h4, stale_mono (by omega) h5⟩
  ·exact absurd rfl hb
end Fr
end Go.Proofs.YtgnblkmpoigejaaGreatDoor
