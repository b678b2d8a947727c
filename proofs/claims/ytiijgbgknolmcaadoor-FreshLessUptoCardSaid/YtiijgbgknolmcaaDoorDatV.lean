/- date's two and Print: what they answer. -/
import Derived.Test.YtiijgbgknolmcaaDoorDatW
import Derived.Test.YtiijgbgknolmcaaDoorDatP
import Derived.Test.YtiijgbgknolmcaaDoorShelf
import Derived.Test.YtiijgbgknolmcaaDoorRegion
import Derived.WalkSmall
import Derived.IntWalk
namespace Go.Proofs.YtiijgbgknolmcaaDoor
set_option maxRecDepth 20000
open Go.RowKit
/-- The library's table of powers of ten lies where its row says. -/
def HasP10 (w : World) : Prop := Lib.TabIs Tryd.prog w "internal/strconv.uint64pow10" .u64 Lib.pow10Tab ∧ 1 < w.heap.size
theorem HasP10.below {B : Nat} {w w' : World} (h : HasP10 w) (hB : B = w.heap.size) (hb : Below B w w') : HasP10 w' := by
  subst hB
  exact ⟨var?_below hb (g := 1) (by kernel_rfl) h.2 h.1, Nat.lt_of_lt_of_le h.2 hb.size⟩
theorem HasP10.drew {w : World} (h : HasP10 w) : HasP10 w.drew := ⟨h.1, h.2⟩
theorem below_grow_ (B : Nat) (w : World) (hB : B ≤ w.heap.size) (k : Nat) (os : Array Obj) : Below B w (Sort.grow (w.drewN k) os) :=
  ⟨rfl, rfl, rfl, by show _ ≤ ((w.drewN k).heap ++ os).size; rw [Array.size_append]; exact Nat.le_add_right _ _, fun i hi => by
    show (w.heap ++ os)[i]? = w.heap[i]?
    rw [Array.getElem?_append_left (Nat.lt_of_lt_of_le hi hB)]⟩
theorem two_any (n : Nat) (w : World) (h : n < 100) :
    Calls Tryd.prog 38 #[.int .i64 n] w fun e w' => e = .returned (.string (mkS (Dt.d2 n))) ∧ w = w' := by
  have hd := Dt.dec2 n h
  have HI := Lib.hid (Tryd.strconv_Itoa_small n h)
  have hXs : sl (⟨(Lib.decDigits n).toArray⟩ : ByteArray) = Lib.decDigits n := rfl
  have hXz : (⟨(Lib.decDigits n).toArray⟩ : ByteArray).size ≤ 2 := by
    rw [← sl_len, hXs]
    have := congrArg List.length hd
    rw [Dt.d2_len] at this
    split at this
    · simp only [List.length_cons] at this; omega
    · omega
  rw [← hXs] at hd
  have HD := Lib.hid hd
  generalize (⟨(Lib.decDigits n).toArray⟩ : ByteArray) = X at *
  generalize Dt.d2 n = q at *
  clear hXs hd
  have z1 : (⟨#[48]⟩ : ByteArray).size + X.size ≤ 9223372036854775807 := by have : (⟨#[48]⟩ : ByteArray).size = 1 := rfl; omega
  go_enter Tryd.func38, Tryd.ntmps38
  by_cases h10 : n < 10
  · have d1 : decide (n < 10) = true := decide_eq_true h10
    go_wp2_with fail
    refine (HI.out _).mono ?_
    rintro e w' ⟨rfl, rfl⟩
    go_wp2_with fail
    go_ret
    exact ⟨ret_str (sl_inj (by rw [sl_append, sl_mkS, ← HD.out, if_pos h10]; rfl)), rfl⟩
  · have d1 : decide (n < 10) = false := decide_eq_false h10
    go_wp2_with fail
    refine (HI.out _).mono ?_
    rintro e w' ⟨rfl, rfl⟩
    go_wp2_with fail
    go_ret
    exact ⟨ret_str (sl_inj (by rw [sl_mkS, ← HD.out, if_neg h10])), rfl⟩
theorem itoa_year (y : Nat) (w : World) (h0 : 1000 ≤ y) (h1 : y < 10000) (hp : HasP10 w) :
    Calls Tryd.prog 39 #[.int .i64 y] w fun e w' => e = .returned (.string (mkS (Dt.d4 y))) ∧ Below w.heap.size w w' := by
  refine (Tryd.strconv_Itoa (y : Int) (by omega) (by omega) w hp.1).mono fun e w' ⟨he, k, os, hw⟩ => ⟨?_, ?_⟩
  · rw [he]
    unfold Lib.itoa
    rw [if_neg (by omega), Int.toNat_natCast, Dt.dec4 y h0 h1]; rfl
  · rw [hw]; exact below_grow_ _ w (Nat.le_refl _) k os
theorem datePrint_no (n : Int) (w : World) (h : n < 0 ∨ 253402300799 < n) :
    Calls Tryd.prog 17 #[.int .i64 n] w fun e w' => e = .returned (.tuple #[.string ByteArray.empty, .int .i64 1]) ∧ w = w' := by
  go_enter Tryd.func17, Tryd.ntmps17
  by_cases h0 : n < 0
  · go_wp2_with fail
    go_ret2
    exact ⟨rfl, rfl⟩
  · have h1 : 253402300799 < n := by omega
    go_wp2_with fail
    go_ret2
    exact ⟨rfl, rfl⟩
set_option maxHeartbeats 3200000 in
theorem datePrint_ok (n : Nat) (w : World) (h : n ≤ 253402300799) (hp : HasP10 w) :
    Calls Tryd.prog 17 #[.int .i64 n] w fun e w' => e = .returned (.tuple #[.string (mkS (Dt.printD n)), .int .i64 0]) ∧ Below w.heap.size w w' := by
  obtain ⟨D, hD⟩ : ∃ D, n / 86400 = D := ⟨_, rfl⟩
  obtain ⟨S, hS⟩ : ∃ S, n % 86400 = S := ⟨_, rfl⟩
  have hD1 : D ≤ 2932896 := by omega
  have hS1 : S < 86400 := by omega
  have hDq : (n : Int) / 86400 = (D : Int) := by omega
  have hSq : (n : Int) % 86400 = (S : Int) := by omega
  have HC := Lib.hid (fun w => civil_ok (D : Int) w (by omega) (by omega))
  have hv := (Cal.civ_ok (D : Int) (by omega) (by omega)).1
  rw [Cal.vld_iff] at hv
  have hmd := (Cal.mdays_bd (Cal.cy (D : Int)) (Cal.cm (D : Int))).2
  have hr : Dt.printD n = Dt.textD (D % 7) (Cal.cd (D : Int)).toNat (Cal.cm (D : Int)).toNat (Cal.cy (D : Int)).toNat S := by
    unfold Dt.printD
    rw [hD, hS]
  generalize Cal.mdays (Cal.cy (D : Int)) (Cal.cm (D : Int)) = mx at *
  generalize Cal.cy (D : Int) = cy at *
  generalize Cal.cm (D : Int) = cm at *
  generalize Cal.cd (D : Int) = cd at *
  obtain ⟨y1, y2, m1, m2, d1, d2⟩ := hv
  obtain ⟨Y, rfl⟩ : ∃ Y : Nat, cy = (Y : Int) := ⟨cy.toNat, by omega⟩
  obtain ⟨M, rfl⟩ : ∃ M : Nat, cm = (M : Int) := ⟨cm.toNat, by omega⟩
  obtain ⟨Dd, rfl⟩ : ∃ Dd : Nat, cd = (Dd : Int) := ⟨cd.toNat, by omega⟩
  rw [Int.toNat_natCast, Int.toNat_natCast, Int.toNat_natCast] at hr
  have HR := Lib.hid hr
  have hDd' : Dd < 100 := by omega
  have HT2 := Lib.hid (fun w => two_any Dd w hDd')
  have HIY := Lib.hid (fun w hp => itoa_year Y w (by omega) (by omega) hp)
  obtain ⟨TA, hTA⟩ : ∃ x, S / 3600 = x := ⟨_, rfl⟩
  obtain ⟨TB, hTB⟩ : ∃ x, S / 60 % 60 = x := ⟨_, rfl⟩
  obtain ⟨TC, hTC⟩ : ∃ x, S % 60 = x := ⟨_, rfl⟩
  have HH := Lib.hid (fun w => two_any TA w (by omega))
  have HMi := Lib.hid (fun w => two_any TB w (by omega))
  have HSe := Lib.hid (fun w => two_any TC w (by omega))
  obtain ⟨K, hK⟩ : ∃ K : Nat, D % 7 = K := ⟨_, rfl⟩
  have hK7 : K < 7 := by omega
  have hKq : (D : Int) % 7 = (K : Int) := by omega
  have e1 : (S : Int) / 3600 = (TA : Int) := by omega
  have e2 : (S : Int) / 60 % 60 = (TB : Int) := by omega
  have e3 : (S : Int) % 60 = (TC : Int) := by omega
  have HTA := Lib.hid hTA
  have HTBB := Lib.hid hTB
  have HTC := Lib.hid hTC
  clear hTA hTB hTC
  rw [hK] at HR
  clear hD hS hK hmd d2 hr
  have i1 : (K : Int) * 3 ≤ (K : Int) * 3 + 3 := by omega
  have i2 : (K : Int) * 3 + 3 ≤ 21 := by omega
  have i2' : (0 : Int) ≤ (K : Int) * 3 + 3 := by omega
  have i3 : 3 * (M : Int) - 3 ≤ 3 * (M : Int) := by omega
  have i4 : 3 * (M : Int) ≤ 36 := by omega
  have i4' : (0 : Int) ≤ 3 * (M : Int) := by omega
  have i5 : 0 ≤ 3 * (M : Int) - 3 := by omega
  have i6 : (0 : Int) ≤ (K : Int) * 3 := by omega
  have i7 : (3 : Int) ≤ 3 * (M : Int) := by omega
  have hw1 : IntKind.i64.wrap ((K : Int) * 3 + 3) = (K : Int) * 3 + 3 := IntWalk.i64_in _ (by omega)
  have hw2 : IntKind.i64.wrap (3 * (M : Int)) = 3 * (M : Int) := IntWalk.i64_in _ (by omega)
  have hw3 : IntKind.i64.wrap (3 * (M : Int) - 3) = 3 * (M : Int) - 3 := IntWalk.i64_in _ (by omega)
  obtain ⟨W3, hW3⟩ : ∃ W3, (⟨#[84, 104, 117, 70, 114, 105, 83, 97, 116, 83, 117, 110, 77, 111, 110, 84, 117, 101, 87, 101, 100]⟩ : ByteArray).extract ((K : Int) * 3).toNat ((K : Int) * 3 + 3).toNat = W3 := ⟨_, rfl⟩
  have sW3 : sl W3 = Dt.wd K := by
    rw [← hW3, sl_extract, show ((K : Int) * 3).toNat = K * 3 from by omega, show ((K : Int) * 3 + 3).toNat - K * 3 = 3 from by omega]; rfl
  obtain ⟨M3, hM3⟩ : ∃ M3, (⟨#[74, 97, 110, 70, 101, 98, 77, 97, 114, 65, 112, 114, 77, 97, 121, 74, 117, 110, 74, 117, 108, 65, 117, 103, 83, 101, 112, 79, 99, 116, 78, 111, 118, 68, 101, 99]⟩ : ByteArray).extract (3 * (M : Int) - 3).toNat (3 * (M : Int)).toNat = M3 := ⟨_, rfl⟩
  have sM3 : sl M3 = Dt.mo M := by
    rw [← hM3, sl_extract, show (3 * (M : Int) - 3).toNat = 3 * M - 3 from by omega, show (3 * (M : Int)).toNat - (3 * M - 3) = 3 from by omega]; rfl
  have lW3 : W3.size = 3 := by rw [← sl_len, sW3, Dt.wd_len K hK7]
  have lM3 : M3.size = 3 := by rw [← sl_len, sM3, Dt.mo_len M (by omega)]
  obtain ⟨T2, hT2⟩ : ∃ T2, mkS (Dt.d2 Dd) = T2 := ⟨_, rfl⟩
  have sT2 : sl T2 = Dt.d2 Dd := by rw [← hT2, sl_mkS]
  have lT2 : T2.size = 2 := by rw [← sl_len, sT2]; rfl
  obtain ⟨Y4, hY4⟩ : ∃ Y4, mkS (Dt.d4 Y) = Y4 := ⟨_, rfl⟩
  have sY4 : sl Y4 = Dt.d4 Y := by rw [← hY4, sl_mkS]
  have lY4 : Y4.size = 4 := by rw [← sl_len, sY4]; rfl
  obtain ⟨HO, hHO⟩ : ∃ HO, mkS (Dt.d2 TA) = HO := ⟨_, rfl⟩
  have sHO : sl HO = Dt.d2 TA := by rw [← hHO, sl_mkS]
  have lHO : HO.size = 2 := by rw [← sl_len, sHO]; rfl
  obtain ⟨MI, hMI⟩ : ∃ MI, mkS (Dt.d2 TB) = MI := ⟨_, rfl⟩
  have sMI : sl MI = Dt.d2 TB := by rw [← hMI, sl_mkS]
  have lMI : MI.size = 2 := by rw [← sl_len, sMI]; rfl
  obtain ⟨SE, hSE⟩ : ∃ SE, mkS (Dt.d2 TC) = SE := ⟨_, rfl⟩
  have sSE : sl SE = Dt.d2 TC := by rw [← hSE, sl_mkS]
  have lSE : SE.size = 2 := by rw [← sl_len, sSE]; rfl
  rw [hT2] at HT2
  rw [hHO] at HH
  rw [hMI] at HMi
  rw [hSE] at HSe
  have HIY2 : Hid (∀ w, HasP10 w → Calls Tryd.prog 39 #[.int .i64 (Y : Int)] w fun e w' => e = .returned (.string Y4) ∧ Below w.heap.size w w') := fun w hp => by have := HIY.out w hp; rw [hY4] at this; exact this
  have zP1 : W3.size + (⟨#[44, 32]⟩ : ByteArray).size ≤ 9223372036854775807 := by rw [lW3]; have : (⟨#[44, 32]⟩ : ByteArray).size = 2 := rfl; omega
  obtain ⟨P1, hP1⟩ : ∃ P1, W3 ++ (⟨#[44, 32]⟩ : ByteArray) = P1 := ⟨_, rfl⟩
  have lP1 : P1.size = 5 := by rw [← hP1, ByteArray.size_append, lW3]; have : (⟨#[44, 32]⟩ : ByteArray).size = 2 := rfl; omega
  have zP2 : P1.size + T2.size ≤ 9223372036854775807 := by rw [lP1]; have : T2.size = 2 := lT2; omega
  obtain ⟨P2, hP2⟩ : ∃ P2, P1 ++ T2 = P2 := ⟨_, rfl⟩
  have lP2 : P2.size = 7 := by rw [← hP2, ByteArray.size_append, lP1]; have : T2.size = 2 := lT2; omega
  have zP3 : P2.size + (⟨#[32]⟩ : ByteArray).size ≤ 9223372036854775807 := by rw [lP2]; have : (⟨#[32]⟩ : ByteArray).size = 1 := rfl; omega
  obtain ⟨P3, hP3⟩ : ∃ P3, P2 ++ (⟨#[32]⟩ : ByteArray) = P3 := ⟨_, rfl⟩
  have lP3 : P3.size = 8 := by rw [← hP3, ByteArray.size_append, lP2]; have : (⟨#[32]⟩ : ByteArray).size = 1 := rfl; omega
  have zP4 : P3.size + M3.size ≤ 9223372036854775807 := by rw [lP3]; have : M3.size = 3 := lM3; omega
  obtain ⟨P4, hP4⟩ : ∃ P4, P3 ++ M3 = P4 := ⟨_, rfl⟩
  have lP4 : P4.size = 11 := by rw [← hP4, ByteArray.size_append, lP3]; have : M3.size = 3 := lM3; omega
  have zP5 : P4.size + (⟨#[32]⟩ : ByteArray).size ≤ 9223372036854775807 := by rw [lP4]; have : (⟨#[32]⟩ : ByteArray).size = 1 := rfl; omega
  obtain ⟨P5, hP5⟩ : ∃ P5, P4 ++ (⟨#[32]⟩ : ByteArray) = P5 := ⟨_, rfl⟩
  have lP5 : P5.size = 12 := by rw [← hP5, ByteArray.size_append, lP4]; have : (⟨#[32]⟩ : ByteArray).size = 1 := rfl; omega
  have zP6 : P5.size + Y4.size ≤ 9223372036854775807 := by rw [lP5]; have : Y4.size = 4 := lY4; omega
  obtain ⟨P6, hP6⟩ : ∃ P6, P5 ++ Y4 = P6 := ⟨_, rfl⟩
  have lP6 : P6.size = 16 := by rw [← hP6, ByteArray.size_append, lP5]; have : Y4.size = 4 := lY4; omega
  have zQ1 : P6.size + (⟨#[32]⟩ : ByteArray).size ≤ 9223372036854775807 := by rw [lP6]; have : (⟨#[32]⟩ : ByteArray).size = 1 := rfl; omega
  obtain ⟨Q1, hQ1⟩ : ∃ Q1, P6 ++ (⟨#[32]⟩ : ByteArray) = Q1 := ⟨_, rfl⟩
  have lQ1 : Q1.size = 17 := by rw [← hQ1, ByteArray.size_append, lP6]; have : (⟨#[32]⟩ : ByteArray).size = 1 := rfl; omega
  have zQ2 : Q1.size + HO.size ≤ 9223372036854775807 := by rw [lQ1]; have : HO.size = 2 := lHO; omega
  obtain ⟨Q2, hQ2⟩ : ∃ Q2, Q1 ++ HO = Q2 := ⟨_, rfl⟩
  have lQ2 : Q2.size = 19 := by rw [← hQ2, ByteArray.size_append, lQ1]; have : HO.size = 2 := lHO; omega
  have zQ3 : Q2.size + (⟨#[58]⟩ : ByteArray).size ≤ 9223372036854775807 := by rw [lQ2]; have : (⟨#[58]⟩ : ByteArray).size = 1 := rfl; omega
  obtain ⟨Q3, hQ3⟩ : ∃ Q3, Q2 ++ (⟨#[58]⟩ : ByteArray) = Q3 := ⟨_, rfl⟩
  have lQ3 : Q3.size = 20 := by rw [← hQ3, ByteArray.size_append, lQ2]; have : (⟨#[58]⟩ : ByteArray).size = 1 := rfl; omega
  have zQ4 : Q3.size + MI.size ≤ 9223372036854775807 := by rw [lQ3]; have : MI.size = 2 := lMI; omega
  obtain ⟨Q4, hQ4⟩ : ∃ Q4, Q3 ++ MI = Q4 := ⟨_, rfl⟩
  have lQ4 : Q4.size = 22 := by rw [← hQ4, ByteArray.size_append, lQ3]; have : MI.size = 2 := lMI; omega
  have zQ5 : Q4.size + (⟨#[58]⟩ : ByteArray).size ≤ 9223372036854775807 := by rw [lQ4]; have : (⟨#[58]⟩ : ByteArray).size = 1 := rfl; omega
  obtain ⟨Q5, hQ5⟩ : ∃ Q5, Q4 ++ (⟨#[58]⟩ : ByteArray) = Q5 := ⟨_, rfl⟩
  have lQ5 : Q5.size = 23 := by rw [← hQ5, ByteArray.size_append, lQ4]; have : (⟨#[58]⟩ : ByteArray).size = 1 := rfl; omega
  have zQ6 : Q5.size + SE.size ≤ 9223372036854775807 := by rw [lQ5]; have : SE.size = 2 := lSE; omega
  obtain ⟨Q6, hQ6⟩ : ∃ Q6, Q5 ++ SE = Q6 := ⟨_, rfl⟩
  have lQ6 : Q6.size = 25 := by rw [← hQ6, ByteArray.size_append, lQ5]; have : SE.size = 2 := lSE; omega
  have zQ7 : Q6.size + (⟨#[32, 71, 77, 84]⟩ : ByteArray).size ≤ 9223372036854775807 := by rw [lQ6]; have : (⟨#[32, 71, 77, 84]⟩ : ByteArray).size = 4 := rfl; omega
  obtain ⟨Q7, hQ7⟩ : ∃ Q7, Q6 ++ (⟨#[32, 71, 77, 84]⟩ : ByteArray) = Q7 := ⟨_, rfl⟩
  have lQ7 : Q7.size = 29 := by rw [← hQ7, ByteArray.size_append, lQ6]; have : (⟨#[32, 71, 77, 84]⟩ : ByteArray).size = 4 := rfl; omega
  have HF : Hid (Q7 = mkS (Dt.printD n)) := by
    refine sl_inj ?_
    rw [sl_mkS, HR.out, ← hQ7, ← hQ6, ← hQ5, ← hQ4, ← hQ3, ← hQ2, ← hQ1, ← hP6, ← hP5, ← hP4, ← hP3, ← hP2, ← hP1]
    simp only [sl_append, sW3, sM3, sT2, sY4, sHO, sMI, sSE]
    unfold Dt.textD
    rw [HTA.out, HTBB.out, HTC.out]
    simp only [List.append_assoc]
    rfl
  have HP := Lib.hid hp
  have HTB : Hid (∀ w : World, Calls Tryd.prog 38 #[.int .i64 (Dd : Int)] w fun e w' => e = .returned (.string T2) ∧ Below w.heap.size w w') := fun w => (HT2.out w).mono fun e w' ⟨he, hw⟩ => ⟨he, hw ▸ Below.refl _ _⟩
  clear hT2 hY4 hHO hMI hSE sW3 sM3 sT2 sY4 sHO sMI sSE

  go_enter Tryd.func17, Tryd.ntmps17
  go_wp2_with fail
  refine (HC.out _).mono ?_
  rintro e w' ⟨rfl, rfl⟩
  go_wp2_with fail
  refine wp_region_seq [(true, 0), (true, 1), (true, 2), (true, 3), (true, 4), (true, 5), (true, 9), (true, 10), (true, 11), (true, 12), (true, 13), (true, 14), (true, 17), (false, 6), (true, 7), (true, 8), (true, 15), (true, 16), (false, 18), (true, 19), (true, 20)] (fun w' => Below w.heap.size w w') (by kernel_rfl) (by kernel_rfl) (fun _ _ _ _ _ h => h) (by kernel_rfl) (by kernel_rfl) (by first | exact (Below.refl _ _).drew | exact Below.drew (by assumption)) ?_
  have bS : Below w.heap.size w _ := (by first | exact Below.drew (by assumption) | exact (Below.refl _ w).drew)
  iterate 21 (first
    | (apply seqH_skip; (focus (simp only [List.getElem?_toArray, List.getElem?_cons_succ, List.getElem?_cons_zero]; rfl)); (focus rfl); simp only [Act.put, List.setIfInBounds_toArray, List.set_cons_zero, List.set_cons_succ])
    | (apply seqH_take; (focus (simp only [List.getElem?_toArray, List.getElem?_cons_succ, List.getElem?_cons_zero]; rfl)); (focus rfl); (focus (intro w' hS; skip; first | (go_simp; rfl) | (go_simp; done))); simp only [Act.put, List.setIfInBounds_toArray, List.set_cons_zero, List.set_cons_succ])
    | (apply seqH_pass; (focus (simp only [List.getElem?_toArray, List.getElem?_cons_succ, List.getElem?_cons_zero]; rfl)); (focus rfl); (focus assumption); simp only [Act.put, List.setIfInBounds_toArray, List.set_cons_zero, List.set_cons_succ])
    | (apply seqH_eff; (focus (simp only [List.getElem?_toArray, List.getElem?_cons_succ, List.getElem?_cons_zero]; rfl)); (focus rfl); intro K hK; go_simp; (first | (go_at_call 38; (with_reducible refine (HTB.out _).mono ?_)) | (go_at_call 39; (with_reducible refine (HIY2.out _ (HP.out.below rfl (by assumption))).mono ?_))); rintro e wN ⟨rfl, bN⟩; refine hK _ _ (seq_next (by assumption) bN (fun bS' => ?_)); clear hK K))
  refine seqH_nil ?_
  go_wp2_with fail
  refine (HH.out _).mono ?_
  rintro e w' ⟨rfl, rfl⟩
  go_wp2_with fail
  refine (HMi.out _).mono ?_
  rintro e w' ⟨rfl, rfl⟩
  go_wp2_with fail
  refine (HSe.out _).mono ?_
  rintro e w' ⟨rfl, rfl⟩
  go_wp2_with fail
  go_ret2
  exact ⟨ret_si HF.out rfl, by assumption⟩
end Go.Proofs.YtiijgbgknolmcaaDoor
