/- CondDates: the law's walk. -/
import Derived.Test.YtiijgbgknolmcaaDoorConL
import Derived.Test.YtiijgbgknolmcaaDoorRest
namespace Go.Proofs.YtiijgbgknolmcaaDoor
set_option maxRecDepth 20000
open Go.RowKit
open Cn
set_option maxHeartbeats 6400000 in
theorem condDates_walk (m : ByteArray) (u : Value) (l : List Fld) (modified0 n0 : Int) (w : World) (hmz : m.size ≤ 140737488351232) (h : SlR w e_ss u l) (hl : l.length * 32 ≤ 140737488351232) (hz : ∀ d ∈ l, d.1.size ≤ 140737488351232 ∧ d.2.size ≤ 140737488351232) (hmo : (Lit.int .i64 modified0).wf = true) (hn : (Lit.int .i64 n0).wf = true) (hmax : HasMax w) (hp10 : HasP10 w) :
    Calls Tryd.prog 7 #[.string m, u, .int .i64 modified0, .int .i64 n0] w fun e w' => e = .returned (.bool true) ∧ Below w.heap.size w w' := by
  have HF : Hid (FOk w u l) := ⟨h, by omega, fun f hf => (hz f hf).1⟩
  have HP := Lib.hid hp10
  have HM := Lib.hid hmax
  have hpl := plainly_len l
  have HS := Lib.hid (Sel.plain l)
  have HR1 := Lib.hid (fun w => rest_any n0 253402300800 w (wide_of hn) (by omega))
  have HR2 := Lib.hid (fun w => rest_any modified0 253402300800 w (wide_of hmo) (by omega))
  obtain ⟨n, hn1, hn2⟩ : ∃ n : Nat, n0 % 253402300800 = (n : Int) ∧ n ≤ 253402300799 := ⟨(n0 % 253402300800).toNat, by have := Int.emod_nonneg n0 (b := 253402300800) (by omega); omega, by have := Int.emod_lt_of_pos n0 (b := 253402300800) (by omega); omega⟩
  obtain ⟨md, hm1, hm2⟩ : ∃ n : Nat, modified0 % 253402300800 = (n : Int) ∧ n ≤ 253402300799 := ⟨(modified0 % 253402300800).toNat, by have := Int.emod_nonneg modified0 (b := 253402300800) (by omega); omega, by have := Int.emod_lt_of_pos modified0 (b := 253402300800) (by omega); omega⟩
  rw [hn1] at HR1
  rw [hm1] at HR2
  clear h hz hp10 hmax hmo hn hn1 hm1
  generalize hPL : plainly l = P at *
  have hds : (mkS (Dt.printD n)).size = 29 := by rw [mkS_size, printD_len' n hn2]
  have HDP := Lib.hid (fun w hp => datePrint_ok n w hn2 hp)
  have S1 := Lib.hid (HS.out.withIMS (mkS (Dt.printD n)))
  have S2 := Lib.hid (HS.out.withIUS (mkS (Dt.printD n)))
  have HA1 : Hid (∀ r, Ans m (P ++ [(nIMS, mkS (Dt.printD n))]) true ⟨#[]⟩ md r → r = if readsF m = true ∧ (md : Int) ≤ n then 304 else 0) := fun r h => ans_ims h (by omega) hn2 S1.out.im S1.out.inm S1.out.ims S1.out.ius
  have HA2 : Hid (∀ r, Ans m (P ++ [(nIUS, mkS (Dt.printD n))]) true ⟨#[]⟩ md r → r = if (n : Int) < md then 412 else 0) := fun r h => ans_ius h (by omega) hn2 S2.out.im S2.out.inm S2.out.ims S2.out.ius
  have HA3 : Hid (∀ r, Ans m (P ++ [(nIMS, mkS (Dt.printD n))]) true ⟨#[]⟩ (-1) r → r = 0) := fun r h => ans_ims_neg h (by omega) S1.out.im S1.out.inm
  generalize mkS (Dt.printD n) = d at *
  go_enter Tryd.func7, Tryd.ntmps7
  go_wp2_with fail
  refine (HR1.out _).mono ?_
  rintro e w' ⟨rfl, rfl⟩
  go_wp2_with fail
  refine (HR2.out _).mono ?_
  rintro e w' ⟨rfl, rfl⟩
  go_wp2_with fail
  refine (HDP.out _ HP.out).mono ?_
  rintro e w1 ⟨rfl, b1⟩
  go_wp2_with fail
  refine (plainly_any u l _ (HF.out.below b1)).mono ?_
  rintro e w2 ⟨⟨x1, rfl, f1⟩, b2⟩
  rw [hPL] at f1
  have HF1 := Lib.hid f1
  have B2 := belT b1 b2
  clear f1 HR1 HR2 HDP hn2 hm2
  have hcs : ((m.toList == [71, 69, 84]) = true ∧ readsF m = true) ∨ ((m.toList == [71, 69, 84]) = false ∧ (m.toList == [72, 69, 65, 68]) = true ∧ readsF m = true) ∨ ((m.toList == [71, 69, 84]) = false ∧ (m.toList == [72, 69, 65, 68]) = false ∧ readsF m = false) := by
    unfold readsF
    cases (m.toList == [71, 69, 84]) <;> cases (m.toList == [72, 69, 65, 68]) <;> simp
  have hlen : (P.length + 1) * 32 ≤ 140737488355328 := by omega
  rcases hcs with ⟨t1, hR⟩ | ⟨t1, t2, hR⟩ | ⟨t1, t2, hR⟩
  all_goals
    have HR := Lib.hid hR
    clear hR
    go_wp2_with fail
    refine (with_any x1 P nIMS d _ HF1.out hlen (by decide)).mono ?_
    rintro e w3 ⟨⟨x3, rfl, f3⟩, b3⟩
    have HF3 := Lib.hid f3
    have B3 := belT B2 b3
    clear f3
    go_wp2_with fail
    refine (eval_any m x3 (P ++ [(nIMS, d)]) true ⟨#[]⟩ md _ HF3.out (by decide) (S1.out.lim Small.nil Small.nil (Small.one (by omega)) Small.nil) (HP.out.below rfl B3) (HM.out.below rfl B3)).mono ?_
    rintro e w4 ⟨⟨r1, rfl, ha⟩, b4⟩
    have B4 := belT B3 b4
    have E1 := Lib.hid (HA1.out _ ha)
    clear ha
    have HF4 := Lib.hid ((HF1.out.below b3).below b4)
    go_wp2_with fail
    refine (with_any x1 P nIUS d _ HF4.out hlen (by decide)).mono ?_
    rintro e w5 ⟨⟨x5, rfl, f5⟩, b5⟩
    have HF5 := Lib.hid f5
    have B5 := belT B4 b5
    clear f5
    go_wp2_with fail
    refine (eval_any m x5 (P ++ [(nIUS, d)]) true ⟨#[]⟩ md _ HF5.out (by decide) (S2.out.lim Small.nil Small.nil Small.nil (Small.one (by omega))) (HP.out.below rfl B5) (HM.out.below rfl B5)).mono ?_
    rintro e w6 ⟨⟨r2, rfl, ha⟩, b6⟩
    have B6 := belT B5 b6
    have E2 := Lib.hid (HA2.out _ ha)
    clear ha
    have HF6 := Lib.hid ((HF4.out.below b5).below b6)
    go_wp2_with fail
    refine (with_any x1 P nIMS d _ HF6.out hlen (by decide)).mono ?_
    rintro e w7 ⟨⟨x7, rfl, f7⟩, b7⟩
    have HF7 := Lib.hid f7
    have B7 := belT B6 b7
    clear f7
    go_wp2_with fail
    refine (eval_any m x7 (P ++ [(nIMS, d)]) true ⟨#[]⟩ (-1) _ HF7.out (by decide) (S1.out.lim Small.nil Small.nil (Small.one (by omega)) Small.nil) (HP.out.below rfl B7) (HM.out.below rfl B7)).mono ?_
    rintro e w8 ⟨⟨r3, rfl, ha⟩, b8⟩
    have B8 := belT B7 b8
    have E3 := HA3.out _ ha
    clear ha
    subst E3
    clear hlen hpl hds hl hmz
    by_cases hle : (md : Int) ≤ n
    · have d1 : decide ((md : Int) ≤ (n : Int)) = true := decide_eq_true hle
      have d2 : decide ((n : Int) < (md : Int)) = false := decide_eq_false (by omega)
      have d3 : decide (md ≤ n) = true := decide_eq_true (by omega)
      have d4 : decide (n < md) = false := decide_eq_false (by omega)
      have hr2 : r2 = 0 := by have := E2.out; rwa [if_neg (by omega)] at this
      have hr1 : r1 = if readsF m = true then 304 else 0 := by
        have := E1.out
        rw [this]
        by_cases hh : readsF m = true
        · rw [if_pos ⟨hh, hle⟩, if_pos hh]
        · rw [if_neg (fun x => hh x.1), if_neg hh]
      rw [HR.out] at hr1
      simp only [if_true, if_false, Bool.false_eq_true] at hr1
      clear E1 E2 hle
      subst hr1 hr2
      go_wp2_with fail
      go_ret
      exact ⟨rfl, B8⟩
    · have d1 : decide ((md : Int) ≤ (n : Int)) = false := decide_eq_false hle
      have d2 : decide ((n : Int) < (md : Int)) = true := decide_eq_true (by omega)
      have d3 : decide (md ≤ n) = false := decide_eq_false (by omega)
      have d4 : decide (n < md) = true := decide_eq_true (by omega)
      have hr2 : r2 = 412 := by have := E2.out; rwa [if_pos (by omega)] at this
      have hr1 : r1 = 0 := by have := E1.out; rwa [if_neg (fun x => hle x.2)] at this
      clear E1 E2 hle
      subst hr1 hr2
      go_wp2_with fail
      go_ret
      exact ⟨rfl, B8⟩
end Go.Proofs.YtiijgbgknolmcaaDoor
