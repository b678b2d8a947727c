/- PolicyFresh: the law's walk. -/
import Derived.Test.YtiijgbgknolmcaaPolP
namespace Go.Proofs.Ytiijgbgknolmcaa
set_option maxRecDepth 20000
open Go.RowKit
open Pol
theorem lit2 (w : World) (a b c d : ByteArray) : SlR (w.alloc (.cells #[.string a, .string b, .string c, .string d] 37)) e_ss (.slice (some ⟨w.heap.size, 0, none⟩) 2 2) [(a, b), (c, d)] := SlR.lit (enc := e_ss) w [.string a, .string b, .string c, .string d] 37 [(a, b), (c, d)] rfl
theorem lit1 (w : World) (a b : ByteArray) : SlR (w.alloc (.cells #[.string a, .string b] 37)) e_ss (.slice (some ⟨w.heap.size, 0, none⟩) 1 1) [(a, b)] := SlR.lit (enc := e_ss) w [.string a, .string b] 37 [(a, b)] rfl
theorem low4 (n : ByteArray) : hasB below4 (lowS n) = true → lowS n = ⟨#[99, 111, 110, 116, 101, 110, 116, 45, 108, 101, 110, 103, 116, 104]⟩ ∨ lowS n = ⟨#[99, 111, 110, 116, 101, 110, 116, 45, 114, 97, 110, 103, 101]⟩ ∨ lowS n = ⟨#[99, 111, 110, 116, 101, 110, 116, 45, 101, 110, 99, 111, 100, 105, 110, 103]⟩ ∨ lowS n = ⟨#[99, 111, 110, 116, 101, 110, 116, 45, 116, 121, 112, 101]⟩ := by
  intro h
  have := hasB_iff.1 h
  simpa [below4] using this
set_option maxRecDepth 100000 in
set_option maxHeartbeats 6400000 in
theorem policyFresh_walk (u : Value) (old : List Fld) (v : Value) (now : List Fld) (n : ByteArray) (w : World) (hu : SlR w e_ss u old) (hos : (old.map (fun d => d.1.size + d.2.size + 2)).sum ≤ 1048576) (hv : SlR w e_ss v now) (hns : (now.map (fun d => d.1.size + d.2.size + 2)).sum ≤ 1048576) (hn : n.size ≤ 1048576) :
    Calls Try.prog 4 #[u, v, .string n] w fun e w' => e = .returned (.bool true) ∧ Below w.heap.size w w' := by
  have ho' : wt old ≤ 1048576 := hos
  have hn' : wt now ≤ 1048576 := hns
  have HU : Hid (FOk w u old) := ⟨hu, by omega⟩
  have HV : Hid (FOk w v now) := ⟨hv, by omega⟩
  have hst : wt (stripF now) ≤ wt now := wt_filter _ _
  have hfr : wt (freshF old now) ≤ 2097152 := by
    unfold freshF
    rw [wt_append]
    have h1 : wt (keepW (namesF now) old) ≤ wt old := wt_filter _ _
    have h2 : wt (keepW below4 (stripF now)) ≤ wt (stripF now) := wt_filter _ _
    omega
  have HAG := Lib.hid (fresh_again old now)
  have HQ := Lib.hid lit_fresh
  have hcs : (hasB below4 (lowS n) = true ∧ txt (freshF old now) n = txt old n ∧ isR (freshF old now) n = isR old n) ∨
      (hasB below4 (lowS n) = false ∧ isR now n = true ∧ txt (freshF old now) n = txt (stripF now) n ∧ isR (freshF old now) n = isR (stripF now) n) ∨
      (hasB below4 (lowS n) = false ∧ isR now n = false ∧ txt (freshF old now) n = txt old n ∧ isR (freshF old now) n = isR old n ∧ isR (stripF now) n = false) := by
    cases hb : hasB below4 (lowS n)
    · by_cases ht : selF now n = []
      · obtain ⟨h1, h2⟩ := fresh_untold (old := old) ht
        refine .inr (.inr ⟨rfl, ?_, ?_, ?_, ?_⟩)
        · unfold isR; rw [ht]; rfl
        · unfold txt; rw [h1]
        · unfold isR; rw [h1]
        · unfold isR; rw [h2]; rfl
      · have h1 := fresh_told (old := old) hb ht
        refine .inr (.inl ⟨rfl, ?_, ?_, ?_⟩)
        · unfold isR; exact decide_eq_true (List.length_pos_iff.2 ht)
        · unfold txt; rw [h1]
        · unfold isR; rw [h1]
    · have h1 := fresh_below (old := old) (now := now) hb
      refine .inl ⟨rfl, ?_, ?_⟩
      · unfold txt; rw [h1]
      · unfold isR; rw [h1]
  have H4 := Lib.hid (low4 n)
  have HN4 : Hid (hasB below4 (lowS n) = false → lowS n ≠ ⟨#[99, 111, 110, 116, 101, 110, 116, 45, 108, 101, 110, 103, 116, 104]⟩ ∧ lowS n ≠ ⟨#[99, 111, 110, 116, 101, 110, 116, 45, 114, 97, 110, 103, 101]⟩ ∧ lowS n ≠ ⟨#[99, 111, 110, 116, 101, 110, 116, 45, 101, 110, 99, 111, 100, 105, 110, 103]⟩ ∧ lowS n ≠ ⟨#[99, 111, 110, 116, 101, 110, 116, 45, 116, 121, 112, 101]⟩) := fun h => by
    refine ⟨?_, ?_, ?_, ?_⟩ <;> (intro e; rw [e] at h; revert h; decide +kernel)
  have HLO := Lib.hid (fun w => lower_any n w (by omega))
  rw [show mkS (Tok.low (sl n)) = lowS n from rfl] at HLO
  have HFR1 := Lib.hid (fun w hU hV => freshen_any u v old now w hU hV (by omega))
  have HFR2 := Lib.hid (fun x w hU hV => freshen_any x v (freshF old now) now w hU hV (by omega))
  rw [HAG.out] at HFR2
  have HG := Lib.hid (fun u l w h => getP_any u l n w h (by omega))
  have HST := Lib.hid (fun w h => strip_any v now w h)
  have HLEN := wt_len (freshF old now)
  have H1 := Lib.hid (fun (x : Value) (w : World) (h : SlR w e_ss x (freshF old now)) => (⟨h, by omega⟩ : FOk w x (freshF old now)))
  have H2 := Lib.hid (fun (x : Value) (w : World) (h : SlR w e_ss x (stripF now)) => (⟨h, by omega⟩ : FOk w x (stripF now)))
  have HGm := Lib.hid (fun u w h => HG.out u (freshF old now) w h)
  have HGo := Lib.hid (fun u w h => HG.out u old w h)
  have HGn := Lib.hid (fun u w h => HG.out u now w h)
  have HGs := Lib.hid (fun u w h => HG.out u (stripF now) w h)
  clear hu hv hos hns hst hfr HAG HG ho' hn'
  generalize freshF old now = M at *
  generalize stripF now = SN at *
  generalize hasB below4 (lowS n) = q at *
  generalize lowS n = N at *
  generalize txt M n = tm at *
  generalize isR M n = im at *
  generalize txt old n = to at *
  generalize isR old n = io at *
  generalize txt now n = tn at *
  generalize isR now n = inn at *
  generalize txt SN n = ts at *
  generalize isR SN n = is at *
  obtain ⟨A, c, rfl, -⟩ := HV.out.sl.form
  go_enter Try.func4, Try.ntmps4
  go_wp2_with fail
  refine (HFR1.out _ HU.out HV.out).mono ?_
  rintro e w1 ⟨⟨m, rfl, o1⟩, b1⟩
  obtain ⟨A1, c1, hm1⟩ := o1.slice
  subst hm1
  have HM1 := Lib.hid (H1.out _ _ (SlR.of_owns o1))
  clear o1
  have HL1 := Lib.hid (lit2 w1 ⟨#[97]⟩ ⟨#[49]⟩ ⟨#[98]⟩ ⟨#[50]⟩)
  have bA : Below w1.heap.size w1 (w1.alloc (.cells #[.string ⟨#[97]⟩, .string ⟨#[49]⟩, .string ⟨#[98]⟩, .string ⟨#[50]⟩] 37)) := (Below.refl _ _).alloc (Nat.le_refl _) _
  have HL2 := Lib.hid (lit1 (w1.alloc (.cells #[.string ⟨#[97]⟩, .string ⟨#[49]⟩, .string ⟨#[98]⟩, .string ⟨#[50]⟩] 37)) ⟨#[65]⟩ ⟨#[51]⟩)
  have HL1' := Lib.hid (HL1.out.alloc (.cells #[.string ⟨#[65]⟩, .string ⟨#[51]⟩] 37))
  have bB := bA.alloc bA.size (.cells #[.string ⟨#[65]⟩, .string ⟨#[51]⟩] 37)
  have hsz : (w1.alloc (.cells #[.string ⟨#[97]⟩, .string ⟨#[49]⟩, .string ⟨#[98]⟩, .string ⟨#[50]⟩] 37)).heap.size = w1.heap.size + 1 := by simp
  rw [hsz] at HL2
  go_wp2_with fail
  refine (freshen_any _ _ [(⟨#[97]⟩, ⟨#[49]⟩), (⟨#[98]⟩, ⟨#[50]⟩)] [(⟨#[65]⟩, ⟨#[51]⟩)] _ ⟨HL1'.out, by decide⟩ ⟨HL2.out, by decide⟩ (by decide)).mono ?_
  rintro e w2 ⟨⟨k, rfl, o2⟩, b2⟩
  rw [HQ.out] at o2
  have HK := Lib.hid (SlR.of_owns o2)
  clear o2
  have B12 := bB.trans (b2.mono bB.size)
  have HK2 := Lib.hid (HK.out.below ((Below.refl _ w2).alloc (Nat.le_refl _) (.cells #[.string ⟨#[98]⟩, .string ⟨#[50]⟩, .string ⟨#[65]⟩, .string ⟨#[51]⟩] 37)))
  have HL3 := Lib.hid (lit2 w2 ⟨#[98]⟩ ⟨#[50]⟩ ⟨#[65]⟩ ⟨#[51]⟩)
  go_wp2_with fail
  refine (eqFld_any k _ [(⟨#[98]⟩, ⟨#[50]⟩), (⟨#[65]⟩, ⟨#[51]⟩)] [(⟨#[98]⟩, ⟨#[50]⟩), (⟨#[65]⟩, ⟨#[51]⟩)] _ HK2.out HL3.out (by decide) (by decide)).mono ?_
  rintro e w3 ⟨rfl, b3⟩
  rw [decide_eq_true rfl]
  have B13 : Below w1.heap.size w1 w3 := (B12.alloc B12.size _).trans (b3.mono (by have := B12.size; simp; omega))
  have B3 := belT b1 B13
  have HM3 := Lib.hid (HM1.out.below B13)
  clear HK HK2 HL1 HL1' HL2 HL3 bA bB b2 b3 B12 hsz
  go_wp2_with fail
  refine (HGm.out _ _ HM3.out).mono ?_
  rintro e w4 ⟨rfl, b4⟩
  have B4 := belT B3 b4
  go_wp2_with fail
  refine (HGo.out _ _ (HU.out.below B4)).mono ?_
  rintro e w5 ⟨rfl, b5⟩
  have B5 := belT B4 b5
  go_wp2_with fail
  refine (HST.out _ (HV.out.below B5)).mono ?_
  rintro e w6 ⟨⟨sx, rfl, o6⟩, b6⟩
  have HS6 := Lib.hid (H2.out _ _ (SlR.of_owns o6))
  clear o6
  have B6 := belT B5 b6
  go_wp2_with fail
  refine (HGs.out _ _ HS6.out).mono ?_
  rintro e w7 ⟨rfl, b7⟩
  have B7 := belT B6 b7
  go_wp2_with fail
  refine (HGn.out _ _ (HV.out.below B7)).mono ?_
  rintro e w8 ⟨rfl, b8⟩
  have B8 := belT B7 b8
  go_wp2_with fail
  refine (HLO.out _).mono ?_
  rintro e w9 ⟨rfl, b9⟩
  have B9 := belT B8 b9
  have HM9 := Lib.hid (((((((HM3.out.below b4).below b5).below b6).below b7).below b8).below b9))
  clear b1 B13 B3 b4 B4 b5 B5 b6 B6 b7 B7 b8 B8 b9 HGo HGs HGn HLO HST HFR1 HM1 HM3 HS6
  have hself : ∀ t : ByteArray, (t.toList == t.toList) = true := fun t => by simp
  rcases hcs with ⟨rfl, rfl, rfl⟩ | ⟨rfl, rfl, rfl, rfl⟩ | ⟨rfl, rfl, rfl, rfl, rfl⟩
  · have h4 := H4.out rfl
    clear H4 HN4
    rcases h4 with rfl | rfl | rfl | rfl
    all_goals
      go_wp2_with fail
      go_ret
      exact ⟨rfl, B9⟩
  all_goals
    obtain ⟨n1, n2, n3, n4⟩ := HN4.out rfl
    have e1 : (N.toList == [99, 111, 110, 116, 101, 110, 116, 45, 108, 101, 110, 103, 116, 104]) = false := by rw [beq_eq_false_iff_ne]; exact fun h => n1 (sl_inj (by rw [← ba_toList, h]; rfl))
    have e2 : (N.toList == [99, 111, 110, 116, 101, 110, 116, 45, 114, 97, 110, 103, 101]) = false := by rw [beq_eq_false_iff_ne]; exact fun h => n2 (sl_inj (by rw [← ba_toList, h]; rfl))
    have e3 : (N.toList == [99, 111, 110, 116, 101, 110, 116, 45, 101, 110, 99, 111, 100, 105, 110, 103]) = false := by rw [beq_eq_false_iff_ne]; exact fun h => n3 (sl_inj (by rw [← ba_toList, h]; rfl))
    have e4 : (N.toList == [99, 111, 110, 116, 101, 110, 116, 45, 116, 121, 112, 101]) = false := by rw [beq_eq_false_iff_ne]; exact fun h => n4 (sl_inj (by rw [← ba_toList, h]; rfl))
    clear n1 n2 n3 n4 H4 HN4
  · cases im
    all_goals
      go_wp2_with fail
      refine (HFR2.out _ _ HM9.out (HV.out.below B9)).mono ?_
      rintro e w10 ⟨⟨ag, rfl, o10⟩, b10⟩
      have HA10 := Lib.hid (H1.out _ _ (SlR.of_owns o10))
      obtain ⟨A2, c2, ha2⟩ := o10.slice
      subst ha2
      clear o10
      go_wp2_with fail
      refine (HGm.out _ _ HA10.out).mono ?_
      rintro e w11 ⟨rfl, b11⟩
      go_wp2_with fail
      go_ret
      exact ⟨rfl, belT (belT B9 b10) b11⟩
  · cases im
    all_goals
      go_wp2_with fail
      refine (HFR2.out _ _ HM9.out (HV.out.below B9)).mono ?_
      rintro e w10 ⟨⟨ag, rfl, o10⟩, b10⟩
      have HA10 := Lib.hid (H1.out _ _ (SlR.of_owns o10))
      obtain ⟨A2, c2, ha2⟩ := o10.slice
      subst ha2
      clear o10
      go_wp2_with fail
      refine (HGm.out _ _ HA10.out).mono ?_
      rintro e w11 ⟨rfl, b11⟩
      go_wp2_with fail
      go_ret
      exact ⟨rfl, belT (belT B9 b10) b11⟩
end Go.Proofs.Ytiijgbgknolmcaa
