/- date's Parse: what it answers. -/
import Derived.Test.YtiijgbgknolmcaaDoorDatN
namespace Go.Proofs.YtiijgbgknolmcaaDoor
set_option maxRecDepth 20000
open Go.RowKit
namespace Dt
theorem dg_ok (n : Nat) (h : n < 10) : 48 ≤ dg n ∧ dg n ≤ 57 ∧ (dg n).toNat - 48 = n := by
  have h0 : ∀ n : Fin 10, 48 ≤ dg n.val ∧ dg n.val ≤ 57 ∧ (dg n.val).toNat - 48 = n.val := by decide
  exact h0 ⟨n, h⟩
theorem num_cons (n : Nat) (h : n < 10) (l : List UInt8) (k : Nat) : num (dg n :: l) k = num l (10 * k + n) := by
  obtain ⟨h1, h2, h3⟩ := dg_ok n h
  show (if _ then _ else _) = _
  rw [if_pos ⟨h1, h2⟩, h3]
theorem numI_d2 (n : Nat) (h : n < 100) : numI (d2 n) = n := by
  unfold numI d2
  rw [num_cons _ (by omega), num_cons _ (by omega)]
  show ((10 * (10 * 0 + n / 10) + n % 10 : Nat) : Int) = n
  omega
theorem numI_d4 (n : Nat) (h : n < 10000) : numI (d4 n) = n := by
  unfold numI d4
  rw [num_cons _ (by omega), num_cons _ (by omega), num_cons _ (by omega), num_cons _ (by omega)]
  show ((10 * (10 * (10 * (10 * 0 + n / 1000) + n / 100 % 10) + n / 10 % 10) + n % 10 : Nat) : Int) = n
  omega
theorem index_mo (m : Nat) (h : 1 ≤ m ∧ m ≤ 12) : Lib.index months12 (mo m) = ((3 * m - 3 : Nat) : Int) := by
  have h0 : ∀ m : Fin 13, 1 ≤ m.val → Lib.index months12 (mo m.val) = ((3 * m.val - 3 : Nat) : Int) := by decide +kernel
  exact h0 ⟨m, by omega⟩ h.1
/-- What stands where, in a date's text. -/
theorem textD_at (k d m y s : Nat) (hk : k < 7) (hm : 1 ≤ m ∧ m ≤ 12) :
    ((textD k d m y s).drop 5).take 2 = d2 d ∧ ((textD k d m y s).drop 8).take 3 = mo m ∧ ((textD k d m y s).drop 12).take 4 = d4 y ∧
    ((textD k d m y s).drop 17).take 2 = d2 (s / 3600) ∧ ((textD k d m y s).drop 20).take 2 = d2 (s / 60 % 60) ∧ ((textD k d m y s).drop 23).take 2 = d2 (s % 60) := by
  obtain ⟨a0, a1, a2, ha⟩ : ∃ a0 a1 a2, wd k = [a0, a1, a2] := by
    have := wd_len k hk
    match hw : wd k, this with
    | [a, b, c], _ => exact ⟨a, b, c, rfl⟩
  obtain ⟨b0, b1, b2, hb⟩ : ∃ b0 b1 b2, mo m = [b0, b1, b2] := by
    have := mo_len m hm
    match hw : mo m, this with
    | [a, b, c], _ => exact ⟨a, b, c, rfl⟩
  unfold textD
  rw [ha, hb]
  unfold d2 d4
  exact ⟨rfl, rfl, rfl, rfl, rfl, rfl⟩
end Dt
/-- internal/bytealg.MaxLen holds some number. -/
def HasMaxL (w : World) : Prop := (∃ m, w.cell? ⟨0, 0, none⟩ = some (.int .i64 m)) ∧ 0 < w.heap.size
theorem index_months (x : ByteArray) (w : World) (hm : HasMaxL w) :
    Calls Tryd.prog 77 #[.string ⟨#[74, 97, 110, 70, 101, 98, 77, 97, 114, 65, 112, 114, 77, 97, 121, 74, 117, 110, 74, 117, 108, 65, 117, 103, 83, 101, 112, 79, 99, 116, 78, 111, 118, 68, 101, 99]⟩, .string x] w fun e w' => e = .returned (.int .i64 (Lib.index Dt.months12 (sl x))) ∧ w = w' := by
  obtain ⟨⟨m, hm⟩, -⟩ := hm
  exact (Tryd.strings_Index _ x m w (by decide) hm).mono fun e w' ⟨he, hw⟩ => ⟨he, hw.symm⟩
theorem days_code (y m d : Int) (w : World) : ∃ k c : Int, 0 ≤ k ∧ k ≤ 2932896 ∧ (c = 0 ∨ c = 1) ∧ Calls Tryd.prog 78 #[.int .i64 y, .int .i64 m, .int .i64 d] w fun e w' => e = .returned (.tuple #[.int .i64 k, .int .i64 c]) ∧ w = w' := by
  cases h : Cal.vld y m d
  · exact ⟨0, 1, by omega, by omega, .inr rfl, days_no y m d w h⟩
  · have := Cal.num_range y m d h
    exact ⟨_, 0, this.1, this.2, .inl rfl, days_ok y m d w h⟩
/-- What the walk comes to, from what is read. -/
def ParseEnd (s : ByteArray) (mi H Mi Se k c : Int) (e : Ending) : Prop :=
  ((0 ≤ mi ∧ mi % 3 = 0 ∧ c = 0 ∧ 0 ≤ H ∧ 0 ≤ Mi ∧ 0 ≤ Se) ∧ ∃ n : Nat, (n : Int) = k * 86400 + H * 3600 + Mi * 60 + Se ∧ n ≤ 253402300799 ∧ mkS (Dt.printD n) = s ∧ e = .returned (.tuple #[.int .i64 n, .int .i64 0])) ∨
  (¬ ((0 ≤ mi ∧ mi % 3 = 0 ∧ c = 0 ∧ 0 ≤ H ∧ 0 ≤ Mi ∧ 0 ≤ Se) ∧ ∃ n : Nat, (n : Int) = k * 86400 + H * 3600 + Mi * 60 + Se ∧ n ≤ 253402300799 ∧ mkS (Dt.printD n) = s) ∧ e = .returned (.tuple #[.int .i64 0, .int .i64 3]))
set_option maxHeartbeats 3200000 in
theorem parse_core (s : ByteArray) (w : World) (hs : s.size = 29) (hp : HasP10 w) (a : Nat) (ha : a ≤ 36) (Y D H Mi Se k c : Int) (hY : -1 ≤ Y ∧ Y ≤ 9999) (hD : -1 ≤ D ∧ D ≤ 99) (hH : -1 ≤ H ∧ H ≤ 99) (hMi : -1 ≤ Mi ∧ Mi ≤ 99) (hSe : -1 ≤ Se ∧ Se ≤ 99) (hk : 0 ≤ k ∧ k ≤ 2932896) (hc : c = 0 ∨ c = 1)
    (HI : ∀ w', Below w.heap.size w w' → Calls Tryd.prog 77 #[.string ⟨#[74, 97, 110, 70, 101, 98, 77, 97, 114, 65, 112, 114, 77, 97, 121, 74, 117, 110, 74, 117, 108, 65, 117, 103, 83, 101, 112, 79, 99, 116, 78, 111, 118, 68, 101, 99]⟩, .string (s.extract 8 11)] w' fun e w'' => e = .returned (.int .i64 (a : Int)) ∧ w' = w'')
    (HA : ∀ w', Calls Tryd.prog 79 #[.string (s.extract 12 16)] w' fun e w'' => e = .returned (.int .i64 Y) ∧ w' = w'')
    (HB : ∀ w', Calls Tryd.prog 79 #[.string (s.extract 5 7)] w' fun e w'' => e = .returned (.int .i64 D) ∧ w' = w'')
    (HD : ∀ w', Calls Tryd.prog 78 #[.int .i64 Y, .int .i64 ((a : Int) / 3 + 1), .int .i64 D] w' fun e w'' => e = .returned (.tuple #[.int .i64 k, .int .i64 c]) ∧ w' = w'')
    (HH : ∀ w', Calls Tryd.prog 79 #[.string (s.extract 17 19)] w' fun e w'' => e = .returned (.int .i64 H) ∧ w' = w'')
    (HM : ∀ w', Calls Tryd.prog 79 #[.string (s.extract 20 22)] w' fun e w'' => e = .returned (.int .i64 Mi) ∧ w' = w'')
    (HS : ∀ w', Calls Tryd.prog 79 #[.string (s.extract 23 25)] w' fun e w'' => e = .returned (.int .i64 Se) ∧ w' = w'') :
    Calls Tryd.prog 63 #[.string s] w fun e w' => ParseEnd s a H Mi Se k c e ∧ Below w.heap.size w w' := by
  obtain ⟨sM, hsM⟩ : ∃ x, s.extract 8 11 = x := ⟨_, rfl⟩
  obtain ⟨sA, hsA⟩ : ∃ x, s.extract 12 16 = x := ⟨_, rfl⟩
  obtain ⟨sB, hsB⟩ : ∃ x, s.extract 5 7 = x := ⟨_, rfl⟩
  obtain ⟨sH, hsH⟩ : ∃ x, s.extract 17 19 = x := ⟨_, rfl⟩
  obtain ⟨sI, hsI⟩ : ∃ x, s.extract 20 22 = x := ⟨_, rfl⟩
  obtain ⟨sS, hsS⟩ : ∃ x, s.extract 23 25 = x := ⟨_, rfl⟩
  rw [hsM] at HI
  rw [hsA] at HA
  rw [hsB] at HB
  rw [hsH] at HH
  rw [hsI] at HM
  rw [hsS] at HS
  have hb : ∀ {P : Ending → Prop} {f : FuncId} {vs : Array Value} {w : World}, Calls Tryd.prog f vs w (fun e w'' => P e ∧ w = w'') → Calls Tryd.prog f vs w (fun e w'' => P e ∧ Below w.heap.size w w'') := fun h => h.mono fun e w'' ⟨h1, h2⟩ => ⟨h1, h2 ▸ Below.refl _ _⟩
  have HA' := Lib.hid (fun w' => hb (HA w'))
  have HB' := Lib.hid (fun w' => hb (HB w'))
  have HD' := Lib.hid (fun w' => hb (HD w'))
  have HH' := Lib.hid (fun w' => hb (HH w'))
  have HM' := Lib.hid (fun w' => hb (HM w'))
  have HS' := Lib.hid (fun w' => hb (HS w'))
  have HI' := Lib.hid HI
  have HP := Lib.hid hp
  clear hb HA HB HD HH HM HS HI hp
  obtain ⟨a3, ha3⟩ : ∃ a3 : Nat, (a : Int) / 3 = (a3 : Int) := ⟨a / 3, rfl⟩
  have ha3' : a3 ≤ 12 := by omega
  rw [ha3] at HD'
  have hw0 : IntKind.i64.wrap (a3 : Int) = (a3 : Int) := IntWalk.i64_in _ (by omega)
  have hw1 : IntKind.i64.wrap ((a3 : Int) + 1) = (a3 : Int) + 1 := IntWalk.i64_in _ (by omega)
  go_enter Tryd.func63, Tryd.ntmps63
  go_wp2_with fail
  refine (HI'.out _ (Below.refl _ _)).mono ?_
  rintro e w' ⟨rfl, rfl⟩
  go_wp2_with fail
  refine wp_region_seq [(true, 0), (true, 1), (true, 3), (true, 4), (true, 5), (true, 6), (true, 7), (false, 2), (false, 8), (false, 9), (true, 10), (true, 11), (true, 12), (true, 13), (true, 14)] (fun w' => Below w.heap.size w w') (by kernel_rfl) (by kernel_rfl) (fun _ _ _ _ _ h => h) (by kernel_rfl) (by kernel_rfl) (by first | exact (Below.refl _ _).drew | exact Below.drew (by assumption)) ?_
  have bS : Below w.heap.size w _ := (by first | exact Below.drew (by assumption) | exact (Below.refl _ w).drew)
  iterate 15 (first
    | (apply seqH_skip; (focus (simp only [List.getElem?_toArray, List.getElem?_cons_succ, List.getElem?_cons_zero]; rfl)); (focus rfl); simp only [Act.put, List.setIfInBounds_toArray, List.set_cons_zero, List.set_cons_succ])
    | (apply seqH_take; (focus (simp only [List.getElem?_toArray, List.getElem?_cons_succ, List.getElem?_cons_zero]; rfl)); (focus rfl); (focus (intro w' hS; skip; first | (go_simp; rfl) | (go_simp; done))); simp only [Act.put, List.setIfInBounds_toArray, List.set_cons_zero, List.set_cons_succ])
    | (apply seqH_pass; (focus (simp only [List.getElem?_toArray, List.getElem?_cons_succ, List.getElem?_cons_zero]; rfl)); (focus rfl); (focus assumption); simp only [Act.put, List.setIfInBounds_toArray, List.set_cons_zero, List.set_cons_succ])
    | (apply seqH_eff; (focus (simp only [List.getElem?_toArray, List.getElem?_cons_succ, List.getElem?_cons_zero]; rfl)); (focus rfl); intro K hK; go_simp; (first | (go_at_call 79; (first | (with_reducible refine (HA'.out _).mono ?_) | (with_reducible refine (HB'.out _).mono ?_))) | (go_at_call 78; (with_reducible refine (HD'.out _).mono ?_))); rintro e wN ⟨rfl, bN⟩; refine hK _ _ (seq_next (by assumption) bN (fun bS' => ?_)); clear hK K))
  refine seqH_nil ?_
  clear bN bS
  go_wp2_with fail
  refine wp_region_seq [(true, 0), (true, 1), (true, 3), (true, 4), (true, 6), (true, 7), (false, 2), (false, 5), (false, 8), (true, 9), (true, 10), (true, 11)] (fun w' => Below w.heap.size w w') (by kernel_rfl) (by kernel_rfl) (fun _ _ _ _ _ h => h) (by kernel_rfl) (by kernel_rfl) (by first | exact (Below.refl _ _).drew | exact Below.drew (by assumption)) ?_
  have bS : Below w.heap.size w _ := (by first | exact Below.drew (by assumption) | exact (Below.refl _ w).drew)
  iterate 12 (first
    | (apply seqH_skip; (focus (simp only [List.getElem?_toArray, List.getElem?_cons_succ, List.getElem?_cons_zero]; rfl)); (focus rfl); simp only [Act.put, List.setIfInBounds_toArray, List.set_cons_zero, List.set_cons_succ])
    | (apply seqH_take; (focus (simp only [List.getElem?_toArray, List.getElem?_cons_succ, List.getElem?_cons_zero]; rfl)); (focus rfl); (focus (intro w' hS; skip; first | (go_simp; rfl) | (go_simp; done))); simp only [Act.put, List.setIfInBounds_toArray, List.set_cons_zero, List.set_cons_succ])
    | (apply seqH_pass; (focus (simp only [List.getElem?_toArray, List.getElem?_cons_succ, List.getElem?_cons_zero]; rfl)); (focus rfl); (focus assumption); simp only [Act.put, List.setIfInBounds_toArray, List.set_cons_zero, List.set_cons_succ])
    | (apply seqH_eff; (focus (simp only [List.getElem?_toArray, List.getElem?_cons_succ, List.getElem?_cons_zero]; rfl)); (focus rfl); intro K hK; go_simp; (go_at_call 79; (first | (with_reducible refine (HH'.out _).mono ?_) | (with_reducible refine (HM'.out _).mono ?_) | (with_reducible refine (HS'.out _).mono ?_))); rintro e wN ⟨rfl, bN⟩; refine hK _ _ (seq_next (by assumption) bN (fun bS' => ?_)); clear hK K))
  refine seqH_nil ?_
  clear bN bS HA' HB' HD' HH' HM' HS' HI'
  have hmod : ((a : Int) % 3 ≠ 0) ↔ ¬ ((a : Int) % 3 = 0) := Iff.rfl
  by_cases hg : (a : Int) % 3 = 0 ∧ c = 0 ∧ 0 ≤ H ∧ 0 ≤ Mi ∧ 0 ≤ Se
  · obtain ⟨g1, g2, g3, g4, g5⟩ := hg
    obtain ⟨kn, rfl⟩ : ∃ x : Nat, k = (x : Int) := ⟨k.toNat, by omega⟩
    obtain ⟨Hn, rfl⟩ : ∃ x : Nat, H = (x : Int) := ⟨H.toNat, by omega⟩
    obtain ⟨In, rfl⟩ : ∃ x : Nat, Mi = (x : Int) := ⟨Mi.toNat, by omega⟩
    obtain ⟨Sn, rfl⟩ : ∃ x : Nat, Se = (x : Int) := ⟨Se.toNat, by omega⟩
    subst g2
    obtain ⟨nn, hnn⟩ : ∃ x : Nat, kn * 86400 + Hn * 3600 + In * 60 + Sn = x := ⟨_, rfl⟩
    have hni : (kn : Int) * 86400 + (Hn : Int) * 3600 + (In : Int) * 60 + (Sn : Int) = (nn : Int) := by omega
    have HNI := Lib.hid hni
    clear hnn
    have hc0 : Hid (∀ n : Nat, (n : Int) = (kn : Int) * 86400 + (Hn : Int) * 3600 + (In : Int) * 60 + (Sn : Int) → n = nn) := fun n hn => by rw [hni] at hn; omega
    go_wp2_with fail
    have hsn : ∀ x : ByteArray, (!(x.toList == s.toList)) = !decide (x = s) := fun x => by
      rw [ba_toList, ba_toList]
      congr 1
      rw [Bool.eq_iff_iff]
      simp only [beq_iff_eq, decide_eq_true_eq]
      exact ⟨fun h => sl_inj h, fun h => by rw [h]⟩
    by_cases hmax : nn ≤ 253402300799
    · refine (datePrint_ok nn _ hmax (HP.out.below rfl (by assumption))).mono ?_
      rintro e w5 ⟨rfl, b5⟩
      have hb5 : Below w.heap.size w w5 := Below.trans (by assumption) (b5.mono (Below.size (by assumption)))
      have hx := hsn (mkS (Dt.printD nn))
      by_cases he : mkS (Dt.printD nn) = s
      · rw [decide_eq_true he, Bool.not_true] at hx
        have HE := Lib.hid he
        generalize mkS (Dt.printD nn) = X at hx ⊢
        clear he hsn
        go_wp2_with fail
        go_ret2
        exact ⟨.inl ⟨⟨by omega, g1, rfl, g3, g4, g5⟩, nn, HNI.out.symm, hmax, HE.out, rfl⟩, hb5⟩
      · rw [decide_eq_false he, Bool.not_false] at hx
        have HE := Lib.hid he
        generalize hX : mkS (Dt.printD nn) = X at hx ⊢
        clear he hsn hX
        go_wp2_with fail
        go_ret2
        exact ⟨.inr ⟨fun ⟨_, n, h1, h2, h3⟩ => by obtain rfl := hc0.out n h1; exact HE.out h3, rfl⟩, hb5⟩
    · have he : ByteArray.empty ≠ s := fun h => by rw [← h] at hs; cases hs
      have hno := fun w => datePrint_no (nn : Int) w (.inr (by omega))
      generalize ByteArray.empty = X at he hno
      refine (hno _).mono ?_
      rintro e w5 ⟨rfl, rfl⟩
      have hx := hsn X
      rw [decide_eq_false he, Bool.not_false] at hx
      clear he hsn hno
      go_wp2_with fail
      go_ret2
      exact ⟨.inr ⟨fun ⟨_, n, h1, h2, h3⟩ => by obtain rfl := hc0.out n h1; exact hmax h2, rfl⟩, by assumption⟩
  · have HG := Lib.hid hg
    clear hmod
    go_wp2
    all_goals first
      | (go_ret2
         exact ⟨.inr ⟨fun ⟨⟨_, h1, h2, h3, h4, h5⟩, _⟩ => HG.out ⟨h1, (by first | exact h2 | assumption), h3, h4, h5⟩, rfl⟩, by assumption⟩)
      | (exfalso; apply hg; refine ⟨?_, ?_, ?_, ?_, ?_⟩ <;> first | assumption | omega)
/-! ### The text of a time, read -/
theorem mkS_ext (l : List UInt8) (i j : Nat) : (mkS l).extract i j = mkS ((l.drop i).take (j - i)) := sl_inj (by rw [sl_extract, sl_mkS, sl_mkS])
theorem index_bound (l sub : List UInt8) : -1 ≤ Lib.index l sub ∧ Lib.index l sub ≤ (l.length : Int) := by
  refine ⟨Lib.index_ge l sub, ?_⟩
  induction l with
  | nil => unfold Lib.index; split <;> simp
  | cons b l ih =>
    unfold Lib.index
    split
    · simp only [List.length_cons]; omega
    · split
      · simp only [List.length_cons]; omega
      · simp only [List.length_cons]; omega
/-- What Parse answers. -/
def DateAns (s : ByteArray) (e : Ending) : Prop :=
  (∃ n : Nat, n ≤ 253402300799 ∧ s = mkS (Dt.printD n) ∧ e = .returned (.tuple #[.int .i64 n, .int .i64 0])) ∨
  ((∀ n : Nat, n ≤ 253402300799 → s ≠ mkS (Dt.printD n)) ∧ e = .returned (.tuple #[.int .i64 0, .int .i64 3]))
end Go.Proofs.YtiijgbgknolmcaaDoor
