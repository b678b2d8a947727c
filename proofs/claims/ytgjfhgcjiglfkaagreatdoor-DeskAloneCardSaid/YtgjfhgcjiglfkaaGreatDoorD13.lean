import Derived.Test.YtgjfhgcjiglfkaaGreatDoorD12
import Derived.Test.YtgjfhgcjiglfkaaGreatDoorD11
import Derived.BigQuiet
import Derived.Test.YtgjfhgcjiglfkaaGreatDoorD1
import Derived.Test.YtgjfhgcjiglfkaaGreatDoorD9
import Derived.Deep.MidRow
import Derived.Deep.WholeRow
import Derived.Test.YtgjfhgcjiglfkaaGreatDoorD2
import Derived.Lib.ItoaMem
import Derived.Lib.ItoaLen
import Derived.Test.YtgjfhgcjiglfkaaGreatDoorD5
import Derived.Test.YtgjfhgcjiglfkaaGreatDoorD4
import Derived.Test.YtgjfhgcjiglfkaaGreatDoorD0
import Derived.Deep.QuietTactic
import Derived.IntWalk
set_option linter.unusedVariables false
set_option linter.unusedSimpArgs false
namespace Go.Proofs.YtgjfhgcjiglfkaaGreatDoor
set_option maxRecDepth 20000
open Go.RowKit
namespace Dt
theorem dg_ok (n : Nat) (h : n < 10) : 48 ≤ dg n ∧ dg n ≤ 57 ∧ (dg n).toNat - 48 = n := by
  have h0 : ∀ n : Fin 10, 48 ≤ dg n.val ∧ dg n.val ≤ 57 ∧ (dg n.val).toNat - 48 = n.val := by decide
  exact h0 ⟨n, h⟩
theorem num_cons (n : Nat) (h : n < 10) (l : List UInt8) (k : Nat) : num (dg n :: l) k = num l (10 * k + n) := by
  obtain ⟨h1, h2, h3⟩ := dg_ok n h
  show (if _ then _ else _) = _
  rw [if_pos ⟨h1, h2⟩, h3]
theorem numI_d2 (n : Nat) (h : n < 100) : numI (d2 n) = n := by
  unfold numI d2
  rw [num_cons _ (by omega), num_cons _ (by omega)]
  show ((10 * (10 * 0 + n / 10) + n % 10 : Nat) : Int) = n
  omega
theorem numI_d4 (n : Nat) (h : n < 10000) : numI (d4 n) = n := by
  unfold numI d4
  rw [num_cons _ (by omega), num_cons _ (by omega), num_cons _ (by omega), num_cons _ (by omega)]
  show ((10 * (10 * (10 * (10 * 0 + n / 1000) + n / 100 % 10) + n / 10 % 10) + n % 10 : Nat) : Int) = n
  omega
theorem index_mo (m : Nat) (h : 1 ≤ m ∧ m ≤ 12) : Lib.index months12 (mo m) = ((3 * m - 3 : Nat) : Int) := by
  have h0 : ∀ m : Fin 13, 1 ≤ m.val → Lib.index months12 (mo m.val) = ((3 * m.val - 3 : Nat) : Int) := by decide +kernel
  exact h0 ⟨m, by omega⟩ h.1
theorem textD_at (k d m y s : Nat) (hk : k < 7) (hm : 1 ≤ m ∧ m ≤ 12) :
    ((textD k d m y s).drop 5).take 2 = d2 d ∧ ((textD k d m y s).drop 8).take 3 = mo m ∧ ((textD k d m y s).drop 12).take 4 = d4 y ∧
    ((textD k d m y s).drop 17).take 2 = d2 (s / 3600) ∧ ((textD k d m y s).drop 20).take 2 = d2 (s / 60 % 60) ∧ ((textD k d m y s).drop 23).take 2 = d2 (s % 60) := by
  obtain ⟨a0, a1, a2, ha⟩ : ∃ a0 a1 a2, wd k = [a0, a1, a2] := by
    have := wd_len k hk
    match hw : wd k, this with
    | [a, b, c], _ => exact ⟨a, b, c, rfl⟩
  obtain ⟨b0, b1, b2, hb⟩ : ∃ b0 b1 b2, mo m = [b0, b1, b2] := by
    have := mo_len m hm
    match hw : mo m, this with
    | [a, b, c], _ => exact ⟨a, b, c, rfl⟩
  unfold textD
  rw [ha, hb]
  unfold d2 d4
  exact ⟨rfl, rfl, rfl, rfl, rfl, rfl⟩
end Dt
def HasMaxL (w : World) : Prop := (∃ m, w.cell? ⟨0, 0, none⟩ = some (.int .i64 m)) ∧ 0 < w.heap.size
theorem index_months (x : ByteArray) (w : World) (hm : HasMaxL w) :
    Calls Tryz.prog 116 #[.string ⟨#[74, 97, 110, 70, 101, 98, 77, 97, 114, 65, 112, 114, 77, 97, 121, 74, 117, 110, 74, 117, 108, 65, 117, 103, 83, 101, 112, 79, 99, 116, 78, 111, 118, 68, 101, 99]⟩, .string x] w fun e w' => e = .returned (.int .i64 (Lib.index Dt.months12 (sl x))) ∧ w = w' := by
  obtain ⟨⟨m, hm⟩, -⟩ := hm
  exact (Tryz.strings_Index _ x m w (by decide) hm).mono fun e w' ⟨he, hw⟩ => ⟨he, hw.symm⟩
def ParseEnd (s : ByteArray) (mi H Mi Se k c : Int) (e : Ending) : Prop :=
  ((0 ≤ mi ∧ mi % 3 = 0 ∧ c = 0 ∧ 0 ≤ H ∧ 0 ≤ Mi ∧ 0 ≤ Se) ∧ ∃ n : Nat, (n : Int) = k * 86400 + H * 3600 + Mi * 60 + Se ∧ n ≤ 253402300799 ∧ mkS (Dt.printD n) = s ∧ e = .returned (.tuple #[.int .i64 n, .int .i64 0])) ∨
  (¬ ((0 ≤ mi ∧ mi % 3 = 0 ∧ c = 0 ∧ 0 ≤ H ∧ 0 ≤ Mi ∧ 0 ≤ Se) ∧ ∃ n : Nat, (n : Int) = k * 86400 + H * 3600 + Mi * 60 + Se ∧ n ≤ 253402300799 ∧ mkS (Dt.printD n) = s) ∧ e = .returned (.tuple #[.int .i64 0, .int .i64 3]))
set_option maxHeartbeats 3200000 in
theorem parse_core (s : ByteArray) (w : World) (hs : s.size = 29) (hp : HasP10 w) (a : Nat) (ha : a ≤ 36) (Y D H Mi Se k c : Int) (_ : -1 ≤ Y ∧ Y ≤ 9999) (_ : -1 ≤ D ∧ D ≤ 99) (hH : -1 ≤ H ∧ H ≤ 99) (hMi : -1 ≤ Mi ∧ Mi ≤ 99) (hSe : -1 ≤ Se ∧ Se ≤ 99) (hk : 0 ≤ k ∧ k ≤ 2932896) (hc : c = 0 ∨ c = 1)
    (HI : ∀ w', Below w.heap.size w w' → Calls Tryz.prog 116 #[.string ⟨#[74, 97, 110, 70, 101, 98, 77, 97, 114, 65, 112, 114, 77, 97, 121, 74, 117, 110, 74, 117, 108, 65, 117, 103, 83, 101, 112, 79, 99, 116, 78, 111, 118, 68, 101, 99]⟩, .string (s.extract 8 11)] w' fun e w'' => e = .returned (.int .i64 (a : Int)) ∧ w' = w'')
    (HA : ∀ w', Calls Tryz.prog 118 #[.string (s.extract 12 16)] w' fun e w'' => e = .returned (.int .i64 Y) ∧ w' = w'')
    (HB : ∀ w', Calls Tryz.prog 118 #[.string (s.extract 5 7)] w' fun e w'' => e = .returned (.int .i64 D) ∧ w' = w'')
    (HD : ∀ w', Calls Tryz.prog 117 #[.int .i64 Y, .int .i64 ((a : Int) / 3 + 1), .int .i64 D] w' fun e w'' => e = .returned (.tuple #[.int .i64 k, .int .i64 c]) ∧ w' = w'')
    (HH : ∀ w', Calls Tryz.prog 118 #[.string (s.extract 17 19)] w' fun e w'' => e = .returned (.int .i64 H) ∧ w' = w'')
    (HM : ∀ w', Calls Tryz.prog 118 #[.string (s.extract 20 22)] w' fun e w'' => e = .returned (.int .i64 Mi) ∧ w' = w'')
    (HS : ∀ w', Calls Tryz.prog 118 #[.string (s.extract 23 25)] w' fun e w'' => e = .returned (.int .i64 Se) ∧ w' = w'') :
    Calls Tryz.prog 70 #[.string s] w fun e w' => ParseEnd s a H Mi Se k c e ∧ Below w.heap.size w w' := by
  obtain ⟨sM, hsM⟩ : ∃ x, s.extract 8 11 = x := ⟨_, rfl⟩
  obtain ⟨sA, hsA⟩ : ∃ x, s.extract 12 16 = x := ⟨_, rfl⟩
  obtain ⟨sB, hsB⟩ : ∃ x, s.extract 5 7 = x := ⟨_, rfl⟩
  obtain ⟨sH, hsH⟩ : ∃ x, s.extract 17 19 = x := ⟨_, rfl⟩
  obtain ⟨sI, hsI⟩ : ∃ x, s.extract 20 22 = x := ⟨_, rfl⟩
  obtain ⟨sS, hsS⟩ : ∃ x, s.extract 23 25 = x := ⟨_, rfl⟩
  rw [hsM] at HI
  rw [hsA] at HA
  rw [hsB] at HB
  rw [hsH] at HH
  rw [hsI] at HM
  rw [hsS] at HS
  have hb : ∀ {P : Ending → Prop} {f : FuncId} {vs : Array Value} {w : World}, Calls Tryz.prog f vs w (fun e w'' => P e ∧ w = w'') → Calls Tryz.prog f vs w (fun e w'' => P e ∧ Below w.heap.size w w'') := fun h => h.mono fun e w'' ⟨h1, h2⟩ => ⟨h1, h2 ▸ Below.refl _ _⟩
  have HA' := Lib.hid (fun w' => hb (HA w'))
  have HB' := Lib.hid (fun w' => hb (HB w'))
  have HD' := Lib.hid (fun w' => hb (HD w'))
  have HH' := Lib.hid (fun w' => hb (HH w'))
  have HM' := Lib.hid (fun w' => hb (HM w'))
  have HS' := Lib.hid (fun w' => hb (HS w'))
  have HI' := Lib.hid HI
  have HP := Lib.hid hp
  clear hb HA HB HD HH HM HS HI hp
  obtain ⟨a3, ha3⟩ : ∃ a3 : Nat, (a : Int) / 3 = (a3 : Int) := ⟨a / 3, rfl⟩
  have ha3' : a3 ≤ 12 := by omega
  rw [ha3] at HD'
  have hw0 : IntKind.i64.wrap (a3 : Int) = (a3 : Int) := IntWalk.i64_in _ (by omega)
  have hw1 : IntKind.i64.wrap ((a3 : Int) + 1) = (a3 : Int) + 1 := IntWalk.i64_in _ (by omega)
  go_enter Tryz.func70, Tryz.ntmps70
  go_wp2_with fail
  refine (HI'.out _ (Below.refl _ _)).mono ?_
  rintro e w' ⟨rfl, rfl⟩
  go_wp2_with fail
  refine wp_region_seq [(true, 0), (true, 1), (true, 3), (true, 4), (true, 5), (true, 6), (true, 7), (false, 2), (false, 8), (false, 9), (true, 10), (true, 11), (true, 12), (true, 13), (true, 14)] (fun w' => Below w.heap.size w w') (by kernel_rfl) (by kernel_rfl) (fun _ _ _ _ _ h => h) (by kernel_rfl) (by kernel_rfl) (by first | exact (Below.refl _ _).drew | exact Below.drew (by assumption)) ?_
  have bS : Below w.heap.size w _ := (by first | exact Below.drew (by assumption) | exact (Below.refl _ w).drew)
  iterate 15 (first
    | (apply seqH_skip; (focus (simp only [List.getElem?_toArray, List.getElem?_cons_succ, List.getElem?_cons_zero]; rfl)); (focus rfl); simp only [Act.put, List.setIfInBounds_toArray, List.set_cons_zero, List.set_cons_succ])
    | (apply seqH_take; (focus (simp only [List.getElem?_toArray, List.getElem?_cons_succ, List.getElem?_cons_zero]; rfl)); (focus rfl); (focus (intro w' hS; skip; first | (go_simp; rfl) | (go_simp; done))); simp only [Act.put, List.setIfInBounds_toArray, List.set_cons_zero, List.set_cons_succ])
    | (apply seqH_pass; (focus (simp only [List.getElem?_toArray, List.getElem?_cons_succ, List.getElem?_cons_zero]; rfl)); (focus rfl); (focus assumption); simp only [Act.put, List.setIfInBounds_toArray, List.set_cons_zero, List.set_cons_succ])
    | (apply seqH_eff; (focus (simp only [List.getElem?_toArray, List.getElem?_cons_succ, List.getElem?_cons_zero]; rfl)); (focus rfl); intro K hK; go_simp; (first | (go_at_call 118; (first | (with_reducible refine (HA'.out _).mono ?_) | (with_reducible refine (HB'.out _).mono ?_))) | (go_at_call 117; (with_reducible refine (HD'.out _).mono ?_))); rintro e wN ⟨rfl, bN⟩; refine hK _ _ (seq_next (by assumption) bN (fun bS' => ?_)); clear hK K))
  refine seqH_nil ?_
  clear bN bS
  go_wp2_with fail
  refine wp_region_seq [(true, 0), (true, 1), (true, 3), (true, 4), (true, 6), (true, 7), (false, 2), (false, 5), (false, 8), (true, 9), (true, 10), (true, 11)] (fun w' => Below w.heap.size w w') (by kernel_rfl) (by kernel_rfl) (fun _ _ _ _ _ h => h) (by kernel_rfl) (by kernel_rfl) (by first | exact (Below.refl _ _).drew | exact Below.drew (by assumption)) ?_
  have bS : Below w.heap.size w _ := (by first | exact Below.drew (by assumption) | exact (Below.refl _ w).drew)
  iterate 12 (first
    | (apply seqH_skip; (focus (simp only [List.getElem?_toArray, List.getElem?_cons_succ, List.getElem?_cons_zero]; rfl)); (focus rfl); simp only [Act.put, List.setIfInBounds_toArray, List.set_cons_zero, List.set_cons_succ])
    | (apply seqH_take; (focus (simp only [List.getElem?_toArray, List.getElem?_cons_succ, List.getElem?_cons_zero]; rfl)); (focus rfl); (focus (intro w' hS; skip; first | (go_simp; rfl) | (go_simp; done))); simp only [Act.put, List.setIfInBounds_toArray, List.set_cons_zero, List.set_cons_succ])
    | (apply seqH_pass; (focus (simp only [List.getElem?_toArray, List.getElem?_cons_succ, List.getElem?_cons_zero]; rfl)); (focus rfl); (focus assumption); simp only [Act.put, List.setIfInBounds_toArray, List.set_cons_zero, List.set_cons_succ])
    | (apply seqH_eff; (focus (simp only [List.getElem?_toArray, List.getElem?_cons_succ, List.getElem?_cons_zero]; rfl)); (focus rfl); intro K hK; go_simp; (go_at_call 118; (first | (with_reducible refine (HH'.out _).mono ?_) | (with_reducible refine (HM'.out _).mono ?_) | (with_reducible refine (HS'.out _).mono ?_))); rintro e wN ⟨rfl, bN⟩; refine hK _ _ (seq_next (by assumption) bN (fun bS' => ?_)); clear hK K))
  refine seqH_nil ?_
  clear bN bS HA' HB' HD' HH' HM' HS' HI'
  have hmod : ((a : Int) % 3 ≠ 0) ↔ ¬ ((a : Int) % 3 = 0) := Iff.rfl
  by_cases hg : (a : Int) % 3 = 0 ∧ c = 0 ∧ 0 ≤ H ∧ 0 ≤ Mi ∧ 0 ≤ Se
  · obtain ⟨g1, g2, g3, g4, g5⟩ := hg
    obtain ⟨kn, rfl⟩ : ∃ x : Nat, k = (x : Int) := ⟨k.toNat, by omega⟩
    obtain ⟨Hn, rfl⟩ : ∃ x : Nat, H = (x : Int) := ⟨H.toNat, by omega⟩
    obtain ⟨In, rfl⟩ : ∃ x : Nat, Mi = (x : Int) := ⟨Mi.toNat, by omega⟩
    obtain ⟨Sn, rfl⟩ : ∃ x : Nat, Se = (x : Int) := ⟨Se.toNat, by omega⟩
    subst g2
    obtain ⟨nn, hnn⟩ : ∃ x : Nat, kn * 86400 + Hn * 3600 + In * 60 + Sn = x := ⟨_, rfl⟩
    have hni : (kn : Int) * 86400 + (Hn : Int) * 3600 + (In : Int) * 60 + (Sn : Int) = (nn : Int) := by omega
    have HNI := Lib.hid hni
    clear hnn
    have hc0 : Hid (∀ n : Nat, (n : Int) = (kn : Int) * 86400 + (Hn : Int) * 3600 + (In : Int) * 60 + (Sn : Int) → n = nn) := fun n hn => by rw [hni] at hn; omega
    go_wp2_with fail
    have hsn : ∀ x : ByteArray, (!(x.toList == s.toList)) = !decide (x = s) := fun x => by
      rw [ba_toList, ba_toList]
      congr 1
      rw [Bool.eq_iff_iff]
      simp only [beq_iff_eq, decide_eq_true_eq]
      exact ⟨fun h => sl_inj h, fun h => by rw [h]⟩
    by_cases hmax : nn ≤ 253402300799
    · refine (datePrint_ok nn _ hmax (HP.out.below rfl (by assumption))).mono ?_
      rintro e w5 ⟨rfl, b5⟩
      have hb5 : Below w.heap.size w w5 := Below.trans (by assumption) (b5.mono (Below.size (by assumption)))
      have hx := hsn (mkS (Dt.printD nn))
      by_cases he : mkS (Dt.printD nn) = s
      · rw [decide_eq_true he, Bool.not_true] at hx
        have HE := Lib.hid he
        generalize mkS (Dt.printD nn) = X at hx ⊢
        clear he hsn
        go_wp2_with fail
        go_ret2
        exact ⟨.inl ⟨⟨by omega, g1, rfl, g3, g4, g5⟩, nn, HNI.out.symm, hmax, HE.out, rfl⟩, hb5⟩
      · rw [decide_eq_false he, Bool.not_false] at hx
        have HE := Lib.hid he
        generalize hX : mkS (Dt.printD nn) = X at hx ⊢
        clear he hsn hX
        go_wp2_with fail
        go_ret2
        exact ⟨.inr ⟨fun ⟨_, n, h1, h2, h3⟩ => by obtain rfl := hc0.out n h1; exact HE.out h3, rfl⟩, hb5⟩
    · have he : ByteArray.empty ≠ s := fun h => by rw [← h] at hs; cases hs
      have hno := fun w => datePrint_no (nn : Int) w (.inr (by omega))
      generalize ByteArray.empty = X at he hno
      refine (hno _).mono ?_
      rintro e w5 ⟨rfl, rfl⟩
      have hx := hsn X
      rw [decide_eq_false he, Bool.not_false] at hx
      clear he hsn hno
      go_wp2_with fail
      go_ret2
      exact ⟨.inr ⟨fun ⟨_, n, h1, h2, h3⟩ => by obtain rfl := hc0.out n h1; exact hmax h2, rfl⟩, by assumption⟩
  · have HG := Lib.hid hg
    clear hmod
    go_wp2
    all_goals first
      | (go_ret2
         exact ⟨.inr ⟨fun ⟨⟨_, h1, h2, h3, h4, h5⟩, _⟩ => HG.out ⟨h1, (by first | exact h2 | assumption), h3, h4, h5⟩, rfl⟩, by assumption⟩)
      | (exfalso; apply hg; refine ⟨?_, ?_, ?_, ?_, ?_⟩ <;> first | assumption | omega)
theorem mkS_ext (l : List UInt8) (i j : Nat) : (mkS l).extract i j = mkS ((l.drop i).take (j - i)) := sl_inj (by rw [sl_extract, sl_mkS, sl_mkS])
theorem index_bound (l sub : List UInt8) : -1 ≤ Lib.index l sub ∧ Lib.index l sub ≤ (l.length : Int) := by
  refine ⟨Lib.index_ge l sub, ?_⟩
  induction l with
  | nil => unfold Lib.index; split <;> simp
  | cons b l ih =>
    unfold Lib.index
    split
    · simp only [List.length_cons]; omega
    · split
      · simp only [List.length_cons]; omega
      · simp only [List.length_cons]; omega
def DateAns (s : ByteArray) (e : Ending) : Prop :=
  (∃ n : Nat, n ≤ 253402300799 ∧ s = mkS (Dt.printD n) ∧ e = .returned (.tuple #[.int .i64 n, .int .i64 0])) ∨
  ((∀ n : Nat, n ≤ 253402300799 → s ≠ mkS (Dt.printD n)) ∧ e = .returned (.tuple #[.int .i64 0, .int .i64 3]))
set_option maxRecDepth 20000
set_option maxHeartbeats 3200000 in
theorem parse_neg (s : ByteArray) (w : World) (hs : s.size = 29) (hp : HasP10 w) (Y D H Mi Se k c : Int) (_ : -1 ≤ Y ∧ Y ≤ 9999) (_ : -1 ≤ D ∧ D ≤ 99) (_ : -1 ≤ H ∧ H ≤ 99) (_ : -1 ≤ Mi ∧ Mi ≤ 99) (_ : -1 ≤ Se ∧ Se ≤ 99) (_ : 0 ≤ k ∧ k ≤ 2932896) (_ : c = 0 ∨ c = 1)
    (HI : ∀ w', Below w.heap.size w w' → Calls Tryz.prog 116 #[.string ⟨#[74, 97, 110, 70, 101, 98, 77, 97, 114, 65, 112, 114, 77, 97, 121, 74, 117, 110, 74, 117, 108, 65, 117, 103, 83, 101, 112, 79, 99, 116, 78, 111, 118, 68, 101, 99]⟩, .string (s.extract 8 11)] w' fun e w'' => e = .returned (.int .i64 (-1)) ∧ w' = w'')
    (HA : ∀ w', Calls Tryz.prog 118 #[.string (s.extract 12 16)] w' fun e w'' => e = .returned (.int .i64 Y) ∧ w' = w'')
    (HB : ∀ w', Calls Tryz.prog 118 #[.string (s.extract 5 7)] w' fun e w'' => e = .returned (.int .i64 D) ∧ w' = w'')
    (HD : ∀ w', Calls Tryz.prog 117 #[.int .i64 Y, .int .i64 1, .int .i64 D] w' fun e w'' => e = .returned (.tuple #[.int .i64 k, .int .i64 c]) ∧ w' = w'')
    (HH : ∀ w', Calls Tryz.prog 118 #[.string (s.extract 17 19)] w' fun e w'' => e = .returned (.int .i64 H) ∧ w' = w'')
    (HM : ∀ w', Calls Tryz.prog 118 #[.string (s.extract 20 22)] w' fun e w'' => e = .returned (.int .i64 Mi) ∧ w' = w'')
    (HS : ∀ w', Calls Tryz.prog 118 #[.string (s.extract 23 25)] w' fun e w'' => e = .returned (.int .i64 Se) ∧ w' = w'') :
    Calls Tryz.prog 70 #[.string s] w fun e w' => e = .returned (.tuple #[.int .i64 0, .int .i64 3]) ∧ Below w.heap.size w w' := by
  obtain ⟨sM, hsM⟩ : ∃ x, s.extract 8 11 = x := ⟨_, rfl⟩
  obtain ⟨sA, hsA⟩ : ∃ x, s.extract 12 16 = x := ⟨_, rfl⟩
  obtain ⟨sB, hsB⟩ : ∃ x, s.extract 5 7 = x := ⟨_, rfl⟩
  obtain ⟨sH, hsH⟩ : ∃ x, s.extract 17 19 = x := ⟨_, rfl⟩
  obtain ⟨sI, hsI⟩ : ∃ x, s.extract 20 22 = x := ⟨_, rfl⟩
  obtain ⟨sS, hsS⟩ : ∃ x, s.extract 23 25 = x := ⟨_, rfl⟩
  rw [hsM] at HI
  rw [hsA] at HA
  rw [hsB] at HB
  rw [hsH] at HH
  rw [hsI] at HM
  rw [hsS] at HS
  have hb : ∀ {P : Ending → Prop} {f : FuncId} {vs : Array Value} {w : World}, Calls Tryz.prog f vs w (fun e w'' => P e ∧ w = w'') → Calls Tryz.prog f vs w (fun e w'' => P e ∧ Below w.heap.size w w'') := fun h => h.mono fun e w'' ⟨h1, h2⟩ => ⟨h1, h2 ▸ Below.refl _ _⟩
  have HA' := Lib.hid (fun w' => hb (HA w'))
  have HB' := Lib.hid (fun w' => hb (HB w'))
  have HD' := Lib.hid (fun w' => hb (HD w'))
  have HH' := Lib.hid (fun w' => hb (HH w'))
  have HM' := Lib.hid (fun w' => hb (HM w'))
  have HS' := Lib.hid (fun w' => hb (HS w'))
  have HI' := Lib.hid HI
  have HP := Lib.hid hp
  clear hb HA HB HD HH HM HS HI hp
  have hw1 : IntKind.i64.wrap (IntKind.i64.wrap 0 + 1) = 1 := by decide
  have hw0 : IntKind.i64.wrap 0 = 0 := by decide
  have hw2 : IntKind.i64.wrap (0 + 1) = 1 := by decide
  have hw3 : IntKind.i64.wrap 1 = 1 := by decide
  go_enter Tryz.func70, Tryz.ntmps70
  go_wp2_with fail
  refine (HI'.out _ (Below.refl _ _)).mono ?_
  rintro e w' ⟨rfl, rfl⟩
  go_wp2_with fail
  refine wp_region_seq [(true, 0), (true, 1), (true, 3), (true, 4), (true, 5), (true, 6), (true, 7), (false, 2), (false, 8), (false, 9), (true, 10), (true, 11), (true, 12), (true, 13), (true, 14)] (fun w' => Below w.heap.size w w') (by kernel_rfl) (by kernel_rfl) (fun _ _ _ _ _ h => h) (by kernel_rfl) (by kernel_rfl) (by first | exact (Below.refl _ _).drew | exact Below.drew (by assumption)) ?_
  have bS : Below w.heap.size w _ := (by first | exact Below.drew (by assumption) | exact (Below.refl _ w).drew)
  iterate 15 (first
    | (apply seqH_skip; (focus (simp only [List.getElem?_toArray, List.getElem?_cons_succ, List.getElem?_cons_zero]; rfl)); (focus rfl); simp only [Act.put, List.setIfInBounds_toArray, List.set_cons_zero, List.set_cons_succ])
    | (apply seqH_take; (focus (simp only [List.getElem?_toArray, List.getElem?_cons_succ, List.getElem?_cons_zero]; rfl)); (focus rfl); (focus (intro w' hS; skip; first | (go_simp; rfl) | (go_simp; done))); simp only [Act.put, List.setIfInBounds_toArray, List.set_cons_zero, List.set_cons_succ])
    | (apply seqH_pass; (focus (simp only [List.getElem?_toArray, List.getElem?_cons_succ, List.getElem?_cons_zero]; rfl)); (focus rfl); (focus assumption); simp only [Act.put, List.setIfInBounds_toArray, List.set_cons_zero, List.set_cons_succ])
    | (apply seqH_eff; (focus (simp only [List.getElem?_toArray, List.getElem?_cons_succ, List.getElem?_cons_zero]; rfl)); (focus rfl); intro K hK; go_simp; (first | (go_at_call 118; (first | (with_reducible refine (HA'.out _).mono ?_) | (with_reducible refine (HB'.out _).mono ?_))) | (go_at_call 117; (with_reducible refine (HD'.out _).mono ?_))); rintro e wN ⟨rfl, bN⟩; refine hK _ _ (seq_next (by assumption) bN (fun bS' => ?_)); clear hK K))
  refine seqH_nil ?_
  clear bN bS
  go_wp2_with fail
  refine wp_region_seq [(true, 0), (true, 1), (true, 3), (true, 4), (true, 6), (true, 7), (false, 2), (false, 5), (false, 8), (true, 9), (true, 10), (true, 11)] (fun w' => Below w.heap.size w w') (by kernel_rfl) (by kernel_rfl) (fun _ _ _ _ _ h => h) (by kernel_rfl) (by kernel_rfl) (by first | exact (Below.refl _ _).drew | exact Below.drew (by assumption)) ?_
  have bS : Below w.heap.size w _ := (by first | exact Below.drew (by assumption) | exact (Below.refl _ w).drew)
  iterate 12 (first
    | (apply seqH_skip; (focus (simp only [List.getElem?_toArray, List.getElem?_cons_succ, List.getElem?_cons_zero]; rfl)); (focus rfl); simp only [Act.put, List.setIfInBounds_toArray, List.set_cons_zero, List.set_cons_succ])
    | (apply seqH_take; (focus (simp only [List.getElem?_toArray, List.getElem?_cons_succ, List.getElem?_cons_zero]; rfl)); (focus rfl); (focus (intro w' hS; skip; first | (go_simp; rfl) | (go_simp; done))); simp only [Act.put, List.setIfInBounds_toArray, List.set_cons_zero, List.set_cons_succ])
    | (apply seqH_pass; (focus (simp only [List.getElem?_toArray, List.getElem?_cons_succ, List.getElem?_cons_zero]; rfl)); (focus rfl); (focus assumption); simp only [Act.put, List.setIfInBounds_toArray, List.set_cons_zero, List.set_cons_succ])
    | (apply seqH_eff; (focus (simp only [List.getElem?_toArray, List.getElem?_cons_succ, List.getElem?_cons_zero]; rfl)); (focus rfl); intro K hK; go_simp; (go_at_call 118; (first | (with_reducible refine (HH'.out _).mono ?_) | (with_reducible refine (HM'.out _).mono ?_) | (with_reducible refine (HS'.out _).mono ?_))); rintro e wN ⟨rfl, bN⟩; refine hK _ _ (seq_next (by assumption) bN (fun bS' => ?_)); clear hK K))
  refine seqH_nil ?_
  clear bN bS HA' HB' HD' HH' HM' HS' HI'
  go_wp2_with fail
  go_ret2
  exact ⟨rfl, by assumption⟩
theorem days_all (y m d : Int) : ∃ k c : Int, 0 ≤ k ∧ k ≤ 2932896 ∧ (c = 0 ∨ c = 1) ∧ (Cal.vld y m d = true → k = Cal.num y m d ∧ c = 0) ∧ ∀ w, Calls Tryz.prog 117 #[.int .i64 y, .int .i64 m, .int .i64 d] w fun e w' => e = .returned (.tuple #[.int .i64 k, .int .i64 c]) ∧ w = w' := by
  cases h : Cal.vld y m d
  · exact ⟨0, 1, by omega, by omega, .inr rfl, (fun h => by cases h), fun w => days_no y m d w h⟩
  · have := Cal.num_range y m d h
    exact ⟨_, 0, this.1, this.2, .inl rfl, (fun _ => ⟨rfl, rfl⟩), fun w => days_ok y m d w h⟩
theorem read_print (n : Nat) (h : n ≤ 253402300799) : ∃ Y M D H Mi Se : Nat, 1 ≤ M ∧ M ≤ 12 ∧ Cal.vld Y M D = true ∧ Cal.num Y M D = ((n / 86400 : Nat) : Int) ∧ H * 3600 + Mi * 60 + Se = n % 86400 ∧
    Lib.index Dt.months12 (sl ((mkS (Dt.printD n)).extract 8 11)) = ((3 * M - 3 : Nat) : Int) ∧ Dt.numI (sl ((mkS (Dt.printD n)).extract 12 16)) = Y ∧ Dt.numI (sl ((mkS (Dt.printD n)).extract 5 7)) = D ∧
    Dt.numI (sl ((mkS (Dt.printD n)).extract 17 19)) = H ∧ Dt.numI (sl ((mkS (Dt.printD n)).extract 20 22)) = Mi ∧ Dt.numI (sl ((mkS (Dt.printD n)).extract 23 25)) = Se := by
  have hc := Cal.civ_ok ((n / 86400 : Nat) : Int) (by omega) (by omega)
  have hr : Dt.printD n = Dt.textD (n / 86400 % 7) (Cal.cd ((n / 86400 : Nat) : Int)).toNat (Cal.cm ((n / 86400 : Nat) : Int)).toNat (Cal.cy ((n / 86400 : Nat) : Int)).toNat (n % 86400) := rfl
  have hmd := (Cal.mdays_bd (Cal.cy ((n / 86400 : Nat) : Int)) (Cal.cm ((n / 86400 : Nat) : Int))).2
  have hv := hc.1
  rw [Cal.vld_iff] at hv
  generalize Cal.mdays (Cal.cy ((n / 86400 : Nat) : Int)) (Cal.cm ((n / 86400 : Nat) : Int)) = mx at *
  generalize Cal.cy ((n / 86400 : Nat) : Int) = cy at *
  generalize Cal.cm ((n / 86400 : Nat) : Int) = cm at *
  generalize Cal.cd ((n / 86400 : Nat) : Int) = cd at *
  obtain ⟨y1, y2, m1, m2, d1, d2⟩ := hv
  obtain ⟨Y, rfl⟩ : ∃ Y : Nat, cy = (Y : Int) := ⟨cy.toNat, by omega⟩
  obtain ⟨M, rfl⟩ : ∃ M : Nat, cm = (M : Int) := ⟨cm.toNat, by omega⟩
  obtain ⟨D, rfl⟩ : ∃ Dd : Nat, cd = (Dd : Int) := ⟨cd.toNat, by omega⟩
  rw [Int.toNat_natCast, Int.toNat_natCast, Int.toNat_natCast] at hr
  obtain ⟨t1, t2, t3, t4, t5, t6⟩ := Dt.textD_at (n / 86400 % 7) D M Y (n % 86400) (by omega) (by omega)
  rw [hr]
  refine ⟨Y, M, D, n % 86400 / 3600, n % 86400 / 60 % 60, n % 86400 % 60, by omega, by omega, hc.1, hc.2, by omega, ?_, ?_, ?_, ?_, ?_, ?_⟩
  · rw [mkS_ext, sl_mkS, t2]; exact Dt.index_mo M (by omega)
  · rw [mkS_ext, sl_mkS, t3]; exact Dt.numI_d4 Y (by omega)
  · rw [mkS_ext, sl_mkS, t1]; exact Dt.numI_d2 D (by omega)
  · rw [mkS_ext, sl_mkS, t4]; exact Dt.numI_d2 _ (by omega)
  · rw [mkS_ext, sl_mkS, t5]; exact Dt.numI_d2 _ (by omega)
  · rw [mkS_ext, sl_mkS, t6]; exact Dt.numI_d2 _ (by omega)
theorem HasMaxL.below {B : Nat} {w w' : World} (h : HasMaxL w) (hB : B = w.heap.size) (hb : Below B w w') : HasMaxL w' := by
  subst hB
  exact ⟨h.1.elim fun m hm => ⟨m, (hb.cell h.2).trans hm⟩, Nat.lt_of_lt_of_le h.2 hb.size⟩
theorem printD_len' (n : Nat) (h : n ≤ 253402300799) : (Dt.printD n).length = 29 := by
  have hv := (Cal.civ_ok ((n / 86400 : Nat) : Int) (by omega) (by omega)).1
  unfold Dt.printD
  rw [Cal.vld_iff] at hv
  generalize Cal.mdays (Cal.cy ((n / 86400 : Nat) : Int)) (Cal.cm ((n / 86400 : Nat) : Int)) = mx at *
  generalize Cal.cy ((n / 86400 : Nat) : Int) = cy at *
  generalize Cal.cm ((n / 86400 : Nat) : Int) = cm at *
  generalize Cal.cd ((n / 86400 : Nat) : Int) = cd at *
  exact Dt.textD_len _ _ _ _ _ (by omega) (by omega)
theorem dateParse_any (s : ByteArray) (w : World) (hz : s.size ≤ 140737488351232) (hp : HasP10 w) (hm : HasMaxL w) :
    Calls Tryz.prog 70 #[.string s] w fun e w' => DateAns s e ∧ Below w.heap.size w w' := by
  by_cases hs : s.size = 29
  · have hx : ∀ i j, j ≤ 29 → (sl (s.extract i j)).length = j - i := fun i j h => by rw [sl_len, ext_size _ _ _ (by omega)]
    have hY := Dt.numI_bound (sl (s.extract 12 16)) (by rw [hx _ _ (by omega)]; omega)
    have hD := Dt.numI_bound2 (sl (s.extract 5 7)) (by rw [hx _ _ (by omega)]; omega)
    have hH := Dt.numI_bound2 (sl (s.extract 17 19)) (by rw [hx _ _ (by omega)]; omega)
    have hMi := Dt.numI_bound2 (sl (s.extract 20 22)) (by rw [hx _ _ (by omega)]; omega)
    have hSe := Dt.numI_bound2 (sl (s.extract 23 25)) (by rw [hx _ _ (by omega)]; omega)
    have HA := fun w' => number_any (s.extract 12 16) w' (by rw [ext_size _ _ _ (by omega)]; omega)
    have HB := fun w' => number_any (s.extract 5 7) w' (by rw [ext_size _ _ _ (by omega)]; omega)
    have HH := fun w' => number_any (s.extract 17 19) w' (by rw [ext_size _ _ _ (by omega)]; omega)
    have HM := fun w' => number_any (s.extract 20 22) w' (by rw [ext_size _ _ _ (by omega)]; omega)
    have HS := fun w' => number_any (s.extract 23 25) w' (by rw [ext_size _ _ _ (by omega)]; omega)
    have HI := fun w' (hb : Below w.heap.size w w') => index_months (s.extract 8 11) w' (hm.below rfl hb)
    have hib := index_bound Dt.months12 (sl (s.extract 8 11))
    have hml : Dt.months12.length = 36 := rfl
    have hread : ∀ n : Nat, n ≤ 253402300799 → s = mkS (Dt.printD n) → ∃ Y M D H Mi Se : Nat, 1 ≤ M ∧ M ≤ 12 ∧ Cal.vld Y M D = true ∧ Cal.num Y M D = ((n / 86400 : Nat) : Int) ∧ H * 3600 + Mi * 60 + Se = n % 86400 ∧
        Lib.index Dt.months12 (sl (s.extract 8 11)) = ((3 * M - 3 : Nat) : Int) ∧ Dt.numI (sl (s.extract 12 16)) = Y ∧ Dt.numI (sl (s.extract 5 7)) = D ∧
        Dt.numI (sl (s.extract 17 19)) = H ∧ Dt.numI (sl (s.extract 20 22)) = Mi ∧ Dt.numI (sl (s.extract 23 25)) = Se := fun n hn he => by rw [he]; exact read_print n hn
    generalize Lib.index Dt.months12 (sl (s.extract 8 11)) = mi at *
    generalize Dt.numI (sl (s.extract 12 16)) = Y at *
    generalize Dt.numI (sl (s.extract 5 7)) = D at *
    generalize Dt.numI (sl (s.extract 17 19)) = H at *
    generalize Dt.numI (sl (s.extract 20 22)) = Mi at *
    generalize Dt.numI (sl (s.extract 23 25)) = Se at *
    by_cases hmi : mi = -1
    · subst hmi
      obtain ⟨k, c, k0, k1, kc, -, HD⟩ := days_all Y 1 D
      refine (parse_neg s w hs hp Y D H Mi Se k c hY hD hH hMi hSe ⟨k0, k1⟩ kc HI HA HB HD HH HM HS).mono fun e w' ⟨he, hb⟩ => ⟨.inr ⟨fun n hn hsn => ?_, he⟩, hb⟩
      obtain ⟨_, M, _, _, _, _, _, _, _, _, _, h1, _⟩ := hread n hn hsn
      omega
    · obtain ⟨a, rfl⟩ : ∃ a : Nat, mi = (a : Int) := ⟨mi.toNat, by omega⟩
      obtain ⟨k, c, k0, k1, kc, kv, HD⟩ := days_all Y ((a : Int) / 3 + 1) D
      refine (parse_core s w hs hp a (by omega) Y D H Mi Se k c hY hD hH hMi hSe ⟨k0, k1⟩ kc HI HA HB HD HH HM HS).mono fun e w' ⟨he, hb⟩ => ⟨?_, hb⟩
      rcases he with ⟨_, n, h1, h2, h3, rfl⟩ | ⟨hno, rfl⟩
      · exact .inl ⟨n, h2, h3.symm, rfl⟩
      · refine .inr ⟨fun n hn hsn => hno ?_, rfl⟩
        obtain ⟨Y', M, D', H', Mi', Se', m1, m2, hv, hnum, hsec, e1, e2, e3, e4, e5, e6⟩ := hread n hn hsn
        subst e2 e3 e4 e5 e6
        have ha3 : (a : Int) / 3 + 1 = (M : Int) := by omega
        rw [ha3] at kv
        obtain ⟨kv1, kv2⟩ := kv hv
        refine ⟨⟨by omega, by omega, kv2, by omega, by omega, by omega⟩, n, ?_, hn, hsn.symm⟩
        rw [kv1, hnum]
        omega
  · have hne : ((s.size : Int) != 29) = true := by simp; omega
    go_enter Tryz.func70, Tryz.ntmps70
    go_wp2_with fail
    go_ret2
    refine ⟨.inr ⟨fun n hn he => hs ?_, rfl⟩, Below.refl _ _⟩
    rw [he, mkS_size, printD_len' n hn]
theorem printD_inj {n m : Nat} (hn : n ≤ 253402300799) (hm : m ≤ 253402300799) (h : Dt.printD n = Dt.printD m) : n = m := by
  obtain ⟨Y, M, D, H, Mi, Se, m1, m2, hv, hnum, hsec, e1, e2, e3, e4, e5, e6⟩ := read_print n hn
  obtain ⟨Y', M', D', H', Mi', Se', m1', m2', hv', hnum', hsec', e1', e2', e3', e4', e5', e6'⟩ := read_print m hm
  rw [h] at e1 e2 e3 e4 e5 e6
  rw [e1] at e1'
  rw [e2] at e2'
  rw [e3] at e3'
  rw [e4] at e4'
  rw [e5] at e5'
  rw [e6] at e6'
  obtain rfl : M = M' := by omega
  obtain rfl : Y = Y' := by omega
  obtain rfl : D = D' := by omega
  rw [hnum] at hnum'
  omega
set_option maxRecDepth 20000
namespace Fr
def IsDate (D : ByteArray → Option Nat) : Prop := ∀ s, (∃ n, n ≤ 253402300799 ∧ D s = some n ∧ s = mkS (Dt.printD n)) ∨ (D s = none ∧ ∀ n, n ≤ 253402300799 → s ≠ mkS (Dt.printD n))
theorem isDate_ex : ∃ D, IsDate D := by
  have h : ∀ s : ByteArray, ∃ r : Option Nat, (∃ n, n ≤ 253402300799 ∧ r = some n ∧ s = mkS (Dt.printD n)) ∨ (r = none ∧ ∀ n, n ≤ 253402300799 → s ≠ mkS (Dt.printD n)) := by
    intro s
    by_cases h : ∃ n, n ≤ 253402300799 ∧ s = mkS (Dt.printD n)
    · obtain ⟨n, hn, h⟩ := h
      exact ⟨some n, .inl ⟨n, hn, rfl, h⟩⟩
    · exact ⟨none, .inr ⟨rfl, fun n hn h' => h ⟨n, hn, h'⟩⟩⟩
  exact ⟨fun s => Classical.choose (h s), fun s => Classical.choose_spec (h s)⟩
def nSM : ByteArray := ⟨#[115, 45, 109, 97, 120, 97, 103, 101]⟩
def nMA : ByteArray := ⟨#[109, 97, 120, 45, 97, 103, 101]⟩
def nMR : ByteArray := ⟨#[109, 117, 115, 116, 45, 114, 101, 118, 97, 108, 105, 100, 97, 116, 101]⟩
def nPR : ByteArray := ⟨#[112, 114, 111, 120, 121, 45, 114, 101, 118, 97, 108, 105, 100, 97, 116, 101]⟩
def nNC : ByteArray := ⟨#[110, 111, 45, 99, 97, 99, 104, 101]⟩
def nMF : ByteArray := ⟨#[109, 105, 110, 45, 102, 114, 101, 115, 104]⟩
def nOC : ByteArray := ⟨#[111, 110, 108, 121, 45, 105, 102, 45, 99, 97, 99, 104, 101, 100]⟩
def nMS : ByteArray := ⟨#[109, 97, 120, 45, 115, 116, 97, 108, 101]⟩
def hasD (l : List Dr) (n : ByteArray) : Bool := (findD l n).isSome
def staleF (asks : List Dr) (k : Int) : Bool := match findD asks nMS with | some d => !d.2.1 || decide (k ≤ (secs 0 (sl d.2.2) : Int)) | none => false
def bnames : List ByteArray := [nMR, nPR, nSM, nNC]
def boundF (says : List Dr) : Bool := bnames.any (fun n => hasD says n)
def tailF (asks : List Dr) : Int := if hasD asks nOC = true then 3 else 2
def useF (asks says : List Dr) (life age : Int) : Int :=
  if hasD asks nNC = true ∨ hasD says nNC = true then tailF asks else
  if (secD asks nMA).2 = true ∧ ((secD asks nMA).1 : Int) < age then tailF asks else
  if (secD asks nMF).2 = true ∧ life - age < ((secD asks nMF).1 : Int) then tailF asks else
  if age < life ∨ (boundF says = false ∧ staleF asks (age - life) = true) then 1 else tailF asks
theorem tailF_in (asks : List Dr) : tailF asks = 2 ∨ tailF asks = 3 := by unfold tailF; split <;> simp
theorem stale_mono {asks : List Dr} {a b : Int} (h : a ≤ b) (hs : staleF asks b = true) : staleF asks a = true := by
  unfold staleF at *
  split
  · rename_i d hd
    rw [hd] at hs
    dsimp only at hs
    simp only [Bool.or_eq_true, decide_eq_true_eq] at hs ⊢
    rcases hs with hs | hs
    · exact .inl hs
    · exact .inr (by omega)
  · rename_i hd
    rw [hd] at hs
    cases hs
theorem later (asks says : List Dr) (life a b : Int) (h : a ≤ b) : useF asks says life a = 1 ∨ useF asks says life a = useF asks says life b := by
  by_cases hb : useF asks says life b = tailF asks
  · rw [hb]
    unfold useF
    repeat' split
    all_goals first | exact .inr rfl | exact .inl rfl
  · left
    have ht := tailF_in asks
    unfold useF at hb ⊢
    split at hb
    · exact absurd rfl hb
    rename_i h1
    split at hb
    · exact absurd rfl hb
    rename_i h2
    split at hb
    · exact absurd rfl hb
    rename_i h3
    split at hb
    · rename_i h4
      rw [if_neg h1, if_neg (fun hh => h2 ⟨hh.1, by omega⟩), if_neg (fun hh => h3 ⟨hh.1, by omega⟩), if_pos]
      rcases h4 with h4 | ⟨h4, h5⟩
      · exact .inl (by omega)
      · exact .inr ⟨h4, stale_mono (by omega) h5⟩
    · exact absurd rfl hb
end Fr
end Go.Proofs.YtgjfhgcjiglfkaaGreatDoor
namespace Go.Proofs.YtgjfhgcjiglfkaaGreatDoor
set_option maxRecDepth 20000
open Go.RowKit
namespace Fr
end Fr
end Go.Proofs.YtgjfhgcjiglfkaaGreatDoor
namespace Go.Proofs.YtgjfhgcjiglfkaaGreatDoor
set_option maxRecDepth 20000
open Go.RowKit
namespace Fr
structure Hd where
  rm : ByteArray
  rt : ByteArray
  rf : Value
  rb : ByteArray
  code : Int
  rs : ByteArray
  bd : ByteArray
  asked : Int
  came : Int
  mark : Int
def hv (x : Hd) (u : Value) : Value := .agg #[.string x.rm, .string x.rt, x.rf, .string x.rb, .int .i64 x.code, .string x.rs, u, .string x.bd, .int .i64 x.asked, .int .i64 x.came, .int .i64 x.mark]
structure HB (w : World) (g : Nat) (x : Hd) (u : Value) : Prop where
  lt : g < w.heap.size
  c0 : w.cell? ⟨g, 0, none⟩ = some (.string x.rm)
  c1 : w.cell? ⟨g, 1, none⟩ = some (.string x.rt)
  c2 : w.cell? ⟨g, 2, none⟩ = some x.rf
  c3 : w.cell? ⟨g, 3, none⟩ = some (.string x.rb)
  c4 : w.cell? ⟨g, 4, none⟩ = some (.int .i64 x.code)
  c5 : w.cell? ⟨g, 5, none⟩ = some (.string x.rs)
  c6 : w.cell? ⟨g, 6, none⟩ = some u
  c7 : w.cell? ⟨g, 7, none⟩ = some (.string x.bd)
  c8 : w.cell? ⟨g, 8, none⟩ = some (.int .i64 x.asked)
  c9 : w.cell? ⟨g, 9, none⟩ = some (.int .i64 x.came)
  c10 : w.cell? ⟨g, 10, none⟩ = some (.int .i64 x.mark)
abbrev hA (w : World) (x : Hd) (u : Value) : World := w.alloc (.cells #[.string x.rm, .string x.rt, x.rf, .string x.rb, .int .i64 x.code, .string x.rs, u, .string x.bd, .int .i64 x.asked, .int .i64 x.came, .int .i64 x.mark] 45)
end Fr
end Go.Proofs.YtgjfhgcjiglfkaaGreatDoor
namespace Go.Proofs.YtgjfhgcjiglfkaaGreatDoor
set_option maxRecDepth 20000
open Go.RowKit
namespace Fr
end Fr
end Go.Proofs.YtgjfhgcjiglfkaaGreatDoor
namespace Go.Proofs.YtgjfhgcjiglfkaaGreatDoor
set_option maxRecDepth 20000
open Go.RowKit
namespace Fr
end Fr
set_option maxRecDepth 20000
open Go.RowKit Go.Shelf
namespace Ca
open Bk
section
variable {ex : List TypeId} {ms : List Nat} {n0 : Lim} {w w' w'' : World}
end
structure Ce where
  b : Nat
  n : ByteArray
  h : Fr.Hd
  u : Value
  l : List Fld
  k : List Fld
  key : ByteArray
  pv : Value
structure Ad where
  c : Nat
  pr : Nat
  cr : Nat
  mr : Nat
  pp : Nat
  mp : Nat
  me : Nat
  ex : List ByteArray
section
variable {w w' : World} {n0 : Lim} {M made : Nat} {A : Ad} {room : Int} {xs : List Ce} {x : Ce}
end
end Ca
set_option maxRecDepth 20000
namespace Ca
open Bk
end Ca
end Go.Proofs.YtgjfhgcjiglfkaaGreatDoor
namespace Go.Proofs.YtgjfhgcjiglfkaaGreatDoor
open Go.RowKit
section
variable {P : Program} {ops : Array Oper} {Q : Exit → Act → World → Prop} {S : World → Prop} {md : Region.Mode} {c : Nat}
def waits (md : Region.Mode) (ops : Array Oper) (i j : Nat) : Bool := match ops[j]? with
  | some oj => oj.after.any (fun e => Region.binds md e && e.on == i)
  | none => false
def reach (md : Region.Mode) (ops : Array Oper) (c : Nat) : Nat → Nat → Bool
  | 0, i => waits md ops i c
  | n + 1, i => waits md ops i c || (List.range c).any fun j => waits md ops i j && reach md ops c n j
def seqN (P : Program) (ops : Array Oper) (Q : Exit → Act → World → Prop) (S : World → Prop) (c : Nat) : List (Bool × Nat) → Act → World → Prop
  | [], a, w => Q .normal a w
  | (true, i) :: l, a, w => ∃ o v, ops[i]? = some o ∧ YieldsIf P ops (fun w' => reach .any ops c ops.size i = true → S w') o v a ∧ seqN P ops Q S c l (a.put o.dst v) w
  | (false, i) :: l, a, w => wpOp P ops Q i (fun a' w' => (i < c → S w') ∧ seqN P ops Q S c l a' w') a w
end
attribute [irreducible] seqN
set_option maxRecDepth 20000
open Go.RowKit Go.Shelf
namespace Ca
open Bk
end Ca
set_option maxRecDepth 20000
namespace Ca
end Ca
set_option maxRecDepth 20000
namespace Ca
open Bk
end Ca
set_option maxRecDepth 20000
namespace Ca
open Bk
end Ca
set_option maxRecDepth 20000
namespace Ca
open Bk
end Ca
set_option maxRecDepth 20000
namespace Ca
open Bk
end Ca
set_option maxRecDepth 20000
namespace Ca
open Bk
end Ca
set_option maxRecDepth 20000
namespace Ca
open Bk
def EnvK (n0 : Lim) (w : World) : Prop := ∃ W0 : World, HasMaxL W0 ∧ HasP10 W0 ∧ (∀ k, n0.ok k → W0.heap.size ≤ k) ∧ Below W0.heap.size W0 w
theorem EnvK.of {w : World} (h1 : HasMaxL w) (h2 : HasP10 w) : EnvK (lim w.heap.size) w := ⟨w, h1, h2, fun _ hk => lim_ok.1 hk, Below.refl _ _⟩
theorem EnvK.max {n0 : Lim} {w : World} (h : EnvK n0 w) : HasMaxL w := by
  obtain ⟨W0, h2, h3, h1, h4⟩ := h
  exact h2.below rfl h4
theorem norm_ans {t : ByteArray} {e : Ending} (h : Tar.NormAns (sl t) e) : e = .returned (.tuple #[.string (normK t), .int .i64 (normE t)]) := by
  unfold Tar.NormAns at h
  unfold normK normE
  cases hn : Tar.normalF (sl t) with
  | error c => rw [hn] at h; exact h
  | ok k => rw [hn] at h; exact h
theorem normE_in (t : ByteArray) : normE t = 0 ∨ normE t = 2 ∨ normE t = 3 := by
  unfold normE
  cases hn : Tar.normalF (sl t) with
  | error c => exact .inr (Tar.normalF_code hn)
  | ok k => exact .inl rfl
theorem norm_any {n0 : Lim} (t : ByteArray) (w : World) (ht : t.size ≤ 281474976710656) (he : EnvK n0 w) :
    Calls Tryz.prog 47 #[.string t] w fun e w' => e = .returned (.tuple #[.string (normK t), .int .i64 (normE t)]) ∧ Below w.heap.size w w' := by
  refine (normal_any t w ht he.max.1 he.max.2).mono ?_
  rintro e w' ⟨h, hb⟩
  exact ⟨norm_ans h, hb⟩
end Ca
set_option maxRecDepth 20000
namespace Dk
structure Tab (w : World) : Prop where
  err : Bd.HasErr w
  max : HasMaxL w
theorem Tab.below {w w' : World} (h : Tab w) (hb : Below w.heap.size w w') : Tab w' := ⟨h.err.below hb, h.max.below rfl hb⟩
def bnd {α β : Type} (r : Except Int α) (f : α → Except Int β) : Except Int β := match r with | .ok a => f a | .error c => .error c
theorem oneD_mem {l : List ByteArray} {s : ByteArray} (h : oneD l = .ok s) : s ∈ l := by
  cases l with
  | nil => cases h
  | cons a r => cases r with
    | nil => injection h with h; simp [h]
    | cons b r => cases h
def TwoD (r : Except Int ByteArray) (e : Ending) : Prop := match r with | .ok t => e = .returned (.tuple #[.string t, .int .i64 0]) | .error c => c ≠ 0 ∧ ∃ t, e = .returned (.tuple #[.string t, .int .i64 c])
def quoteD (s : ByteArray) : Except Int ByteArray := if (sl s).all Tok.plainB = true then .ok (mkS (Tok.quoteL (sl s))) else .error 3
theorem quoteD_any (s : ByteArray) (w : World) (hs : s.size ≤ 300) : Calls Tryz.prog 126 #[.string s] w fun e w' => TwoD (quoteD s) e ∧ Below w.heap.size w w' := by
  refine (quote_walk s w (by omega)).mono ?_
  rintro e w' ⟨h, hb⟩
  refine ⟨?_, hb⟩
  unfold quoteD
  rcases h with ⟨h, rfl⟩ | ⟨h, rfl⟩
  · rw [if_pos h]; rfl
  · rw [if_neg (by rw [h]; decide)]; exact ⟨by decide, _, rfl⟩
def unqD (s : ByteArray) : Except Int ByteArray := match Tok.unquoteL (sl s) with
  | none => .error 3
  | some b => if 1000 < b.length then .error 2 else .ok (mkS b)
theorem unqD_any (s : ByteArray) (w : World) (hs : s.size ≤ 300) : Calls Tryz.prog 129 #[.string s] w fun e w' => TwoD (unqD s) e ∧ Below w.heap.size w w' := by
  refine (unquote_walk s w (by omega)).mono ?_
  rintro e w' ⟨h, hb⟩
  refine ⟨?_, hb⟩
  unfold unqD
  rcases h with ⟨h, rfl⟩ | ⟨b, h, h2 | h2⟩
  · rw [h]; exact ⟨by decide, _, rfl⟩
  · rw [h, h2.2]; simp only [if_pos h2.1]; exact ⟨by decide, _, rfl⟩
  · rw [h, h2.2]; simp only [if_neg (Nat.not_lt.2 h2.1)]; rfl
def normD (s : ByteArray) : Except Int ByteArray := if Ca.normE s = 0 then .ok (Ca.normK s) else .error (Ca.normE s)
theorem normD_any (s : ByteArray) (w : World) (hs : s.size ≤ 300) (ht : Tab w) : Calls Tryz.prog 47 #[.string s] w fun e w' => TwoD (normD s) e ∧ Below w.heap.size w w' := by
  refine (Ca.norm_any (n0 := lim w.heap.size) s w (by omega) (Ca.EnvK.of ht.max ht.err.p10)).mono ?_
  rintro e w' ⟨rfl, hb⟩
  refine ⟨?_, hb⟩
  unfold normD
  by_cases h : Ca.normE s = 0
  · rw [if_pos h, h]; rfl
  · rw [if_neg h]; exact ⟨h, _, rfl⟩
def dateD (n : Int) : Except Int ByteArray := if n < 0 ∨ 253402300799 < n then .error 1 else .ok (mkS (Dt.printD n.toNat))
theorem dateD_any (n : Int) (w : World) (h0 : -9223372036854775808 ≤ n) (h1 : n ≤ 9223372036854775807) (ht : Tab w) : Calls Tryz.prog 119 #[.int .i64 n] w fun e w' => TwoD (dateD n) e ∧ Below w.heap.size w w' := by
  by_cases h : n < 0 ∨ 253402300799 < n
  · have hr : dateD n = .error 1 := if_pos h
    refine (datePrint_no n w h).mono ?_
    rintro e w' ⟨rfl, rfl⟩
    rw [hr]
    exact ⟨⟨by decide, _, rfl⟩, Below.refl _ _⟩
  · have hr : dateD n = .ok (mkS (Dt.printD n.toNat)) := if_neg h
    obtain ⟨k, rfl⟩ : ∃ k : Nat, n = (k : Int) := ⟨n.toNat, by omega⟩
    rw [hr]
    refine (datePrint_ok k w (by omega) ht.err.p10).mono ?_
    rintro e w' ⟨rfl, hb⟩
    exact ⟨rfl, hb⟩
theorem told_any {r : Except Int ByteArray} {e : Ending} (h : TwoD r e) : ∃ t c, e = .returned (.tuple #[.string t, .int .i64 c]) ∧ ∀ w, Calls Tryz.prog 125 #[.string t, .int .i64 c] w fun e w' => AnsD r e ∧ w = w' := by
  cases r with
  | ok t => exact ⟨t, 0, h, fun w => told_ok t w⟩
  | error c =>
    obtain ⟨hc, t, he⟩ := h
    exact ⟨t, c, he, fun w => told_bad t c hc w⟩
def cmd1 (l : List ByteArray) : Except Int ByteArray := bnd (oneD l) quoteD
theorem cmd1_any (v : Value) (l : List ByteArray) (w : World) (h : SlR w es v l) (hz : ∀ x ∈ l, x.size ≤ 300) (ht : Tab w) :
    Calls Tryz.prog 124 #[v] w fun e w' => AnsD (cmd1 l) e ∧ Below w.heap.size w w' := by
  have HO := Lib.hid (one_any v l w h)
  have HZ := Lib.hid (fun s (hs : oneD l = .ok s) => hz s (oneD_mem hs))
  have HT := Lib.hid ht
  obtain ⟨A, c, rfl, -⟩ := h.form
  have HD : Hid (cmd1 l = bnd (oneD l) quoteD) := by show _ = _; rfl
  clear h hz ht
  generalize cmd1 l = R at *
  generalize oneD l = r at *
  generalize l.length = n at *
  go_enter Tryz.func124, Tryz.ntmps124
  go_wp2_with fail
  refine HO.out.mono ?_
  rintro e w1 ⟨h1, rfl⟩
  cases r with
  | error c =>
    have h1' : e = .panicked (badP c) := h1
    subst h1'
    have HR : Hid (R = .error c) := HD.out
    clear HO HZ HT HD h1
    go_wp2_with fail
    exact ⟨rfl, by rw [HR.out]; rfl, Below.refl _ _⟩
  | ok s =>
    have h1' : e = .returned (.string s) := h1
    subst h1'
    have HR : Hid (R = quoteD s) := HD.out
    have hs := HZ.out s rfl
    have HQ := Lib.hid (quoteD_any s w hs)
    clear HO HZ HD h1 HT
    generalize quoteD s = r at *
    go_wp2_with fail
    refine HQ.out.mono ?_
    rintro e w2 ⟨h2, b2⟩
    obtain ⟨t, c, rfl, h3⟩ := told_any h2
    have HTo := Lib.hid (h3 w2)
    clear h3 HQ h2
    go_wp2_with fail
    refine HTo.out.mono ?_
    rintro e w3 ⟨h4, rfl⟩
    cases r with
    | ok t2 =>
      have h4' : e = .returned (.string t2) := h4
      subst h4'
      go_wp2_with fail
      go_ret
      exact ⟨by rw [HR.out]; rfl, b2⟩
    | error c2 =>
      have h4' : e = .panicked (badP c2) := h4
      subst h4'
      go_wp2_with fail
      exact ⟨rfl, by rw [HR.out]; rfl, b2⟩
def cmd2 (l : List ByteArray) : Except Int ByteArray := bnd (oneD l) unqD
theorem cmd2_any (v : Value) (l : List ByteArray) (w : World) (h : SlR w es v l) (hz : ∀ x ∈ l, x.size ≤ 300) (ht : Tab w) :
    Calls Tryz.prog 128 #[v] w fun e w' => AnsD (cmd2 l) e ∧ Below w.heap.size w w' := by
  have HO := Lib.hid (one_any v l w h)
  have HZ := Lib.hid (fun s (hs : oneD l = .ok s) => hz s (oneD_mem hs))
  have HT := Lib.hid ht
  obtain ⟨A, c, rfl, -⟩ := h.form
  have HD : Hid (cmd2 l = bnd (oneD l) unqD) := by show _ = _; rfl
  clear h hz ht
  generalize cmd2 l = R at *
  generalize oneD l = r at *
  generalize l.length = n at *
  go_enter Tryz.func128, Tryz.ntmps128
  go_wp2_with fail
  refine HO.out.mono ?_
  rintro e w1 ⟨h1, rfl⟩
  cases r with
  | error c =>
    have h1' : e = .panicked (badP c) := h1
    subst h1'
    have HR : Hid (R = .error c) := HD.out
    clear HO HZ HT HD h1
    go_wp2_with fail
    exact ⟨rfl, by rw [HR.out]; rfl, Below.refl _ _⟩
  | ok s =>
    have h1' : e = .returned (.string s) := h1
    subst h1'
    have HR : Hid (R = unqD s) := HD.out
    have hs := HZ.out s rfl
    have HQ := Lib.hid (unqD_any s w hs)
    clear HO HZ HD h1 HT
    generalize unqD s = r at *
    go_wp2_with fail
    refine HQ.out.mono ?_
    rintro e w2 ⟨h2, b2⟩
    obtain ⟨t, c, rfl, h3⟩ := told_any h2
    have HTo := Lib.hid (h3 w2)
    clear h3 HQ h2
    go_wp2_with fail
    refine HTo.out.mono ?_
    rintro e w3 ⟨h4, rfl⟩
    cases r with
    | ok t2 =>
      have h4' : e = .returned (.string t2) := h4
      subst h4'
      go_wp2_with fail
      go_ret
      exact ⟨by rw [HR.out]; rfl, b2⟩
    | error c2 =>
      have h4' : e = .panicked (badP c2) := h4
      subst h4'
      go_wp2_with fail
      exact ⟨rfl, by rw [HR.out]; rfl, b2⟩
def cmd6 (l : List ByteArray) : Except Int ByteArray := bnd (oneD l) normD
theorem cmd6_any (v : Value) (l : List ByteArray) (w : World) (h : SlR w es v l) (hz : ∀ x ∈ l, x.size ≤ 300) (ht : Tab w) :
    Calls Tryz.prog 135 #[v] w fun e w' => AnsD (cmd6 l) e ∧ Below w.heap.size w w' := by
  have HO := Lib.hid (one_any v l w h)
  have HZ := Lib.hid (fun s (hs : oneD l = .ok s) => hz s (oneD_mem hs))
  have HT := Lib.hid ht
  obtain ⟨A, c, rfl, -⟩ := h.form
  have HD : Hid (cmd6 l = bnd (oneD l) normD) := by show _ = _; rfl
  clear h hz ht
  generalize cmd6 l = R at *
  generalize oneD l = r at *
  generalize l.length = n at *
  go_enter Tryz.func135, Tryz.ntmps135
  go_wp2_with fail
  refine HO.out.mono ?_
  rintro e w1 ⟨h1, rfl⟩
  cases r with
  | error c =>
    have h1' : e = .panicked (badP c) := h1
    subst h1'
    have HR : Hid (R = .error c) := HD.out
    clear HO HZ HT HD h1
    go_wp2_with fail
    exact ⟨rfl, by rw [HR.out]; rfl, Below.refl _ _⟩
  | ok s =>
    have h1' : e = .returned (.string s) := h1
    subst h1'
    have HR : Hid (R = normD s) := HD.out
    have hs := HZ.out s rfl
    have HQ := Lib.hid (normD_any s w hs HT.out)
    clear HO HZ HD h1 HT
    generalize normD s = r at *
    go_wp2_with fail
    refine HQ.out.mono ?_
    rintro e w2 ⟨h2, b2⟩
    obtain ⟨t, c, rfl, h3⟩ := told_any h2
    have HTo := Lib.hid (h3 w2)
    clear h3 HQ h2
    go_wp2_with fail
    refine HTo.out.mono ?_
    rintro e w3 ⟨h4, rfl⟩
    cases r with
    | ok t2 =>
      have h4' : e = .returned (.string t2) := h4
      subst h4'
      go_wp2_with fail
      go_ret
      exact ⟨by rw [HR.out]; rfl, b2⟩
    | error c2 =>
      have h4' : e = .panicked (badP c2) := h4
      subst h4'
      go_wp2_with fail
      exact ⟨rfl, by rw [HR.out]; rfl, b2⟩
end Dk
end Go.Proofs.YtgjfhgcjiglfkaaGreatDoor
namespace Go.Proofs.YtgjfhgcjiglfkaaGreatDoor
open Go.RowKit
theorem hasPrefix_any (s p : ByteArray) (w : World) :
    Calls Tryz.prog 308 #[.string s, .string p] w fun e w' => e = .returned (.bool (decide (sl p <+: sl s))) ∧ w = w' := by
  by_cases hz : p.size ≤ s.size
  · have d0 : decide (p.size ≤ s.size) = true := decide_eq_true hz
    have i0 : (p.size : Int) ≤ (s.size : Int) := by omega
    have HX : Hid (((s.extract 0 p.size).toList == p.toList) = decide (sl p <+: sl s)) := by
      show _ = _
      rw [ba_toList, ba_toList, sl_extract, Bool.eq_iff_iff, beq_iff_eq, decide_eq_true_iff, List.prefix_iff_eq_take, Nat.sub_zero, List.drop_zero, sl_len]
      exact eq_comm
    generalize hb : ((s.extract 0 p.size).toList == p.toList) = b at HX
    go_enter Tryz.func308, Tryz.ntmps308
    go_wp2_with fail
    go_ret
    exact ⟨ret_bool HX.out, rfl⟩
  · have d0 : decide (p.size ≤ s.size) = false := decide_eq_false hz
    have HX : Hid (decide (sl p <+: sl s) = false) := by
      show _ = _
      rw [decide_eq_false_iff_not]
      intro h
      have := h.length_le
      rw [sl_len, sl_len] at this
      exact hz this
    clear hz
    go_enter Tryz.func308, Tryz.ntmps308
    go_wp2_with fail
    go_ret
    exact ⟨ret_bool HX.out.symm, rfl⟩
def CutPre (s p : ByteArray) (e : Ending) : Prop :=
  (∃ r, sl s = sl p ++ r ∧ e = .returned (.tuple #[.string (mkS r), .bool true])) ∨ ((¬ sl p <+: sl s) ∧ e = .returned (.tuple #[.string s, .bool false]))
theorem slite_cutPrefix_any (s p : ByteArray) (w : World) :
    Calls Tryz.prog 288 #[.string s, .string p] w fun e w' => CutPre s p e ∧ w = w' := by
  by_cases hp : sl p <+: sl s
  · obtain ⟨r, hr⟩ := hp
    have HR := Lib.hid hr
    have hz : (p.size : Int) ≤ (s.size : Int) := by
      have := congrArg List.length hr
      rw [List.length_append, sl_len, sl_len] at this; omega
    have hc : s.extract p.size s.size = mkS r := by
      apply sl_inj
      rw [sl_extract_end, sl_mkS, ← hr, ← sl_len, List.drop_left' rfl]
    have hpre := Lib.hid (hasPrefix_any s p)
    rw [decide_eq_true (show sl p <+: sl s from ⟨r, hr⟩)] at hpre
    clear hr
    go_enter Tryz.func288, Tryz.ntmps288
    go_wp2_with fail
    refine (hpre.out _).mono ?_
    rintro e w' ⟨rfl, rfl⟩
    go_wp2_with fail
    go_ret2
    exact ⟨.inl ⟨r, HR.out.symm, rfl⟩, rfl⟩
  · have hpre := Lib.hid (hasPrefix_any s p)
    rw [decide_eq_false hp] at hpre
    have HP := Lib.hid hp
    clear hp
    go_enter Tryz.func288, Tryz.ntmps288
    go_wp2_with fail
    refine (hpre.out _).mono ?_
    rintro e w' ⟨rfl, rfl⟩
    go_wp2_with fail
    go_ret2
    exact ⟨.inr ⟨HP.out, rfl⟩, rfl⟩
theorem cutPrefix_any (s p : ByteArray) (w : World) :
    Calls Tryz.prog 256 #[.string s, .string p] w fun e w' => CutPre s p e ∧ w = w' := by
  go_enter Tryz.func256, Tryz.ntmps256
  go_wp2_with fail
  refine (slite_cutPrefix_any s p _).mono ?_
  rintro e w' ⟨h, rfl⟩
  rcases h with ⟨r, hr, rfl⟩ | ⟨hr, rfl⟩
  · have HR := Lib.hid hr
    clear hr
    go_wp2_with fail
    go_ret2
    exact ⟨.inl ⟨r, HR.out, rfl⟩, rfl⟩
  · have HR := Lib.hid hr
    clear hr
    go_wp2_with fail
    go_ret2
    exact ⟨.inr ⟨HR.out, rfl⟩, rfl⟩
end Go.Proofs.YtgjfhgcjiglfkaaGreatDoor
