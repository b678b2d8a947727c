/- FieldBack, FieldAgain, FieldShort: the laws' walks. -/
import Derived.Test.YtdoeipjcohkbeaaDoorFldY
import Derived.Test.YtdoeipjcohkbeaaDoorEqFld
import Derived.Test.YtdoeipjcohkbeaaDoorRest
namespace Go.Proofs.YtdoeipjcohkbeaaDoor
set_option maxRecDepth 20000
open Go.RowKit
def HasMax (w : World) : Prop := (∃ m, w.cell? ⟨5, 0, none⟩ = some (.int .i64 m)) ∧ 5 < w.heap.size
theorem HasMax.below {w w' : World} (h : HasMax w) (hb : Below w.heap.size w w') : HasMax w' :=
  ⟨h.1.elim fun m hm => ⟨m, (hb.cell h.2).trans hm⟩, Nat.lt_of_lt_of_le h.2 hb.size⟩
theorem chk_empty : chkAll [(ByteArray.empty, ByteArray.empty)] = 3 := by
  have h : Tok.isTok ByteArray.empty = false := by decide
  unfold chkAll chkL chkF
  rw [if_neg (by simp), h]
  simp
set_option maxHeartbeats 1600000 in
theorem fieldBack_core (v : Value) (l : List Fp) (rest : ByteArray) (w : World) (h : SlR w e_ss v l) (hl : l.length ≤ 1048576) (hz : ∀ f ∈ l, f.1.size ≤ 1048576 ∧ f.2.size ≤ 1048576) (hr : rest.size ≤ 1048576) (hm : HasMax w) :
    Calls Tryd.prog 5 #[v, .string rest] w fun e w' => e = .returned (.bool true) ∧ Below w.heap.size w w' := by
  have hz' : ∀ f ∈ l, f.1.size ≤ 140737488351232 ∧ f.2.size ≤ 140737488351232 := fun f hf => by have := hz f hf; omega
  have HP := Lib.hid (fun w' (hw : SlR w' e_ss v l) => printF_any v l w' hw (by omega) hz')
  have HC := Lib.hid (fun w' (hw : SlR w' e_ss v l) => checkAll_any v l w' hw (by omega) hz')
  have HR := Lib.hid h
  have hll : l.length ≤ 140737488351232 := by omega
  clear hz hz'
  obtain ⟨A, c, hv, -⟩ := h.form
  subst hv
  clear h
  go_enter Tryd.func5, Tryd.ntmps5
  go_wp2_with fail
  refine (HP.out _ HR.out).mono ?_
  rintro e w1 ⟨ha, b1⟩
  have HE := Lib.hid (fun w' => (checkAll_any (.slice (some ⟨w'.heap.size, 0, none⟩) 1 1) [(ByteArray.empty, ByteArray.empty)] (w'.alloc (.cells #[.string ByteArray.empty, .string ByteArray.empty] 37)) (SlR.lit (enc := e_ss) w' [.string ByteArray.empty, .string ByteArray.empty] _ [(ByteArray.empty, ByteArray.empty)] rfl) (by simp) (fun f hf => by rw [List.mem_singleton] at hf; subst hf; exact ⟨Nat.zero_le _, Nat.zero_le _⟩)))
  rw [chk_empty] at HE
  rcases ha with ⟨h0, hg, h30, rfl⟩ | ⟨h0, rfl⟩
  · have hpl := printF_len l hg h30
    have hps : (mkS (printF l)).size = (printF l).length := mkS_size _
    have hsl : sl (mkS (printF l) ++ rest) = printF l ++ sl rest := by rw [sl_append, sl_mkS]
    have hsz : (mkS (printF l) ++ rest).size = (printF l).length + rest.size := by rw [ByteArray.size_append, hps]
    have hpp : parseF (mkS (printF l) ++ rest).size 0 (sl (mkS (printF l) ++ rest)) = .ok (l, sl rest) := by
      rw [hsl]; exact parse_print l 0 _ (sl rest) hg (by omega) (by rw [hsz, List.length_append, sl_len]; exact Nat.le_refl _)
    have HPP := Lib.hid hpp
    have z1 : (mkS (printF l)).size + rest.size ≤ 9223372036854775807 := by omega
    clear hpp hsl h0 hg h30
    generalize mkS (printF l) = P at *
    generalize (printF l).length = pn at *
    go_wp2_with fail
    refine (HE.out _).mono ?_
    rintro e w2 ⟨rfl, b2⟩
    have b2' : Below w1.heap.size w1 w2 := ((Below.refl _ _).alloc (Nat.le_refl _) _).trans (b2.mono (by simp))
    clear b2
    go_wp2_with fail
    have hm2 := (hm.below b1).below b2'
    refine (parseF_any (P ++ rest) _ (by omega) hm2.1 hm2.2).mono ?_
    rintro e w3 ⟨hp, b3⟩
    rcases hp with ⟨l', r', v3, q1, rfl, q3⟩ | ⟨c, q1, rfl⟩
    · rw [HPP.out] at q1
      injection q1 with q1; injection q1 with q1 q2; subst q1; subst q2
      have HV := Lib.hid (SlR.of_owns q3)
      have hn : (((P ++ rest).size - (sl rest).length : Nat) : Int) = (P.size : Int) := by rw [hsz, sl_len, hps]; omega
      rw [hn]
      clear q3
      go_wp2_with fail
      refine (eqFld_any _ v3 l l _ (((HR.out.below b1).below b2').below b3) HV.out hll hll).mono ?_
      rintro e w4 ⟨rfl, b4⟩
      rw [show decide (l = l) = true from by simp]
      go_wp2_with fail
      go_ret
      exact ⟨rfl, belT (belT (belT b1 b2') b3) b4⟩
    · rw [HPP.out] at q1; cases q1
  · have hq' : (chkAll l != 0) = true := by simpa using h0
    generalize hcl : chkAll l = q at *
    clear hcl h0
    go_wp2_with fail
    refine (HE.out _).mono ?_
    rintro e w2 ⟨rfl, b2⟩
    have b2' : Below w1.heap.size w1 w2 := ((Below.refl _ _).alloc (Nat.le_refl _) _).trans (b2.mono (by simp))
    clear b2
    go_wp2_with fail
    refine (HC.out _ ((HR.out.below b1).below b2')).mono ?_
    rintro e w3 ⟨rfl, b3⟩
    go_wp2_with fail
    go_ret
    exact ⟨ret_bool (by simp), belT (belT b1 b2') b3⟩
set_option maxHeartbeats 1600000 in
theorem fieldShort_core (v : Value) (l : List Fp) (n : Int) (w : World) (h : SlR w e_ss v l) (hl : l.length ≤ 140737488351232) (hz : ∀ f ∈ l, f.1.size ≤ 140737488351232 ∧ f.2.size ≤ 140737488351232) (hn : Wide n) (hm : HasMax w) :
    Calls Tryd.prog 7 #[v, .int .i64 n] w fun e w' => e = .returned (.bool true) ∧ Below w.heap.size w w' := by
  have HP := Lib.hid (fun w' (hw : SlR w' e_ss v l) => printF_any v l w' hw (by omega) hz)
  have HR := Lib.hid h
  clear hz
  obtain ⟨A, c, hv, -⟩ := h.form
  subst hv
  clear h
  go_enter Tryd.func7, Tryd.ntmps7
  go_wp2_with fail
  refine (HP.out _ HR.out).mono ?_
  rintro e w1 ⟨ha, b1⟩
  have HE := Lib.hid (fun w' => (checkAll_any (.slice (some ⟨w'.heap.size, 0, none⟩) 1 1) [(ByteArray.empty, ByteArray.empty)] (w'.alloc (.cells #[.string ByteArray.empty, .string ByteArray.empty] 37)) (SlR.lit (enc := e_ss) w' [.string ByteArray.empty, .string ByteArray.empty] _ [(ByteArray.empty, ByteArray.empty)] rfl) (by simp) (fun f hf => by rw [List.mem_singleton] at hf; subst hf; exact ⟨Nat.zero_le _, Nat.zero_le _⟩)))
  rw [chk_empty] at HE
  rcases ha with ⟨h0, hg, h30, rfl⟩ | ⟨h0, rfl⟩
  · have hpl := printF_len l hg h30
    have hp2 : 2 ≤ (printF l).length := by unfold printF; rw [List.length_append]; simp
    have hps : (mkS (printF l)).size = (printF l).length := mkS_size _
    obtain ⟨k, hk⟩ : ∃ k : Nat, n % ((mkS (printF l)).size : Int) = (k : Int) := ⟨(n % ((mkS (printF l)).size : Int)).toNat, by have := Int.emod_nonneg n (b := ((mkS (printF l)).size : Int)) (by omega); omega⟩
    have hkl : k < (printF l).length := by have := Int.emod_lt_of_pos n (b := ((mkS (printF l)).size : Int)) (by omega); omega
    have hcut := parse_cut l 0 (mkS ((printF l).take k)).size k hg (by omega) hkl (by rw [mkS_size, List.length_take]; omega)
    have hex : (mkS (printF l)).extract 0 k = mkS ((printF l).take k) := sl_inj (by rw [sl_extract, sl_mkS, sl_mkS, Nat.sub_zero, List.drop_zero])
    have HCUT : Hid (parseF (mkS ((printF l).take k)).size 0 (sl (mkS ((printF l).take k))) = .error 8) := by show _ = _; rw [sl_mkS]; exact hcut
    have hqs : (mkS ((printF l).take k)).size = k := by rw [mkS_size, List.length_take]; omega
    have hne : (mkS (printF l)).toList.isEmpty = false := isEmpty_no _ (by omega)
    clear hcut h0 hg h30
    rw [← hps] at hkl hpl hp2
    generalize mkS ((printF l).take k) = Q at *
    generalize mkS (printF l) = P at *
    clear hps
    have HRS := Lib.hid (rest_any n (P.size : Int) · hn (by omega))
    rw [hk] at HRS
    have i1 : (k : Int) ≤ (P.size : Int) := by omega
    clear hk
    go_wp2_with fail
    refine (HE.out _).mono ?_
    rintro e w2 ⟨rfl, b2⟩
    have b2' : Below w1.heap.size w1 w2 := ((Below.refl _ _).alloc (Nat.le_refl _) _).trans (b2.mono (by simp))
    clear b2
    go_wp2_with fail
    refine (HRS.out _).mono ?_
    rintro e w' ⟨rfl, rfl⟩
    go_wp2_with fail
    have hm2 := (hm.below b1).below b2'
    refine (parseF_any Q _ (by omega) hm2.1 hm2.2).mono ?_
    rintro e w3 ⟨hp, b3⟩
    rcases hp with ⟨l', r', v3, q1, rfl, q3⟩ | ⟨c, q1, rfl⟩
    · rw [HCUT.out] at q1; cases q1
    · rw [HCUT.out] at q1
      injection q1 with q1; subst q1
      go_wp2_with fail
      go_ret
      exact ⟨rfl, belT (belT b1 b2') b3⟩
  · have hq' : (chkAll l != 0) = true := by simpa using h0
    generalize hcl : chkAll l = q at *
    clear hcl h0
    go_wp2_with fail
    refine (HE.out _).mono ?_
    rintro e w2 ⟨rfl, b2⟩
    have b2' : Below w1.heap.size w1 w2 := ((Below.refl _ _).alloc (Nat.le_refl _) _).trans (b2.mono (by simp))
    clear b2
    go_wp2_with fail
    go_ret
    exact ⟨rfl, belT b1 b2'⟩
theorem parse_empty (w : World) (hm : HasMax w) : Calls Tryd.prog 17 #[.string ⟨#[]⟩] w fun e w' => e = .returned (.tuple #[.slice none 0 0, .int .i64 0, .int .i64 8]) ∧ Below w.heap.size w w' := by
  refine (parseF_any ⟨#[]⟩ w (by decide) hm.1 hm.2).mono fun e w' ⟨hp, hb⟩ => ⟨?_, hb⟩
  have h8 : parseF (⟨#[]⟩ : ByteArray).size 0 (sl ⟨#[]⟩) = .error 8 := rfl
  rcases hp with ⟨l', r', v3, q1, _⟩ | ⟨c, q1, rfl⟩
  · rw [h8] at q1; cases q1
  · rw [h8] at q1; injection q1 with q1; subst q1; rfl
set_option maxHeartbeats 1600000 in
theorem fieldAgain_core (s : ByteArray) (w : World) (hs : s.size < 4294967281) (hm : HasMax w) :
    Calls Tryd.prog 6 #[.string s] w fun e w' => e = .returned (.bool true) ∧ Below w.heap.size w w' := by
  have HPA := Lib.hid (parseF_any s w hs hm.1 hm.2)
  go_enter Tryd.func6, Tryd.ntmps6
  go_wp2_with fail
  refine HPA.out.mono ?_
  rintro e w1 ⟨ha, b1⟩
  have hm1 := hm.below b1
  rcases ha with ⟨l, r, v, h1, rfl, h3⟩ | ⟨c, h1, rfl⟩
  · obtain ⟨hg, h30, hrs⟩ := parse_good _ _ _ _ _ (by omega) h1
    rw [sl_len] at hrs
    have hat : Hid (2 ≤ s.size - r.length ∧ s.size - r.length ≤ s.size) := by constructor <;> omega
    obtain ⟨at_, hat_⟩ : ∃ at_, s.size - r.length = at_ := ⟨_, rfl⟩
    rw [hat_] at hat ⊢
    obtain ⟨hat2, hat3⟩ := hat.out
    have hr := SlR.of_owns h3
    have HP := Lib.hid (fun w' (hw : SlR w' e_ss v l) => printF_any v l w' hw (by omega) (fun f hf => by have := (hg f hf).n30; have := (hg f hf).v1000; omega))
    have hca : chkAll l = 0 := by unfold chkAll; rw [if_neg (by omega), (chkL_good l).2 hg]
    have HCA := Lib.hid hca
    have hpl := printF_len l hg (by omega)
    have hpp : parseF (mkS (printF l)).size 0 (sl (mkS (printF l))) = .ok (l, []) := by
      have := parse_print l 0 (mkS (printF l)).size [] hg (by omega) (by rw [List.append_nil, mkS_size]; exact Nat.le_refl _)
      rw [List.append_nil] at this
      rw [sl_mkS]; exact this
    have HPP := Lib.hid hpp
    have hps : (mkS (printF l)).size = (printF l).length := mkS_size _
    have hll : l.length ≤ 140737488351232 := by omega
    clear hpp hca hg h30 hrs h1 h3
    have HR := Lib.hid hr
    obtain ⟨A, c, hv, -⟩ := hr.form
    subst hv
    clear hr
    go_wp2_with fail
    refine (parse_empty _ hm1).mono ?_
    rintro e w2 ⟨rfl, b2⟩
    go_wp2_with fail
    refine (HP.out _ (HR.out.below b2)).mono ?_
    rintro e w3 ⟨ha, b3⟩
    rcases ha with ⟨-, -, -, rfl⟩ | ⟨h0, rfl⟩
    · generalize mkS (printF l) = P at *
      generalize (printF l).length = pn at *
      go_wp2_with fail
      have hm3 := (hm1.below b2).below b3
      refine (parseF_any P _ (by omega) hm3.1 hm3.2).mono ?_
      rintro e w4 ⟨hp, b4⟩
      rcases hp with ⟨l', r', v3, q1, rfl, q3⟩ | ⟨c, q1, rfl⟩
      · rw [HPP.out] at q1
        injection q1 with q1; injection q1 with q1 q2; subst q1; subst q2
        have HV := Lib.hid (SlR.of_owns q3)
        clear q3
        rw [show ((P.size - ([] : List UInt8).length : Nat) : Int) = (P.size : Int) from by simp]
        have d1 : decide ((at_ : Int) ≤ (s.size : Int)) = true := decide_eq_true (by omega)
        have d1' : decide (at_ ≤ s.size) = true := decide_eq_true (by omega)
        have d2 : decide ((2 : Int) ≤ (at_ : Int)) = true := decide_eq_true (by omega)
        have d2' : decide (2 ≤ at_) = true := decide_eq_true (by omega)
        go_wp2_with fail
        refine (eqFld_any _ v3 l l _ (((HR.out.below b2).below b3).below b4) HV.out hll hll).mono ?_
        rintro e w5 ⟨rfl, b5⟩
        rw [show decide (l = l) = true from by simp]
        go_wp2_with fail
        go_ret
        exact ⟨rfl, belT (belT (belT (belT b1 b2) b3) b4) b5⟩
      · rw [HPP.out] at q1; cases q1
    · exact absurd HCA.out h0
  · have hc := parse_code _ _ _ _ h1
    have hne : (c != 0) = true := by simp; omega
    clear h1
    go_wp2_with fail
    refine (parse_empty _ hm1).mono ?_
    rintro e w2 ⟨rfl, b2⟩
    go_wp2_with fail
    go_ret
    exact ⟨rfl, belT b1 b2⟩
theorem fieldBack_walk (v : Value) (l : List Fp) (rest : ByteArray) (w : World) (h : SlR w e_ss v l) (hb : (l.map (fun d => d.1.size + d.2.size + 2)).sum ≤ 1048576) (hr : rest.size ≤ 1048576) (hm : HasMax w) :
    Calls Tryd.prog 5 #[v, .string rest] w fun e w' => e = .returned (.bool true) ∧ Below w.heap.size w w' :=
  fieldBack_core v l rest w h (Nat.le_trans (sum_len (fun d : Fp => d.1.size + d.2.size + 2) (fun _ => by omega) l) hb) (fun f hf => by have := sum_mem (fun d : Fp => d.1.size + d.2.size + 2) hf; omega) hr hm
theorem fieldShort_walk (v : Value) (l : List Fp) (n : Int) (w : World) (h : SlR w e_ss v l) (hl : l.length * 32 ≤ 140737488351232) (hz : ∀ f ∈ l, f.1.size ≤ 140737488351232 ∧ f.2.size ≤ 140737488351232) (hn : (Lit.int .i64 n).wf = true) (hm : HasMax w) :
    Calls Tryd.prog 7 #[v, .int .i64 n] w fun e w' => e = .returned (.bool true) ∧ Below w.heap.size w w' :=
  fieldShort_core v l n w h (by omega) hz (wide_of hn) hm
theorem fieldAgain_walk (s : ByteArray) (w : World) (hs : s.size ≤ 1048576) (hm : HasMax w) :
    Calls Tryd.prog 6 #[.string s] w fun e w' => e = .returned (.bool true) ∧ Below w.heap.size w w' := fieldAgain_core s w (by omega) hm
end Go.Proofs.YtdoeipjcohkbeaaDoor
