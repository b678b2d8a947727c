/- field's check and Check: what they answer. -/
import Derived.Test.YtoalfjkbgeiggaaGreatDoorZip3
import Derived.Test.YtoalfjkbgeiggaaGreatDoorZTrim
import Derived.Test.YtoalfjkbgeiggaaGreatDoorZip2
namespace Go.Proofs.YtoalfjkbgeiggaaGreatDoor
set_option maxRecDepth 20000
open Go.RowKit
theorem fldPlain_any (c : UInt8) (w : World) :
    Calls Tryz.prog 77 #[.int .u8 (c.toNat : Int)] w fun e w' => e = .returned (.bool (Tok.plainB c)) ∧ w = w' := by
  have H := Lib.hid (plainB_iff c)
  generalize Tok.plainB c = q at *
  generalize c.toNat = n at *
  go_enter Tryz.func77, Tryz.ntmps77
  go_wp2
  all_goals
    go_ret
    exact ⟨ret_bool (by rw [Bool.eq_iff_iff, H.out]; simp; try omega), rfl⟩
theorem string_ne (a b : ByteArray) : (!(a.toList == b.toList)) = !decide (sl a = sl b) := by
  rw [ba_toList, ba_toList]
  congr 1
  rw [Bool.eq_iff_iff]; simp
set_option maxHeartbeats 1600000 in
theorem check_any (n v : ByteArray) (w : World) (hn : n.size ≤ 140737488351232) (hv : v.size ≤ 140737488351232) :
    Calls Tryz.prog 51 #[.agg #[.string n, .string v]] w fun e w' => e = .returned (.int .i64 (chkF (n, v))) ∧ Below w.heap.size w w' := by
  have HI := Lib.hid (fun w => isToken_any n w (by omega))
  have HT := Lib.hid (fun w => strTrim_any v w hv)
  have HC : Hid (chkF (n, v) = if Tok.isTok n = false then 3 else if 30 < n.size ∨ 1000 < v.size then 2 else if sl v ≠ Tok.trimL (sl v) then 3 else if (sl v).all Tok.plainB = true then 0 else 3) := rfl
  generalize chkF (n, v) = r at *
  go_enter Tryz.func51, Tryz.ntmps51
  go_wp2_with fail
  have b0 : Below w.heap.size w (w.alloc (.cells #[.string n, .string v] 57)) := (Below.refl _ _).alloc (Nat.le_refl _) _
  refine (HI.out _).mono ?_
  rintro e w' ⟨rfl, rfl⟩
  cases hI : Tok.isTok n
  · go_wp2_with fail
    go_ret
    exact ⟨ret_int (by rw [HC.out, if_pos hI]), b0⟩
  · have hcs : (30 < n.size ∨ 1000 < v.size) ∨ (n.size ≤ 30 ∧ v.size ≤ 1000) := by omega
    have H1 := Lib.hid hI
    rcases hcs with hL | ⟨h30, h1k⟩
    · have HR : Hid (2 = r) := by show _ = _; rw [HC.out, if_neg (by rw [H1.out]; simp), if_pos hL]
      by_cases h30 : 30 < n.size
      · have d1 : decide (30 < n.size) = true := decide_eq_true h30
        go_wp2_with fail
        go_ret
        exact ⟨ret_int HR.out, b0⟩
      · have d1 : decide (30 < n.size) = false := decide_eq_false h30
        have d2 : decide (1000 < v.size) = true := decide_eq_true (by omega)
        go_wp2_with fail
        go_ret
        exact ⟨ret_int HR.out, b0⟩
    · have d1 : decide (30 < n.size) = false := decide_eq_false (by omega)
      have d2 : decide (1000 < v.size) = false := decide_eq_false (by omega)
      have HR : Hid (r = if sl v ≠ Tok.trimL (sl v) then 3 else if (sl v).all Tok.plainB = true then 0 else 3) := by show _ = _; rw [HC.out, if_neg (by rw [H1.out]; simp), if_neg (by omega)]
      go_wp2_with fail
      refine (HT.out _).mono ?_
      rintro e w1 ⟨rfl, b1⟩
      have hne := string_ne v (mkS (Tok.trimL (sl v)))
      rw [sl_mkS] at hne
      generalize mkS (Tok.trimL (sl v)) = t at hne
      have b01 := b0.trans (b1.mono (by simp))
      by_cases ht : sl v = Tok.trimL (sl v)
      · have HR2 : Hid (r = if (sl v).all Tok.plainB = true then 0 else 3) := by show _ = _; rw [HR.out, if_neg (by simp only [ne_eq, Decidable.not_not]; exact ht)]
        rw [decide_eq_true ht, Bool.not_true] at hne
        clear ht
        go_wp2_with fail
        go_loop [29] (fun i => ∃ k : Nat, k ≤ v.size ∧ i = .int .i64 k ∧ ((sl v).take k).all Tok.plainB = true) (fun i => v.size - (intOf i).toNat)
        case atStart => exact ⟨0, by omega, rfl, by simp⟩
        case round =>
          obtain ⟨k, hk, rfl, hall⟩ := hrel
          have HA := Lib.hid hall
          clear hall
          by_cases hlt : k < v.size
          · have HCC := Lib.hid (sl_getElem? v k hlt)
            cases hq : Tok.plainB v[k]
            all_goals
              have HQ := Lib.hid hq
              have HP := Lib.hid (fldPlain_any v[k])
              rw [hq] at HP
              clear hq
              go_wp2_with fail
              refine (HP.out _).mono ?_
              rintro e w' ⟨rfl, rfl⟩
              go_wp2_with fail
            · go_ret
              exact ⟨ret_int (by rw [HR2.out, all_false HCC.out HQ.out]; rfl), b01⟩
            · go_round
              case rel => exact ⟨k + 1, by omega, by go_num, all_take_succ HCC.out HA.out HQ.out⟩
              case measure => simp [intOf]; omega
          · go_wp2_with fail
            go_ret
            exact ⟨ret_int (by have h := HA.out; rw [List.take_of_length_le (by rw [sl_len]; omega)] at h; rw [HR2.out, if_pos h]), b01⟩
      · rw [decide_eq_false ht, Bool.not_false] at hne
        have HR2 : Hid (3 = r) := by show _ = _; rw [HR.out, if_pos ht]
        clear ht
        go_wp2_with fail
        go_ret
        exact ⟨ret_int HR2.out, b01⟩
set_option maxHeartbeats 1600000 in
theorem checkAll_any (v : Value) (l : List Fp) (w : World) (h : SlR w e_ss v l) (hl : l.length ≤ 140737488351232) (hz : ∀ f ∈ l, f.1.size ≤ 140737488351232 ∧ f.2.size ≤ 140737488351232) :
    Calls Tryz.prog 44 #[v] w fun e w' => e = .returned (.int .i64 (chkAll l)) ∧ Below w.heap.size w w' := by
  have H2 := Lib.hid (fun hn => h.two (fun _ => rfl) hn)
  obtain ⟨A, c, rfl, hc, -⟩ := h
  by_cases h30 : 30 < l.length
  · have HR : Hid (2 = chkAll l) := by show _ = _; unfold chkAll; rw [if_pos h30]
    go_enter Tryz.func44, Tryz.ntmps44
    go_wp2_with fail
    go_ret
    exact ⟨ret_int HR.out, Below.refl _ _⟩
  · have HR : Hid (chkAll l = chkL l) := by show _ = _; unfold chkAll; rw [if_neg h30]
    generalize chkAll l = r at *
    go_enter Tryz.func44, Tryz.ntmps44
    go_wp2_with fail
    go_loopw [11] (fun i wr => ∃ k : Nat, k ≤ l.length ∧ i = .int .i64 k ∧ chkL l = chkL (l.drop k) ∧ Below w.heap.size w wr) (fun i _ => l.length - (intOf i).toNat)
    case atStart => exact ⟨0, by omega, rfl, rfl, Below.refl _ _⟩
    case round =>
      obtain ⟨k, hk, rfl, hck, hbel⟩ := hrel
      have HK := Lib.hid hck
      clear hck
      by_cases hlt : k < l.length
      · obtain ⟨b, off, c', he, hbb, hcell⟩ := H2.out (by omega)
        obtain ⟨rfl, rfl⟩ : A = some ⟨b, off, none⟩ ∧ c = c' := by injection he with h1 h2 h3; exact ⟨h1, h3⟩
        obtain ⟨q0, q1⟩ := hcell k hlt (.string l[k].1) (.string l[k].2) rfl rfl
        have c0 := (hbel.cell (p := ⟨b, off + k * 2, none⟩) hbb).trans q0
        have c1 := (hbel.cell (p := ⟨b, off + k * 2 + 1, none⟩) hbb).trans q1
        have HD : Hid (chkL l = if chkF l[k] = 0 then chkL (l.drop (k + 1)) else chkF l[k]) := by show _ = _; rw [HK.out, List.drop_eq_getElem_cons hlt]; rfl
        have hzz := hz l[k] (List.getElem_mem hlt)
        clear hcell q0 q1 he
        generalize l[k] = f at *
        obtain ⟨n, u⟩ := f
        have HF := Lib.hid (fun w => check_any n u w hzz.1 hzz.2)
        clear hzz
        generalize chkF (n, u) = q at *
        go_wp2_with fail
        refine (HF.out _).mono ?_
        rintro e w1 ⟨rfl, b1⟩
        have hb1 : Below w.heap.size w w1 := (hbel.alloc hbel.size _).trans (b1.mono (by simp; have := hbel.size; omega))
        by_cases hq : q = 0
        · subst hq
          go_wp2_with fail
          go_roundw
          case rel => exact ⟨k + 1, by omega, by go_num, by rw [HD.out]; simp, hb1⟩
          case measure => simp [intOf]; omega
        · have hq' : (q != 0) = true := by simpa using hq
          go_wp2_with fail
          go_ret
          exact ⟨ret_int (by rw [HR.out, HD.out, if_neg hq]), hb1⟩
      · go_wp2_with fail
        go_ret
        exact ⟨ret_int (by rw [HR.out, HK.out, List.drop_of_length_le (by omega)]; rfl), hbel⟩
end Go.Proofs.YtoalfjkbgeiggaaGreatDoor
