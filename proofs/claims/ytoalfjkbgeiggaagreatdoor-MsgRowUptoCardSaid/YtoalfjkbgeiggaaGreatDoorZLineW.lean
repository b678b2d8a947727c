/- line: what within, isMethod, isTarget, PrintRequest, first and ParseRequest answer. -/
import Derived.Test.YtoalfjkbgeiggaaGreatDoorZip4
import Derived.Test.YtoalfjkbgeiggaaGreatDoorZCut2
namespace Go.Proofs.YtoalfjkbgeiggaaGreatDoor
set_option maxRecDepth 20000
open Go.RowKit
namespace Ln
def inB (lo hi : Int) (c : UInt8) : Bool := decide (lo ≤ (c.toNat : Int)) && decide ((c.toNat : Int) ≤ hi)
theorem vis_inB : visB = inB 33 126 := by
  funext c
  unfold visB inB
  rw [Bool.eq_iff_iff]
  simp only [Bool.and_eq_true, decide_eq_true_eq, u8_le]
  exact Iff.rfl
set_option maxHeartbeats 800000 in
theorem within_any (s : ByteArray) (lo hi : Int) (w : World) (hs : s.size ≤ 140737488351232) :
    Calls Tryz.prog 43 #[.string s, .int .u8 lo, .int .u8 hi] w fun e w' => e = .returned (.bool ((sl s).all (inB lo hi))) ∧ w = w' := by
  go_enter Tryz.func43, Tryz.ntmps43
  go_wp2_with fail
  go_loop [10] (fun i => ∃ k : Nat, k ≤ s.size ∧ i = .int .i64 k ∧ ((sl s).take k).all (inB lo hi) = true) (fun i => s.size - (intOf i).toNat)
  case atStart => exact ⟨0, by omega, rfl, by simp⟩
  case round =>
    obtain ⟨k, hk, rfl, hall⟩ := hrel
    have HA := Lib.hid hall
    clear hall
    by_cases hlt : k < s.size
    · have HC := Lib.hid (sl_getElem? s k hlt)
      have HD : Hid (inB lo hi s[k] = (decide (lo ≤ (s[k].toNat : Int)) && decide ((s[k].toNat : Int) ≤ hi))) := rfl
      by_cases h1 : (s[k].toNat : Int) < lo
      · have HQ : Hid (inB lo hi s[k] = false) := by show _ = _; rw [HD.out, decide_eq_false (by omega)]; rfl
        go_wp2_with fail
        go_ret
        exact ⟨ret_bool (by rw [all_false HC.out HQ.out]), rfl⟩
      · by_cases h2 : hi < (s[k].toNat : Int)
        · have HQ : Hid (inB lo hi s[k] = false) := by show _ = _; rw [HD.out, decide_eq_false (show ¬ (s[k].toNat : Int) ≤ hi by omega), Bool.and_false]
          go_wp2_with fail
          go_ret
          exact ⟨ret_bool (by rw [all_false HC.out HQ.out]), rfl⟩
        · have HQ : Hid (inB lo hi s[k] = true) := by show _ = _; rw [HD.out, decide_eq_true (show lo ≤ (s[k].toNat : Int) by omega), decide_eq_true (show (s[k].toNat : Int) ≤ hi by omega)]; rfl
          go_wp2_with fail
          go_round
          case rel => exact ⟨k + 1, by omega, by go_num, all_take_succ HC.out HA.out HQ.out⟩
          case measure => simp [intOf]; omega
    · have HF : Hid ((sl s).all (inB lo hi) = true) := by
        have := HA.out
        rw [List.take_of_length_le (by rw [sl_len]; omega)] at this
        exact this
      go_wp2_with fail
      go_ret
      exact ⟨ret_bool HF.out.symm, rfl⟩
theorem isMethod_any (s : ByteArray) (w : World) (hs : s.size ≤ 140737488351232) :
    Calls Tryz.prog 27 #[.string s] w fun e w' => e = .returned (.bool (isM s)) ∧ w = w' := by
  have HT := Lib.hid (fun w => isToken_any s w (by omega))
  have HM : Hid (isM s = (Tok.isTok s && decide (s.size ≤ 30))) := rfl
  generalize isM s = m at *
  generalize Tok.isTok s = t at *
  go_enter Tryz.func27, Tryz.ntmps27
  go_wp2_with fail
  refine (HT.out _).mono ?_
  rintro e w' ⟨rfl, rfl⟩
  cases t
  · go_wp2_with fail
    go_ret
    exact ⟨ret_bool HM.out.symm, rfl⟩
  · go_wp2_with fail
    go_ret
    exact ⟨ret_bool (by rw [HM.out, Bool.true_and]; exact decide_eq_decide.2 (by omega)), rfl⟩
theorem isTarget_any (s : ByteArray) (w : World) (hs : s.size ≤ 140737488351232) :
    Calls Tryz.prog 28 #[.string s] w fun e w' => e = .returned (.bool (isT s)) ∧ w = w' := by
  have HT := Lib.hid (fun w => within_any s 33 126 w hs)
  have HM : Hid (isT s = (decide (0 < s.size) && decide (s.size ≤ 200) && (sl s).all (inB 33 126))) := by show _ = _; rw [← vis_inB]; rfl
  have he : (!s.toList.isEmpty) = decide (0 < s.size) := by
    rw [ba_toList]
    rcases Nat.eq_zero_or_pos s.size with h | h
    · rw [empty_of_size s h]; rfl
    · rw [sl_cons s h, decide_eq_true h]; rfl
  generalize isT s = m at *
  generalize (sl s).all (inB 33 126) = t at *
  by_cases h0 : 0 < s.size
  · have he' : s.toList.isEmpty = false := by rw [decide_eq_true h0] at he; simpa using he
    have hd0 : decide (0 < s.size) = true := decide_eq_true h0
    by_cases h2 : s.size ≤ 200
    · have hd2 : decide (s.size ≤ 200) = true := decide_eq_true h2
      have HM2 : Hid (m = t) := by show _ = _; rw [HM.out, hd0, hd2]; rfl
      clear he HM
      go_enter Tryz.func28, Tryz.ntmps28
      go_wp2_with fail
      refine (HT.out _).mono ?_
      rintro e w' ⟨rfl, rfl⟩
      go_wp2_with fail
      go_ret
      exact ⟨ret_bool HM2.out.symm, rfl⟩
    · have hd2 : decide (s.size ≤ 200) = false := decide_eq_false h2
      have HM2 : Hid (m = false) := by show _ = _; rw [HM.out, hd2, Bool.and_false, Bool.false_and]
      clear he HM
      go_enter Tryz.func28, Tryz.ntmps28
      go_wp2_with fail
      go_ret
      exact ⟨ret_bool HM2.out.symm, rfl⟩
  · have he' : s.toList.isEmpty = true := by rw [decide_eq_false h0] at he; simpa using he
    have HM2 : Hid (m = false) := by show _ = _; rw [HM.out, decide_eq_false h0]; rfl
    clear he HM
    go_enter Tryz.func28, Tryz.ntmps28
    go_wp2_with fail
    go_ret
    exact ⟨ret_bool HM2.out.symm, rfl⟩
def reqS (m t : ByteArray) : ByteArray := mkS (reqL (sl m) (sl t) ++ [13, 10])
theorem reqS_parts (m t : ByteArray) : m ++ ⟨#[32]⟩ ++ t ++ ⟨#[32]⟩ ++ verS ++ ⟨#[13, 10]⟩ = reqS m t := by
  apply sl_inj
  unfold reqS reqL
  simp only [sl_append, sl_mkS]
  simp [sl, verS, verL]
theorem reqS_size (m t : ByteArray) : (reqS m t).size = m.size + t.size + 12 := by
  unfold reqS
  rw [mkS_size, List.length_append, req_len, sl_len, sl_len]; rfl
set_option maxHeartbeats 800000 in
theorem printR_any (m t : ByteArray) (w : World) (hm : m.size ≤ 140737488351232) (ht : t.size ≤ 140737488351232) :
    Calls Tryz.prog 17 #[.string m, .string t] w fun e w' => e = .returned (if isM m = true ∧ isT t = true then .tuple #[.string (reqS m t), .int .i64 0] else .tuple #[.string ByteArray.empty, .int .i64 3]) ∧ w = w' := by
  have HM := Lib.hid (fun w => isMethod_any m w hm)
  have HT := Lib.hid (fun w => isTarget_any t w ht)
  cases hq1 : isM m
  · rw [hq1] at HM
    rw [if_neg (by simp)]
    clear hq1
    go_enter Tryz.func17, Tryz.ntmps17
    go_wp2_with fail
    refine (HM.out _).mono ?_
    rintro e w' ⟨rfl, rfl⟩
    go_wp2_with fail
    go_ret2
    exact ⟨rfl, rfl⟩
  · cases hq2 : isT t
    · rw [hq1] at HM
      rw [hq2] at HT
      rw [if_neg (by simp)]
      clear hq1 hq2
      go_enter Tryz.func17, Tryz.ntmps17
      go_wp2_with fail
      refine (HM.out _).mono ?_
      rintro e w' ⟨rfl, rfl⟩
      go_wp2_with fail
      refine (HT.out _).mono ?_
      rintro e w' ⟨rfl, rfl⟩
      go_wp2_with fail
      go_ret2
      exact ⟨rfl, rfl⟩
    · have hm30 := (isM_iff hq1).2
      have ht200 := (isT_iff hq2).2
      rw [sl_len] at hm30 ht200
      rw [hq1] at HM
      rw [hq2] at HT
      rw [if_pos ⟨rfl, rfl⟩]
      have HP := reqS_parts m t
      have HZ := reqS_size m t
      have e1 : (⟨#[32]⟩ : ByteArray).size = 1 := rfl
      have e8 : verS.size = 8 := rfl
      have z1 : (m ++ ⟨#[32]⟩).size ≤ 300 := by rw [ByteArray.size_append, e1]; omega
      have z2 : (m ++ ⟨#[32]⟩ ++ t).size ≤ 300 := by rw [ByteArray.size_append, ByteArray.size_append, e1]; omega
      have z3 : (m ++ ⟨#[32]⟩ ++ t ++ ⟨#[32]⟩).size ≤ 300 := by rw [ByteArray.size_append, ByteArray.size_append, ByteArray.size_append, e1]; omega
      have z4 : (m ++ ⟨#[32]⟩ ++ t ++ ⟨#[32]⟩ ++ verS).size ≤ 300 := by rw [ByteArray.size_append, ByteArray.size_append, ByteArray.size_append, ByteArray.size_append, e1, e8]; omega
      have z5 : (reqS m t).size ≤ 300 := by omega
      unfold verS at HP z4
      generalize hp5 : reqS m t = p5 at *
      generalize hp1 : m ++ ⟨#[32]⟩ = p1 at *
      generalize hp2 : p1 ++ t = p2 at *
      generalize hp3 : p2 ++ ⟨#[32]⟩ = p3 at *
      generalize hp4 : p3 ++ ⟨#[72, 84, 84, 80, 47, 49, 46, 49]⟩ = p4 at *
      clear hq1 hq2 hp5 HZ e1 e8
      go_enter Tryz.func17, Tryz.ntmps17
      go_wp2_with fail
      refine (HM.out _).mono ?_
      rintro e w' ⟨rfl, rfl⟩
      go_wp2_with fail
      refine (HT.out _).mono ?_
      rintro e w' ⟨rfl, rfl⟩
      go_wp2_with fail
      go_ret2
      exact ⟨rfl, rfl⟩
def FirstAns (l : List UInt8) (e : Ending) : Prop :=
  match firstF l with
  | .error c => e = .returned (.tuple #[.string ByteArray.empty, .int .i64 c])
  | .ok a => e = .returned (.tuple #[.string (mkS a), .int .i64 0])
abbrev Has2 (w : World) : Prop := (∃ m, w.cell? ⟨3, 0, none⟩ = some (.int .i64 m)) ∧ 3 < w.heap.size
theorem Has2.below {w w' : World} (h : Has2 w) (hb : Below w.heap.size w w') : Has2 w' := by
  obtain ⟨⟨m, hm⟩, hg⟩ := h
  exact ⟨⟨m, (hb.cell hg).trans hm⟩, Nat.lt_of_lt_of_le hg hb.size⟩
set_option maxHeartbeats 800000 in
theorem first_any (s : ByteArray) (w : World) (hs : s.size < 4294967281) (hm : Has2 w) :
    Calls Tryz.prog 31 #[.string s] w fun e w' => FirstAns (sl s) e ∧ Below w.heap.size w w' := by
  have HC := Lib.hid (cut2_any s w hs hm.1)
  clear hm
  go_enter Tryz.func31, Tryz.ntmps31
  go_wp2_with fail
  refine HC.out.mono ?_
  rintro e w1 ⟨hcut, b1⟩
  clear HC
  rcases hcut with ⟨a, rr, hc, rfl⟩ | ⟨hc, rfl⟩
  · have HF : Hid (firstF (sl s) = if 300 < a.length then .error 2 else .ok a) := by show _ = _; unfold firstF; rw [hc]
    have hz := mkS_size a
    have hz2 : a.length < 4294967281 := by
      have := congrArg List.length (cutL2_text hc)
      rw [sl_len, List.length_append] at this; omega
    clear hc
    generalize hLa : mkS a = L at *
    by_cases h300 : 300 < a.length
    · have d1 : decide (300 < L.size) = true := decide_eq_true (by omega)
      have HF2 : Hid (firstF (sl s) = .error 2) := by show _ = _; rw [HF.out, if_pos h300]
      clear HF
      go_wp2_with fail
      go_ret2
      exact ⟨by unfold FirstAns; rw [HF2.out]; rfl, b1⟩
    · have d1 : decide (300 < L.size) = false := decide_eq_false (by omega)
      have HF2 : Hid (firstF (sl s) = .ok a) := by show _ = _; rw [HF.out, if_neg h300]
      clear HF
      go_wp2_with fail
      go_ret2
      exact ⟨by unfold FirstAns; rw [HF2.out]; dsimp only; rw [hLa]; rfl, b1⟩
  · have HF : Hid (firstF (sl s) = if 301 < s.size then .error 2 else .error 8) := by show _ = _; unfold firstF; rw [hc, sl_len]
    clear hc
    by_cases h300 : 301 < s.size
    · have d1 : decide (301 < s.size) = true := decide_eq_true (by omega)
      have HF2 : Hid (firstF (sl s) = .error 2) := by show _ = _; rw [HF.out, if_pos h300]
      clear HF
      go_wp2_with fail
      go_ret2
      exact ⟨by unfold FirstAns; rw [HF2.out]; rfl, b1⟩
    · have d1 : decide (301 < s.size) = false := decide_eq_false (by omega)
      have HF2 : Hid (firstF (sl s) = .error 8) := by show _ = _; rw [HF.out, if_neg h300]
      clear HF
      go_wp2_with fail
      go_ret2
      exact ⟨by unfold FirstAns; rw [HF2.out]; rfl, b1⟩
end Ln
end Go.Proofs.YtoalfjkbgeiggaaGreatDoor
