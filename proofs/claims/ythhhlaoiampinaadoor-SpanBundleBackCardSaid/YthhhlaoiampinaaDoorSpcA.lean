/- What span's number, isContent and PrintContent compute. -/
import Derived.Test.YthhhlaoiampinaaDoorSpcP
import Derived.Test.YthhhlaoiampinaaDoorBodyA
import Derived.Test.YthhhlaoiampinaaDoorRegion
import Derived.Deep.QuietTactic
import Derived.BigQuiet
import Derived.IntWalk
namespace Go.Proofs.YthhhlaoiampinaaDoor
open Go.RowKit
namespace Spc
theorem atoi_wide (p : ByteArray) (w : World) (hs : p.size ≤ 281474976710656) (h : Bd.HasErr w) :
    Calls Tryd.prog 54 #[.string p] w fun e w' => (∃ v ev, e = .returned (.tuple #[.int .i64 v, ev]) ∧ Bd.AtoiR (sl p) v ev) ∧ Below w.heap.size w w' := by
  obtain ⟨t1, p1, hsy⟩ := h.syn
  obtain ⟨t2, p2, hra⟩ := h.ran
  cases ha : Lib.atoiAll (sl p) with
  | ok v =>
    refine (Tryd.strconv_Atoi_ok p (by omega) v ha w).mono fun e w' ⟨he, hw⟩ => ⟨⟨v, _, he, .inl ⟨ha, rfl⟩⟩, ?_⟩
    rcases hw with rfl | ⟨t, rfl⟩
    · exact Below.refl _ _
    · exact Lib.bytesWorld_below _ _ _
  | «syntax» =>
    refine (Tryd.strconv_Atoi_syntax p (by omega) ha _ w hsy (.inr ⟨_, _, rfl⟩)).mono fun e w' ⟨N, he, _, _, hb⟩ => ⟨⟨_, _, he, .inr ⟨fun u hu => (by rw [ha] at hu; cases hu), _, _, rfl⟩⟩, hb⟩
  | range =>
    refine (Tryd.strconv_Atoi_range p (by omega) ha _ w hra (.inr ⟨_, _, rfl⟩)).mono fun e w' ⟨N, he, _, _, hb⟩ => ⟨⟨_, _, he, .inr ⟨fun u hu => (by rw [ha] at hu; cases hu), _, _, rfl⟩⟩, hb⟩
theorem NumR.not {p : List UInt8} {v x : Int} (h : Lib.atoiAll p = .ok v) (hn : nB v = false ∨ Lib.itoa v ≠ p) : NumR p x false := by
  refine .inr ⟨rfl, fun u hu he => ?_⟩
  have h1 := atoi_itoa hu
  rw [he, h] at h1
  injection h1 with h1
  subst h1
  rcases hn with hn | hn
  · rw [hu] at hn; cases hn
  · exact hn he
theorem isNumberC_any (n : Int) (w : World) :
    Calls Tryd.prog 55 #[.int .i64 n] w fun e w' => e = .returned (.bool (nB n)) ∧ w = w' := by
  go_enter Tryd.func55, Tryd.ntmps55
  go_wp2
  all_goals
    go_ret
    exact ⟨ret_bool (by unfold nB; simp; try omega), rfl⟩
set_option maxHeartbeats 1000000 in
theorem numberC_any (s : ByteArray) (w : World) (hs : s.size ≤ 140737488355328) (he : Bd.HasErr w) :
    Calls Tryd.prog 37 #[.string s] w fun e w' => (∃ v b, e = .returned (.tuple #[.int .i64 v, .bool b]) ∧ NumR (sl s) v b) ∧ Below w.heap.size w w' := by
  have HE := Lib.hid (fun w' (hb : Below w.heap.size w w') => he.below hb)
  have HA := Lib.hid (atoi_wide s w (by omega) he)
  clear he
  go_enter Tryd.func37, Tryd.ntmps37
  go_wp2_with fail
  refine HA.out.mono ?_
  rintro e w1 ⟨⟨v, ev, rfl, hat⟩, b1⟩
  clear HA
  have HP := Lib.hid (HE.out _ b1).p10
  rcases hat with ⟨hok, rfl⟩ | ⟨hno, t, q, rfl⟩
  · have hvr := Bd.atoi_in hok
    have HOk := Lib.hid hok
    have HNb := Lib.hid (isNumberC_any v w1)
    clear hok
    cases hn : nB v
    · rw [hn] at HNb
      have HR : Hid (NumR (sl s) v false) := NumR.not HOk.out (.inl hn)
      clear HOk hn
      go_wp2_with fail
      refine HNb.out.mono ?_
      rintro e w2 ⟨rfl, rfl⟩
      go_wp2_with fail
      go_ret2
      exact ⟨⟨v, false, rfl, HR.out⟩, b1⟩
    · rw [hn] at HNb
      have HIt := Lib.hid (Bd.itoa_any v w1 hvr.1 hvr.2 HP.out)
      have hHR : NumR (sl s) v (decide (Lib.itoa v = sl s)) := by
        by_cases h : Lib.itoa v = sl s
        · rw [decide_eq_true h]; exact .inl ⟨rfl, hn, h⟩
        · rw [decide_eq_false h]; exact NumR.not HOk.out (.inr h)
      have hq : ((mkS (Lib.itoa v)).toList == s.toList) = decide (Lib.itoa v = sl s) := by rw [ba_toList, ba_toList, sl_mkS]; by_cases h : Lib.itoa v = sl s <;> simp [h]
      have HR := Lib.hid hHR
      clear HOk hn hHR
      generalize decide (Lib.itoa v = sl s) = B at *
      generalize mkS (Lib.itoa v) = I at *
      have HQ := Lib.hid hq
      clear hq
      go_wp2_with fail
      refine HNb.out.mono ?_
      rintro e w2 ⟨rfl, rfl⟩
      go_wp2_with fail
      refine HIt.out.mono ?_
      rintro e w3 ⟨rfl, b3⟩
      have hq := HQ.out
      cases B
      · go_wp2_with fail
        go_ret2
        exact ⟨⟨v, false, rfl, HR.out⟩, belT b1 b3⟩
      · go_wp2_with fail
        go_ret2
        exact ⟨⟨v, true, rfl, HR.out⟩, belT b1 b3⟩
  · have HR : Hid (NumR (sl s) v false) := .inr ⟨rfl, fun u hu h => hno u (by rw [← h]; exact atoi_itoa hu)⟩
    clear hno
    go_wp2_with fail
    go_ret2
    exact ⟨⟨v, false, rfl, HR.out⟩, b1⟩
theorem isContent_any (x y n : Int) (w : World) :
    Calls Tryd.prog 33 #[.agg #[.int .i64 x, .int .i64 y], .int .i64 n] w fun e w' => e = .returned (.bool (conB x y n)) ∧ Below w.heap.size w w' := by
  have HC : Hid (conB x y n = (decide (0 ≤ x) && decide (x < y) && decide (y ≤ n) && decide (n ≤ 99999))) := rfl
  generalize conB x y n = R at *
  by_cases h1 : 0 ≤ x
  · by_cases h2 : x < y
    · by_cases h3 : y ≤ n
      · have HR : Hid (R = decide (n ≤ 99999)) := by show _ = _; rw [HC.out, decide_eq_true h1, decide_eq_true h2, decide_eq_true h3]; simp
        have d1 := decide_eq_true h1
        have d2 := decide_eq_true h2
        have d3 := decide_eq_true h3
        clear HC
        go_enter Tryd.func33, Tryd.ntmps33
        go_wp2_with fail
        go_ret
        exact ⟨ret_bool HR.out.symm, by go_grown⟩
      · have HR : Hid (R = false) := by show _ = _; rw [HC.out, decide_eq_false h3]; simp
        have d1 := decide_eq_true h1
        have d2 := decide_eq_true h2
        have d3 := decide_eq_false h3
        clear HC
        go_enter Tryd.func33, Tryd.ntmps33
        go_wp2_with fail
        go_ret
        exact ⟨ret_bool HR.out.symm, by go_grown⟩
    · have HR : Hid (R = false) := by show _ = _; rw [HC.out, decide_eq_false h2]; simp
      have d1 := decide_eq_true h1
      have d2 := decide_eq_false h2
      clear HC
      go_enter Tryd.func33, Tryd.ntmps33
      go_wp2_with fail
      go_ret
      exact ⟨ret_bool HR.out.symm, by go_grown⟩
  · have HR : Hid (R = false) := by show _ = _; rw [HC.out, decide_eq_false h1]; simp
    have d1 := decide_eq_false h1
    clear HC
    go_enter Tryd.func33, Tryd.ntmps33
    go_wp2_with fail
    go_ret
    exact ⟨ret_bool HR.out.symm, by go_grown⟩
end Spc
end Go.Proofs.YthhhlaoiampinaaDoor
