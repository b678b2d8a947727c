/- What the calendar's functions of package date compute: isLeap, monthDays, Days, Civil; and larderref.Rest. -/
import Derived.Test.YtiijgbgknolmcaaDoorChecked
import Derived.Test.YtiijgbgknolmcaaDoorBase
import Derived.Test.YtiijgbgknolmcaaDoorDateMath
import Derived.Handy
import Derived.Lib.Hide
import Derived.WalkLawsBesides
namespace Go.Proofs.YtiijgbgknolmcaaDoor
open Go.RowKit

theorem ret_iiii {k : IntKind} {a b c d a' b' c' d' : Int} (h : a = a') (g : b = b') (i : c = c') (j : d = d') : Ending.returned (.tuple #[.int k a, .int k b, .int k c, .int k d]) = .returned (.tuple #[.int k a', .int k b', .int k c', .int k d']) := by rw [h, g, i, j]
theorem tmod_neg (n m : Int) (h : 0 < m) (h1 : n.tmod m < 0) : n.tmod m + m = n % m := by
  have a := Int.lt_tmod_of_pos n h
  have e := Int.emod_eq_tmod (a := n) (b := m)
  have p := Int.emod_nonneg n (show m ≠ 0 by omega)
  split at e <;> omega
theorem tmod_nonneg (n m : Int) (h : 0 < m) (h1 : 0 ≤ n.tmod m) : n.tmod m = n % m := by
  have e := Int.emod_eq_tmod (a := n) (b := m)
  have p := Int.emod_lt_of_pos n h
  split at e <;> omega

theorem isLeap_any (y : Int) (w : World) (h0 : 0 ≤ y) (h1 : y ≤ 9999) :
    Calls Tryd.prog 110 #[.int .i64 y] w fun e w' => e = .returned (.bool (Cal.leapB y)) ∧ w = w' := by
  go_enter Tryd.func110, Tryd.ntmps110
  go_wp2
  all_goals
    go_ret
    exact ⟨ret_bool (by simp [Cal.leapB, *]), rfl⟩

theorem monthDays_any (y m : Int) (w : World) (h0 : 0 ≤ y) (h1 : y ≤ 9999) :
    Calls Tryd.prog 93 #[.int .i64 y, .int .i64 m] w fun e w' => e = .returned (.int .i64 (Cal.mdays y m)) ∧ w = w' := by
  by_cases hl : Cal.leapB y = true
  all_goals
    go_enter Tryd.func93, Tryd.ntmps93
    go_wp2_with (go_at_call 110; refine (isLeap_any _ _ (by omega) (by omega)).mono ?_; rintro e w' ⟨rfl, rfl⟩)
    all_goals
      go_ret
      exact ⟨ret_int (by simp_all [Cal.mdays]), rfl⟩

theorem days_ok (y m d : Int) (w : World) (h : Cal.vld y m d = true) :
    Calls Tryd.prog 78 #[.int .i64 y, .int .i64 m, .int .i64 d] w fun e w' => e = .returned (.tuple #[.int .i64 (Cal.num y m d), .int .i64 0]) ∧ w = w' := by
  obtain ⟨h1, h2, h3, h4, h5, h6⟩ := (Cal.vld_iff _ _ _).1 h
  have b := Cal.mdays_bd y m
  clear h
  by_cases hm : m < 3
  all_goals
    go_enter Tryd.func78, Tryd.ntmps78
    go_wp2_with (go_at_call 93; refine (monthDays_any _ _ _ (by omega) (by omega)).mono ?_; rintro e w' ⟨rfl, rfl⟩)
    go_ret2
    exact ⟨ret_ii (by simp only [Cal.num, Cal.yy, Cal.mm, hm, if_true, if_false]; omega) rfl, rfl⟩

theorem days_no (y m d : Int) (w : World) (h : Cal.vld y m d = false) :
    Calls Tryd.prog 78 #[.int .i64 y, .int .i64 m, .int .i64 d] w fun e w' => e = .returned (.tuple #[.int .i64 0, .int .i64 1]) ∧ w = w' := by
  have h' : ¬ (1970 ≤ y ∧ y ≤ 9999 ∧ 1 ≤ m ∧ m ≤ 12 ∧ 1 ≤ d ∧ d ≤ Cal.mdays y m) := fun x => by rw [(Cal.vld_iff y m d).2 x] at h; cases h
  clear h
  by_cases c : 1970 ≤ y ∧ y ≤ 9999 ∧ 1 ≤ m ∧ m ≤ 12 ∧ 1 ≤ d
  · obtain ⟨h1, h2, h3, h4, h5⟩ := c
    have h6 : Cal.mdays y m < d := by omega
    clear h'
    go_enter Tryd.func78, Tryd.ntmps78
    go_wp2_with (go_at_call 93; refine (monthDays_any _ _ _ (by omega) (by omega)).mono ?_; rintro e w' ⟨rfl, rfl⟩)
    go_ret2
    exact ⟨rfl, rfl⟩
  · have H := Lib.hid h'; clear h'
    have C := Lib.hid c; clear c
    go_enter Tryd.func78, Tryd.ntmps78
    go_wp2_with fail
    any_goals (exfalso; have := C.out; omega)
    all_goals
      go_ret2
      exact ⟨rfl, rfl⟩

theorem civil_no (n : Int) (w : World) (h : n < 0 ∨ 2932896 < n) :
    Calls Tryd.prog 37 #[.int .i64 n] w fun e w' => e = .returned (.tuple #[.int .i64 0, .int .i64 0, .int .i64 0, .int .i64 1]) ∧ w = w' := by
  go_enter Tryd.func37, Tryd.ntmps37
  go_wp2
  all_goals
    refine bodyPost_ret (v := .tuple #[.int .i64 0, .int .i64 0, .int .i64 0, .int .i64 1]) (by simp [results, Tryd.results37, go_sem]) rfl ⟨rfl, rfl⟩

theorem civil_ok (n : Int) (w : World) (h0 : 0 ≤ n) (h1 : n ≤ 2932896) :
    Calls Tryd.prog 37 #[.int .i64 n] w fun e w' => e = .returned (.tuple #[.int .i64 (Cal.cy n), .int .i64 (Cal.cm n), .int .i64 (Cal.cd n), .int .i64 0]) ∧ w = w' := by
  have hr : 0 ≤ (n + 719468) % 146097 ∧ (n + 719468) % 146097 < 146097 := by omega
  obtain ⟨y0, y1, y2, y3⟩ := Cal.year_of ((n + 719468) % 146097) _ hr.1 hr.2 rfl
  go_enter Tryd.func37, Tryd.ntmps37
  go_wp2
  · have h12 : 12 < Cal.cM n + 3 := by assumption
    have e1 : Cal.cy n = Cal.cEra n * 400 + Cal.cY n + 1 := if_pos h12
    have e2 : Cal.cm n = Cal.cM n + 3 - 12 := if_pos h12
    refine bodyPost_ret (results_tmp4 rfl _ _ _) rfl ⟨?_, rfl⟩
    rw [e1, e2]
    rfl
  · have h12 : Cal.cM n + 3 ≤ 12 := by assumption
    have e1 : Cal.cy n = Cal.cEra n * 400 + Cal.cY n := if_neg (by omega)
    have e2 : Cal.cm n = Cal.cM n + 3 := if_neg (by omega)
    refine bodyPost_ret (results_tmp4 rfl _ _ _) rfl ⟨?_, rfl⟩
    rw [e1, e2]
    rfl

end Go.Proofs.YtiijgbgknolmcaaDoor
