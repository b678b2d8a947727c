import Derived.Test.YtgnblkmpoigejaaGreatDoorChecked
import Derived.Test.YtgnblkmpoigejaaGreatDoorU0
import Derived.Handy
import Derived.Lib.Hide
import Derived.WalkLawsBesides
import Derived.Lib.ItoaNum
import Derived.Test.YtgnblkmpoigejaaGreatDoorU9
import Derived.Test.YtgnblkmpoigejaaGreatDoorU1
import Derived.WalkSmall
import Derived.IntWalk
import Derived.Test.YtgnblkmpoigejaaGreatDoorU14
import Derived.Lib.AtoiErrMem
import Derived.Test.YtgnblkmpoigejaaGreatDoorU12
import Derived.Test.YtgnblkmpoigejaaGreatDoorU15
import Derived.Test.YtgnblkmpoigejaaGreatDoorU16
import Derived.Test.YtgnblkmpoigejaaGreatDoorU17
set_option linter.unusedVariables false
set_option linter.unusedSimpArgs false
namespace Go.Proofs.YtgnblkmpoigejaaGreatDoor.Cal
def leapB (y : Int) : Bool := y % 4 == 0 && (y % 100 != 0 || y % 400 == 0)
def mdays (y m : Int) : Int := if m = 4 ∨ m = 6 ∨ m = 9 ∨ m = 11 then 30 else if m = 2 then (if leapB y = true then 29 else 28) else 31
def vld (y m d : Int) : Bool := decide (1970 ≤ y ∧ y ≤ 9999 ∧ 1 ≤ m ∧ m ≤ 12 ∧ 1 ≤ d ∧ d ≤ mdays y m)
def yy (y m : Int) : Int := if m < 3 then y - 1 else y
def mm (m : Int) : Int := if m < 3 then m + 9 else m - 3
def num (y m d : Int) : Int := yy y m * 365 + yy y m / 4 - yy y m / 100 + yy y m / 400 + (153 * mm m + 2) / 5 + d - 1 - 719468
theorem leap_iff (y : Int) : leapB y = true ↔ (y % 4 = 0 ∧ (y % 100 ≠ 0 ∨ y % 400 = 0)) := by
 simp [leapB, bne_iff_ne]
def ys (y : Int) : Int := (y - 1) * 365 + (y - 1) / 4 - (y - 1) / 100 + (y - 1) / 400 - 719162
def cum (y m : Int) : Int := (153 * (if m < 3 then m + 9 else m - 3) + 2) / 5 - 306 + (if m < 3 then 0 else if leapB y = true then 366 else 365)
theorem num_eq (y m d : Int) : num y m d = ys y + cum y m + d - 1 := by
 have hl := leap_iff y
 unfold num ys cum yy mm
 by_cases h : leapB y = true
 ·have := hl.1 h
  by_cases hm : m < 3 <;> simp only [h, hm, if_true, if_false] <;> omega
 ·have : ¬ (y % 4 = 0 ∧ (y % 100 ≠ 0 ∨ y % 400 = 0)) := fun x => h (hl.2 x)
  by_cases hm : m < 3 <;> simp only [h, hm, if_true, if_false, Bool.false_eq_true] <;> omega
theorem ys_succ (y : Int) : ys (y + 1) = ys y + (if leapB y = true then 366 else 365) := by
 have hl := leap_iff y
 unfold ys
 by_cases h : leapB y = true
 ·have := hl.1 h
  simp only [h, if_true]; omega
 ·have : ¬ (y % 4 = 0 ∧ (y % 100 ≠ 0 ∨ y % 400 = 0)) := fun x => h (hl.2 x)
  simp only [h, if_false, Bool.false_eq_true]; omega
theorem ys_mono (y z : Int) (h : y ≤ z) : ys y ≤ ys z := by unfold ys; omega
theorem m_cases {m : Int} (h1 : 1 ≤ m) (h2 : m ≤ 12) : m = 1 ∨ m = 2 ∨ m = 3 ∨ m = 4 ∨ m = 5 ∨ m = 6 ∨ m = 7 ∨ m = 8 ∨ m = 9 ∨ m = 10 ∨ m = 11 ∨ m = 12 := by omega
theorem cum_succ (y m : Int) (h1 : 1 ≤ m) (h2 : m ≤ 11) : cum y (m + 1) = cum y m + mdays y m := by
 unfold cum mdays
 rcases m_cases h1 (by omega) with rfl | rfl | rfl | rfl | rfl | rfl | rfl | rfl | rfl | rfl | rfl | rfl <;> by_cases h : leapB y = true <;> simp [h] at h2 ⊢
theorem cum_last (y : Int) : cum y 12 + mdays y 12 = (if leapB y = true then 366 else 365) := by
 unfold cum mdays
 by_cases h : leapB y = true <;> simp [h]
theorem cum_one (y : Int) : cum y 1 = 0 := by unfold cum; simp
theorem mdays_bd (y m : Int) : 28 ≤ mdays y m ∧ mdays y m ≤ 31 := by
 unfold mdays
 split
 ·omega
 ·split
  ·split <;> omega
  ·omega
theorem cum_mono (y m k : Int) (h1 : 1 ≤ m) (h : m < k) (h2 : k ≤ 12) : cum y m + mdays y m ≤ cum y k := by
 obtain ⟨n, hn⟩ : ∃ n : Nat, k = m + 1 + n := ⟨(k - m - 1).toNat, by omega⟩
 subst hn
 induction n with
 | zero => have := cum_succ y m h1 (by omega); simp; omega
 | succ n ih =>
  have i := ih (by omega) (by omega)
  have s := cum_succ y (m + 1 + n) (by omega) (by omega)
  have b := mdays_bd y (m + 1 + n)
  have e : m + 1 + ((n + 1 : Nat) : Int) = m + 1 + n + 1 := by omega
  rw [e, s]; omega
theorem vld_iff (y m d : Int) : vld y m d = true ↔ (1970 ≤ y ∧ y ≤ 9999 ∧ 1 ≤ m ∧ m ≤ 12 ∧ 1 ≤ d ∧ d ≤ mdays y m) := by simp [vld]
theorem num_in (y m d : Int) (h : vld y m d = true) : ys y + cum y m ≤ num y m d ∧ num y m d < ys y + cum y m + mdays y m ∧ 0 ≤ cum y m ∧ ys y + cum y m + mdays y m ≤ ys (y + 1) := by
 obtain ⟨_, _, h1, h2, h3, h4⟩ := (vld_iff y m d).1 h
 have e := num_eq y m d
 have s := ys_succ y
 have l := cum_last y
 have o := cum_one y
 have b := mdays_bd y m
 have b1 := mdays_bd y 1
 have b12 := mdays_bd y 12
 have p : 0 ≤ cum y m := by
  by_cases hm : m = 1
  ·subst hm; omega
  ·have := cum_mono y 1 m (by omega) (by omega) h2; omega
 have q : cum y m + mdays y m ≤ cum y 12 + mdays y 12 := by
  by_cases hm : m = 12
  ·subst hm; omega
  ·have := cum_mono y m 12 h1 (by omega) (by omega); omega
 refine ⟨by omega, by omega, p, by omega⟩
theorem num_range (y m d : Int) (h : vld y m d = true) : 0 ≤ num y m d ∧ num y m d ≤ 2932896 := by
 have a := num_in y m d h
 obtain ⟨h1, h2, _⟩ := (vld_iff y m d).1 h
 have e1 := ys_mono 1970 y h1
 have e2 := ys_mono (y + 1) 10000 (by omega)
 have f1 : ys 1970 = 0 := by decide
 have f2 : ys 10000 = 2932897 := by decide
 omega
def cR (n : Int) : Int := (n + 719468) % 146097
def cEra (n : Int) : Int := (n + 719468) / 146097
def cY (n : Int) : Int := (cR n - cR n / 1460 + cR n / 36524 - cR n / 146096) / 365
def cN (n : Int) : Int := cR n - (cY n * 365 + cY n / 4 - cY n / 100)
def cM (n : Int) : Int := (5 * cN n + 2) / 153
def cd (n : Int) : Int := cN n - (153 * cM n + 2) / 5 + 1
def cm (n : Int) : Int := if 12 < cM n + 3 then cM n + 3 - 12 else cM n + 3
def cy (n : Int) : Int := if 12 < cM n + 3 then cEra n * 400 + cY n + 1 else cEra n * 400 + cY n
theorem year_of (r y : Int) (h0 : 0 ≤ r) (h1 : r < 146097) (hy : y = (r - r / 1460 + r / 36524 - r / 146096) / 365) :
  0 ≤ y ∧ y ≤ 399 ∧ y * 365 + y / 4 - y / 100 ≤ r ∧ r < (y + 1) * 365 + (y + 1) / 4 - (y + 1) / 100 + (y + 1) / 400 := by
 have hb : r / 36524 = 0 ∨ r / 36524 = 1 ∨ r / 36524 = 2 ∨ r / 36524 = 3 ∨ r = 146096 := by omega
 have hc : r = 146096 ∨ r / 146096 = 0 := by omega
 rcases hc with rfl | hc
 ·have : y = 399 := by omega
  subst this; omega
 rw [hc] at hy
 have key : ∀ b : Int, 0 ≤ b → b ≤ 3 → r / 36524 = b → 0 ≤ y ∧ y ≤ 399 ∧ y * 365 + y / 4 - y / 100 ≤ r ∧ r < (y + 1) * 365 + (y + 1) / 4 - (y + 1) / 100 + (y + 1) / 400 := by
  intro b b0 b3 hb
  rw [hb] at hy
  obtain ⟨a, ha⟩ : ∃ a, a = r / 1460 := ⟨_, rfl⟩
  rw [← ha] at hy
  have i1 : 1460 * a ≤ r := by omega
  have i2 : r ≤ 1460 * a + 1459 := by omega
  have j1 : 365 * y ≤ r - a + b := by omega
  have j2 : r - a + b ≤ 365 * y + 364 := by omega
  have k1 : 36524 * b ≤ r := by omega
  have k2 : r ≤ 36524 * b + 36523 := by omega
  clear hb hy ha
  have hp : y / 100 = b := by
   have : 100 * b ≤ y ∧ y ≤ 100 * b + 99 := by
    have : b = 0 ∨ b = 1 ∨ b = 2 ∨ b = 3 := by omega
    rcases this with rfl | rfl | rfl | rfl <;> omega
   omega
  obtain ⟨q, s, hs, hq, s0, s3⟩ : ∃ q s, y = 4 * q + s ∧ y / 4 = q ∧ 0 ≤ s ∧ s ≤ 3 := ⟨y / 4, y % 4, by omega, rfl, by omega, by omega⟩
  rw [hp, hq]
  have e1 : q ≤ a := by omega
  have e2 : a ≤ q + 1 := by omega
  have hs' : s = 0 ∨ s = 1 ∨ s = 2 ∨ s = 3 := by omega
  subst hs
  have hp' : 100 * b ≤ 4 * q + s ∧ 4 * q + s ≤ 100 * b + 99 := by omega
  clear hp hq
  refine ⟨by omega, by omega, ?_, ?_⟩
  ·rcases hs' with rfl | rfl | rfl | rfl <;> omega
  ·have h4 : 0 ≤ (4 * q + s + 1) / 400 := by omega
   by_cases hl : 4 * q + s = 100 * b + 99
   ·have g1 : (4 * q + s + 1) / 100 = b + 1 := by omega
    have g2 : (4 * q + s + 1) / 4 = 25 * (b + 1) := by omega
    rw [g1, g2]; omega
   ·have g1 : (4 * q + s + 1) / 100 = b := by omega
    rw [g1]
    clear hl k1 k2
    rcases hs' with rfl | rfl | rfl | rfl
    ·have g2 : (4 * q + 0 + 1) / 4 = q := by omega
     rw [g2]; omega
    ·have g2 : (4 * q + 1 + 1) / 4 = q := by omega
     rw [g2]; omega
    ·have g2 : (4 * q + 2 + 1) / 4 = q := by omega
     rw [g2]; omega
    ·have g2 : (4 * q + 3 + 1) / 4 = q + 1 := by omega
     rw [g2]; omega
 rcases hb with hb | hb | hb | hb | hb
 ·exact key 0 (by omega) (by omega) hb
 ·exact key 1 (by omega) (by omega) hb
 ·exact key 2 (by omega) (by omega) hb
 ·exact key 3 (by omega) (by omega) hb
 ·omega
theorem num_in' (y m d : Int) (h1 : 1 ≤ m) (h2 : m ≤ 12) (h3 : 1 ≤ d) (h4 : d ≤ mdays y m) : ys y + cum y m ≤ num y m d ∧ num y m d < ys y + cum y m + mdays y m ∧ 0 ≤ cum y m ∧ ys y + cum y m + mdays y m ≤ ys (y + 1) := by
 have e := num_eq y m d
 have s := ys_succ y
 have l := cum_last y
 have o := cum_one y
 have b := mdays_bd y m
 have b1 := mdays_bd y 1
 have b12 := mdays_bd y 12
 have p : 0 ≤ cum y m := by
  by_cases hm : m = 1
  ·subst hm; omega
  ·have := cum_mono y 1 m (by omega) (by omega) h2; omega
 have q : cum y m + mdays y m ≤ cum y 12 + mdays y 12 := by
  by_cases hm : m = 12
  ·subst hm; omega
  ·have := cum_mono y m 12 h1 (by omega) (by omega); omega
 refine ⟨by omega, by omega, p, by omega⟩
theorem civ_core (n era r y rem M : Int) (he : n + 719468 = 146097 * era + r) (y0 : 0 ≤ y) (y1 : y ≤ 399)
  (hrem : rem = r - (y * 365 + y / 4 - y / 100)) (r0 : 0 ≤ rem) (r1 : r < (y + 1) * 365 + (y + 1) / 4 - (y + 1) / 100 + (y + 1) / 400) (hM : M = (5 * rem + 2) / 153) (Y m : Int)
  (hY : Y = if 12 < M + 3 then era * 400 + y + 1 else era * 400 + y) (hm : m = if 12 < M + 3 then M + 3 - 12 else M + 3) :
  0 ≤ M ∧ M ≤ 11 ∧ 1 ≤ m ∧ m ≤ 12 ∧ 1 ≤ rem - (153 * M + 2) / 5 + 1 ∧ rem - (153 * M + 2) / 5 + 1 ≤ mdays Y m ∧ num Y m (rem - (153 * M + 2) / 5 + 1) = n := by
 have M0 : 0 ≤ M := by omega
 have M1 : M ≤ 11 := by omega
 refine ⟨M0, M1, ?_⟩
 have hc : M = 0 ∨ M = 1 ∨ M = 2 ∨ M = 3 ∨ M = 4 ∨ M = 5 ∨ M = 6 ∨ M = 7 ∨ M = 8 ∨ M = 9 ∨ M = 10 ∨ M = 11 := by omega
 have hl := leap_iff Y
 have i1 : (era * 400 + y) / 4 = era * 100 + y / 4 := by omega
 have i2 : (era * 400 + y) / 100 = era * 4 + y / 100 := by omega
 have i3 : (era * 400 + y) / 400 = era := by omega
 have fin : num Y m (rem - (153 * M + 2) / 5 + 1) = n := by
  have e1 : yy Y m = era * 400 + y := by
   unfold yy; subst hY hm
   by_cases h : 12 < M + 3 <;> simp only [h, if_true, if_false] <;> split <;> omega
  have e2 : mm m = M := by
   unfold mm; subst hm
   by_cases h : 12 < M + 3 <;> simp only [h, if_true, if_false] <;> split <;> omega
  unfold num
  rw [e1, e2, i1, i2, i3]
  omega
 refine ⟨?_, ?_, ?_, ?_, fin⟩
 ·subst hm; split <;> omega
 ·subst hm; split <;> omega
 ·omega
 ·unfold mdays
  by_cases h11 : M = 11
  ·subst h11
   rw [if_pos (by omega)] at hY hm
   subst hm
   rw [if_neg (by omega), if_pos (by omega)]
   by_cases h : leapB Y = true
   ·rw [if_pos h]
    have hd : (y + 1) / 4 ≤ y / 4 + 1 ∧ y / 100 ≤ (y + 1) / 100 := by omega
    have h4 : (y + 1) / 400 = 0 ∨ ((y + 1) / 400 = 1 ∧ (y + 1) / 100 = y / 100 + 1) := by omega
    omega
   ·rw [if_neg h]
    have hn : ¬ (Y % 4 = 0 ∧ (Y % 100 ≠ 0 ∨ Y % 400 = 0)) := fun x => h (hl.2 x)
    have hd : (y + 1) / 4 - (y + 1) / 100 + (y + 1) / 400 = y / 4 - y / 100 := by subst hY; omega
    omega
  ·rcases hc with rfl | rfl | rfl | rfl | rfl | rfl | rfl | rfl | rfl | rfl | rfl | rfl <;> simp at hm <;> subst hm <;> simp <;> first | omega | exact absurd rfl h11
theorem civ_ok (n : Int) (h0 : 0 ≤ n) (h1 : n ≤ 2932896) : vld (cy n) (cm n) (cd n) = true ∧ num (cy n) (cm n) (cd n) = n := by
 have hr : 0 ≤ cR n ∧ cR n < 146097 := by unfold cR; omega
 have hy := year_of (cR n) (cY n) hr.1 hr.2 rfl
 have k := civ_core n (cEra n) (cR n) (cY n) (cN n) (cM n) (by unfold cEra cR; omega) hy.1 hy.2.1 rfl (by unfold cN; omega) hy.2.2.2 rfl (cy n) (cm n) rfl rfl
 obtain ⟨_, _, a, b, c, d, e⟩ := k
 have e' : num (cy n) (cm n) (cd n) = n := e
 have hi := num_in' (cy n) (cm n) (cd n) a b c d
 refine ⟨(vld_iff _ _ _).2 ⟨?_, ?_, a, b, c, d⟩, e'⟩
 ·by_cases h : 1970 ≤ cy n
  ·exact h
  ·have := ys_mono (cy n + 1) 1970 (by omega)
   have f1 : ys 1970 = 0 := by decide
   omega
 ·by_cases h : cy n ≤ 9999
  ·exact h
  ·have := ys_mono 10000 (cy n) (by omega)
   have f2 : ys 10000 = 2932897 := by decide
   omega
end Go.Proofs.YtgnblkmpoigejaaGreatDoor.Cal
namespace Go.Proofs.YtgnblkmpoigejaaGreatDoor
open Go.RowKit
theorem isLeap_any (y : Int) (w : World) (h0 : 0 ≤ y) (h1 : y ≤ 9999) :
  Calls Tryz.prog 234 #[.int .i64 y] w fun e w' => e = .returned (.bool (Cal.leapB y)) ∧ w = w' := by
 go_enter Tryz.func234, Tryz.ntmps234
 go_wp2
 all_goals
  go_ret
  exact ⟨ret_bool (by simp [Cal.leapB, *]), rfl⟩
theorem monthDays_any (y m : Int) (w : World) (h0 : 0 ≤ y) (h1 : y ≤ 9999) :
  Calls Tryz.prog 212 #[.int .i64 y, .int .i64 m] w fun e w' => e = .returned (.int .i64 (Cal.mdays y m)) ∧ w = w' := by
 by_cases hl : Cal.leapB y = true
 all_goals
  go_enter Tryz.func212, Tryz.ntmps212
  go_wp2_with (go_at_call 234; refine (isLeap_any _ _ (by omega) (by omega)).mono ?_; rintro e w' ⟨rfl, rfl⟩)
  all_goals
   go_ret
   exact ⟨ret_int (by simp_all [Cal.mdays]), rfl⟩
theorem days_ok (y m d : Int) (w : World) (h : Cal.vld y m d = true) :
  Calls Tryz.prog 171 #[.int .i64 y, .int .i64 m, .int .i64 d] w fun e w' => e = .returned (.tuple #[.int .i64 (Cal.num y m d), .int .i64 0]) ∧ w = w' := by
 obtain ⟨h1, h2, h3, h4, h5, h6⟩ := (Cal.vld_iff _ _ _).1 h
 have b := Cal.mdays_bd y m
 clear h
 by_cases hm : m < 3
 all_goals
  go_enter Tryz.func171, Tryz.ntmps171
  go_wp2_with (go_at_call 212; refine (monthDays_any _ _ _ (by omega) (by omega)).mono ?_; rintro e w' ⟨rfl, rfl⟩)
  go_ret2
  exact ⟨ret_ii (by simp only [Cal.num, Cal.yy, Cal.mm, hm, if_true]; omega) rfl, rfl⟩
theorem days_no (y m d : Int) (w : World) (h : Cal.vld y m d = false) :
  Calls Tryz.prog 171 #[.int .i64 y, .int .i64 m, .int .i64 d] w fun e w' => e = .returned (.tuple #[.int .i64 0, .int .i64 1]) ∧ w = w' := by
 have h' : ¬ (1970 ≤ y ∧ y ≤ 9999 ∧ 1 ≤ m ∧ m ≤ 12 ∧ 1 ≤ d ∧ d ≤ Cal.mdays y m) := fun x => by rw [(Cal.vld_iff y m d).2 x] at h; cases h
 clear h
 by_cases c : 1970 ≤ y ∧ y ≤ 9999 ∧ 1 ≤ m ∧ m ≤ 12 ∧ 1 ≤ d
 ·obtain ⟨h1, h2, h3, h4, h5⟩ := c
  have h6 : Cal.mdays y m < d := by omega
  clear h'
  go_enter Tryz.func171, Tryz.ntmps171
  go_wp2_with (go_at_call 212; refine (monthDays_any _ _ _ (by omega) (by omega)).mono ?_; rintro e w' ⟨rfl, rfl⟩)
  go_ret2
  exact ⟨rfl, rfl⟩
 ·have H := Lib.hid h'; clear h'
  have C := Lib.hid c; clear c
  go_enter Tryz.func171, Tryz.ntmps171
  go_wp2_with fail
  any_goals (exfalso; have := C.out; omega)
  all_goals
   go_ret2
   exact ⟨rfl, rfl⟩
theorem civil_ok (n : Int) (w : World) (h0 : 0 ≤ n) (h1 : n ≤ 2932896) :
  Calls Tryz.prog 183 #[.int .i64 n] w fun e w' => e = .returned (.tuple #[.int .i64 (Cal.cy n), .int .i64 (Cal.cm n), .int .i64 (Cal.cd n), .int .i64 0]) ∧ w = w' := by
 have hr : 0 ≤ (n + 719468) % 146097 ∧ (n + 719468) % 146097 < 146097 := by omega
 obtain ⟨y0, y1, y2, y3⟩ := Cal.year_of ((n + 719468) % 146097) _ hr.1 hr.2 rfl
 go_enter Tryz.func183, Tryz.ntmps183
 go_wp2
 ·have h12 : 12 < Cal.cM n + 3 := by assumption
  have e1 : Cal.cy n = Cal.cEra n * 400 + Cal.cY n + 1 := if_pos h12
  have e2 : Cal.cm n = Cal.cM n + 3 - 12 := if_pos h12
  refine bodyPost_ret (results_tmp4 rfl _ _ _) rfl ⟨?_, rfl⟩
  rw [e1, e2]
  rfl
 ·have h12 : Cal.cM n + 3 ≤ 12 := by assumption
  have e1 : Cal.cy n = Cal.cEra n * 400 + Cal.cY n := if_neg (by omega)
  have e2 : Cal.cm n = Cal.cM n + 3 := if_neg (by omega)
  refine bodyPost_ret (results_tmp4 rfl _ _ _) rfl ⟨?_, rfl⟩
  rw [e1, e2]
  rfl
namespace Dt
def dg (n : Nat) : UInt8 := UInt8.ofNat (48 + n)
def d2 (n : Nat) : List UInt8 := [dg (n / 10), dg (n % 10)]
def d4 (n : Nat) : List UInt8 := [dg (n / 1000), dg (n / 100 % 10), dg (n / 10 % 10), dg (n % 10)]
def days7 : List UInt8 := [84, 104, 117, 70, 114, 105, 83, 97, 116, 83, 117, 110, 77, 111, 110, 84, 117, 101, 87, 101, 100]
def months12 : List UInt8 := [74, 97, 110, 70, 101, 98, 77, 97, 114, 65, 112, 114, 77, 97, 121, 74, 117, 110, 74, 117, 108, 65, 117, 103, 83, 101, 112, 79, 99, 116, 78, 111, 118, 68, 101, 99]
def wd (k : Nat) : List UInt8 := (days7.drop (k * 3)).take 3
def mo (m : Nat) : List UInt8 := (months12.drop (3 * m - 3)).take 3
def textD (k d m y s : Nat) : List UInt8 :=
 wd k ++ ([44, 32] ++ (d2 d ++ ([32] ++ (mo m ++ ([32] ++ (d4 y ++ ([32] ++ (d2 (s / 3600) ++ ([58] ++ (d2 (s / 60 % 60) ++ ([58] ++ (d2 (s % 60) ++ [32, 71, 77, 84]))))))))))))
def printD (n : Nat) : List UInt8 := textD (n / 86400 % 7) (Cal.cd ((n / 86400 : Nat) : Int)).toNat (Cal.cm ((n / 86400 : Nat) : Int)).toNat (Cal.cy ((n / 86400 : Nat) : Int)).toNat (n % 86400)
theorem dec2 (n : Nat) (h : n < 100) : (if n < 10 then 48 :: Lib.decDigits n else Lib.decDigits n) = d2 n := by
 unfold d2 dg
 by_cases h1 : n < 10
 ·rw [if_pos h1, Lib.decDigits, dif_pos h1, show n / 10 = 0 from by omega, show n % 10 = n from by omega]; rfl
 ·rw [if_neg h1, Lib.decDigits, dif_neg h1, Lib.decDigits, dif_pos (by omega)]; rfl
theorem dec4 (n : Nat) (h0 : 1000 ≤ n) (h : n < 10000) : Lib.decDigits n = d4 n := by
 unfold d4 dg
 rw [Lib.decDigits, dif_neg (by omega), Lib.decDigits, dif_neg (by omega), Lib.decDigits, dif_neg (by omega), Lib.decDigits, dif_pos (by omega)]
 rw [show n / 10 / 10 = n / 100 from by omega, show n / 100 / 10 = n / 1000 from by omega]
 rfl
theorem d2_len (n : Nat) : (d2 n).length = 2 := rfl
theorem d4_len (n : Nat) : (d4 n).length = 4 := rfl
theorem wd_len (k : Nat) (h : k < 7) : (wd k).length = 3 := by
 have : ∀ k : Fin 7, (wd k.val).length = 3 := by decide
 exact this ⟨k, h⟩
theorem mo_len (m : Nat) (h : 1 ≤ m ∧ m ≤ 12) : (mo m).length = 3 := by
 have : ∀ m : Fin 13, 1 ≤ m.val → (mo m.val).length = 3 := by decide
 exact this ⟨m, by omega⟩ h.1
theorem textD_len (k d m y s : Nat) (hk : k < 7) (hm : 1 ≤ m ∧ m ≤ 12) : (textD k d m y s).length = 29 := by
 unfold textD
 simp only [List.length_append, wd_len k hk, mo_len m hm, d2_len, d4_len, List.length_cons, List.length_nil]
def num : List UInt8 → Nat → Option Nat
 | [], n => some n
 | c :: l, n => if 48 ≤ c ∧ c ≤ 57 then num l (10 * n + (c.toNat - 48)) else none
end Dt
set_option maxRecDepth 20000
def HasP10 (w : World) : Prop := Lib.TabIs Tryz.prog w "internal/strconv.uint64pow10" .u64 Lib.pow10Tab ∧ 1 < w.heap.size
theorem HasP10.below {B : Nat} {w w' : World} (h : HasP10 w) (hB : B = w.heap.size) (hb : Below B w w') : HasP10 w' := by
 subst hB
 exact ⟨var?_below hb (g := 1) (by kernel_rfl) h.2 h.1, Nat.lt_of_lt_of_le h.2 hb.size⟩
theorem below_grow_ (B : Nat) (w : World) (hB : B ≤ w.heap.size) (k : Nat) (os : Array Obj) : Below B w (Sort.grow (w.drewN k) os) :=
 ⟨rfl, rfl, rfl, by show _ ≤ ((w.drewN k).heap ++ os).size; rw [Array.size_append]; exact Nat.le_add_right _ _, fun i hi => by
  show (w.heap ++ os)[i]? = w.heap[i]?
  rw [Array.getElem?_append_left (Nat.lt_of_lt_of_le hi hB)]⟩
theorem two_any (n : Nat) (w : World) (h : n < 100) :
  Calls Tryz.prog 184 #[.int .i64 n] w fun e w' => e = .returned (.string (mkS (Dt.d2 n))) ∧ w = w' := by
 have hd := Dt.dec2 n h
 have HI := Lib.hid (Tryz.strconv_Itoa_small n h)
 have hXs : sl (⟨(Lib.decDigits n).toArray⟩ : ByteArray) = Lib.decDigits n := rfl
 have hXz : (⟨(Lib.decDigits n).toArray⟩ : ByteArray).size ≤ 2 := by
  rw [← sl_len, hXs]
  have := congrArg List.length hd
  rw [Dt.d2_len] at this
  split at this
  ·simp only [List.length_cons] at this; omega
  ·omega
 rw [← hXs] at hd
 have HD := Lib.hid hd
 generalize (⟨(Lib.decDigits n).toArray⟩ : ByteArray) = X at *
 generalize Dt.d2 n = q at *
 clear hXs hd
 have z1 : (⟨#[48]⟩ : ByteArray).size + X.size ≤ 9223372036854775807 := by have : (⟨#[48]⟩ : ByteArray).size = 1 := rfl; omega
 go_enter Tryz.func184, Tryz.ntmps184
 by_cases h10 : n < 10
 ·have d1 : decide (n < 10) = true := decide_eq_true h10
  go_wp2_with fail
  refine (HI.out _).mono ?_
  rintro e w' ⟨rfl, rfl⟩
  go_wp2_with fail
  go_ret
  exact ⟨ret_str (sl_inj (by rw [sl_append, sl_mkS, ← HD.out, if_pos h10]; rfl)), rfl⟩
 ·have d1 : decide (n < 10) = false := decide_eq_false h10
  go_wp2_with fail
  refine (HI.out _).mono ?_
  rintro e w' ⟨rfl, rfl⟩
  go_wp2_with fail
  go_ret
  exact ⟨ret_str (sl_inj (by rw [sl_mkS, ← HD.out, if_neg h10])), rfl⟩
theorem itoa_year (y : Nat) (w : World) (h0 : 1000 ≤ y) (h1 : y < 10000) (hp : HasP10 w) :
  Calls Tryz.prog 36 #[.int .i64 y] w fun e w' => e = .returned (.string (mkS (Dt.d4 y))) ∧ Below w.heap.size w w' := by
 refine (Tryz.strconv_Itoa (y : Int) (by omega) (by omega) w hp.1).mono fun e w' ⟨he, k, os, hw⟩ => ⟨?_, ?_⟩
 ·rw [he]
  unfold Lib.itoa
  rw [if_neg (by omega), Int.toNat_natCast, Dt.dec4 y h0 h1]; rfl
 ·rw [hw]; exact below_grow_ _ w (Nat.le_refl _) k os
theorem datePrint_no (n : Int) (w : World) (h : n < 0 ∨ 253402300799 < n) :
  Calls Tryz.prog 144 #[.int .i64 n] w fun e w' => e = .returned (.tuple #[.string ByteArray.empty, .int .i64 1]) ∧ w = w' := by
 go_enter Tryz.func144, Tryz.ntmps144
 by_cases h0 : n < 0
 ·go_wp2_with fail
  go_ret2
  exact ⟨rfl, rfl⟩
 ·have h1 : 253402300799 < n := by omega
  go_wp2_with fail
  go_ret2
  exact ⟨rfl, rfl⟩
set_option maxHeartbeats 3200000 in
theorem datePrint_ok (n : Nat) (w : World) (h : n ≤ 253402300799) (hp : HasP10 w) :
  Calls Tryz.prog 144 #[.int .i64 n] w fun e w' => e = .returned (.tuple #[.string (mkS (Dt.printD n)), .int .i64 0]) ∧ Below w.heap.size w w' := by
 obtain ⟨D, hD⟩ : ∃ D, n / 86400 = D := ⟨_, rfl⟩
 obtain ⟨S, hS⟩ : ∃ S, n % 86400 = S := ⟨_, rfl⟩
 have hD1 : D ≤ 2932896 := by omega
 have hS1 : S < 86400 := by omega
 have hDq : (n : Int) / 86400 = (D : Int) := by omega
 have hSq : (n : Int) % 86400 = (S : Int) := by omega
 have HC := Lib.hid (fun w => civil_ok (D : Int) w (by omega) (by omega))
 have hv := (Cal.civ_ok (D : Int) (by omega) (by omega)).1
 rw [Cal.vld_iff] at hv
 have hmd := (Cal.mdays_bd (Cal.cy (D : Int)) (Cal.cm (D : Int))).2
 have hr : Dt.printD n = Dt.textD (D % 7) (Cal.cd (D : Int)).toNat (Cal.cm (D : Int)).toNat (Cal.cy (D : Int)).toNat S := by
  unfold Dt.printD
  rw [hD, hS]
 generalize Cal.mdays (Cal.cy (D : Int)) (Cal.cm (D : Int)) = mx at *
 generalize Cal.cy (D : Int) = cy at *
 generalize Cal.cm (D : Int) = cm at *
 generalize Cal.cd (D : Int) = cd at *
 obtain ⟨y1, y2, m1, m2, d1, d2⟩ := hv
 obtain ⟨Y, rfl⟩ : ∃ Y : Nat, cy = (Y : Int) := ⟨cy.toNat, by omega⟩
 obtain ⟨M, rfl⟩ : ∃ M : Nat, cm = (M : Int) := ⟨cm.toNat, by omega⟩
 obtain ⟨Dd, rfl⟩ : ∃ Dd : Nat, cd = (Dd : Int) := ⟨cd.toNat, by omega⟩
 rw [Int.toNat_natCast, Int.toNat_natCast, Int.toNat_natCast] at hr
 have HR := Lib.hid hr
 have hDd' : Dd < 100 := by omega
 have HT2 := Lib.hid (fun w => two_any Dd w hDd')
 have HIY := Lib.hid (fun w hp => itoa_year Y w (by omega) (by omega) hp)
 obtain ⟨TA, hTA⟩ : ∃ x, S / 3600 = x := ⟨_, rfl⟩
 obtain ⟨TB, hTB⟩ : ∃ x, S / 60 % 60 = x := ⟨_, rfl⟩
 obtain ⟨TC, hTC⟩ : ∃ x, S % 60 = x := ⟨_, rfl⟩
 have HH := Lib.hid (fun w => two_any TA w (by omega))
 have HMi := Lib.hid (fun w => two_any TB w (by omega))
 have HSe := Lib.hid (fun w => two_any TC w (by omega))
 obtain ⟨K, hK⟩ : ∃ K : Nat, D % 7 = K := ⟨_, rfl⟩
 have hK7 : K < 7 := by omega
 have hKq : (D : Int) % 7 = (K : Int) := by omega
 have e1 : (S : Int) / 3600 = (TA : Int) := by omega
 have e2 : (S : Int) / 60 % 60 = (TB : Int) := by omega
 have e3 : (S : Int) % 60 = (TC : Int) := by omega
 have HTA := Lib.hid hTA
 have HTBB := Lib.hid hTB
 have HTC := Lib.hid hTC
 clear hTA hTB hTC
 rw [hK] at HR
 clear hD hS hK hmd d2 hr
 have i1 : (K : Int) * 3 ≤ (K : Int) * 3 + 3 := by omega
 have i2 : (K : Int) * 3 + 3 ≤ 21 := by omega
 have i2' : (0 : Int) ≤ (K : Int) * 3 + 3 := by omega
 have i3 : 3 * (M : Int) - 3 ≤ 3 * (M : Int) := by omega
 have i4 : 3 * (M : Int) ≤ 36 := by omega
 have i4' : (0 : Int) ≤ 3 * (M : Int) := by omega
 have i5 : 0 ≤ 3 * (M : Int) - 3 := by omega
 have i6 : (0 : Int) ≤ (K : Int) * 3 := by omega
 have i7 : (3 : Int) ≤ 3 * (M : Int) := by omega
 have hw1 : IntKind.i64.wrap ((K : Int) * 3 + 3) = (K : Int) * 3 + 3 := IntWalk.i64_in _ (by omega)
 have hw2 : IntKind.i64.wrap (3 * (M : Int)) = 3 * (M : Int) := IntWalk.i64_in _ (by omega)
 have hw3 : IntKind.i64.wrap (3 * (M : Int) - 3) = 3 * (M : Int) - 3 := IntWalk.i64_in _ (by omega)
 obtain ⟨W3, hW3⟩ : ∃ W3, (⟨#[84, 104, 117, 70, 114, 105, 83, 97, 116, 83, 117, 110, 77, 111, 110, 84, 117, 101, 87, 101, 100]⟩ : ByteArray).extract ((K : Int) * 3).toNat ((K : Int) * 3 + 3).toNat = W3 := ⟨_, rfl⟩
 have sW3 : sl W3 = Dt.wd K := by
  rw [← hW3, sl_extract, show ((K : Int) * 3).toNat = K * 3 from by omega, show ((K : Int) * 3 + 3).toNat - K * 3 = 3 from by omega]; rfl
 obtain ⟨M3, hM3⟩ : ∃ M3, (⟨#[74, 97, 110, 70, 101, 98, 77, 97, 114, 65, 112, 114, 77, 97, 121, 74, 117, 110, 74, 117, 108, 65, 117, 103, 83, 101, 112, 79, 99, 116, 78, 111, 118, 68, 101, 99]⟩ : ByteArray).extract (3 * (M : Int) - 3).toNat (3 * (M : Int)).toNat = M3 := ⟨_, rfl⟩
 have sM3 : sl M3 = Dt.mo M := by
  rw [← hM3, sl_extract, show (3 * (M : Int) - 3).toNat = 3 * M - 3 from by omega, show (3 * (M : Int)).toNat - (3 * M - 3) = 3 from by omega]; rfl
 have lW3 : W3.size = 3 := by rw [← sl_len, sW3, Dt.wd_len K hK7]
 have lM3 : M3.size = 3 := by rw [← sl_len, sM3, Dt.mo_len M (by omega)]
 obtain ⟨T2, hT2⟩ : ∃ T2, mkS (Dt.d2 Dd) = T2 := ⟨_, rfl⟩
 have sT2 : sl T2 = Dt.d2 Dd := by rw [← hT2, sl_mkS]
 have lT2 : T2.size = 2 := by rw [← sl_len, sT2]; rfl
 obtain ⟨Y4, hY4⟩ : ∃ Y4, mkS (Dt.d4 Y) = Y4 := ⟨_, rfl⟩
 have sY4 : sl Y4 = Dt.d4 Y := by rw [← hY4, sl_mkS]
 have lY4 : Y4.size = 4 := by rw [← sl_len, sY4]; rfl
 obtain ⟨HO, hHO⟩ : ∃ HO, mkS (Dt.d2 TA) = HO := ⟨_, rfl⟩
 have sHO : sl HO = Dt.d2 TA := by rw [← hHO, sl_mkS]
 have lHO : HO.size = 2 := by rw [← sl_len, sHO]; rfl
 obtain ⟨MI, hMI⟩ : ∃ MI, mkS (Dt.d2 TB) = MI := ⟨_, rfl⟩
 have sMI : sl MI = Dt.d2 TB := by rw [← hMI, sl_mkS]
 have lMI : MI.size = 2 := by rw [← sl_len, sMI]; rfl
 obtain ⟨SE, hSE⟩ : ∃ SE, mkS (Dt.d2 TC) = SE := ⟨_, rfl⟩
 have sSE : sl SE = Dt.d2 TC := by rw [← hSE, sl_mkS]
 have lSE : SE.size = 2 := by rw [← sl_len, sSE]; rfl
 rw [hT2] at HT2
 rw [hHO] at HH
 rw [hMI] at HMi
 rw [hSE] at HSe
 have HIY2 : Hid (∀ w, HasP10 w → Calls Tryz.prog 36 #[.int .i64 (Y : Int)] w fun e w' => e = .returned (.string Y4) ∧ Below w.heap.size w w') := fun w hp => by have := HIY.out w hp; rw [hY4] at this; exact this
 have zP1 : W3.size + (⟨#[44, 32]⟩ : ByteArray).size ≤ 9223372036854775807 := by rw [lW3]; have : (⟨#[44, 32]⟩ : ByteArray).size = 2 := rfl; omega
 obtain ⟨P1, hP1⟩ : ∃ P1, W3 ++ (⟨#[44, 32]⟩ : ByteArray) = P1 := ⟨_, rfl⟩
 have lP1 : P1.size = 5 := by rw [← hP1, ByteArray.size_append, lW3]; have : (⟨#[44, 32]⟩ : ByteArray).size = 2 := rfl; omega
 have zP2 : P1.size + T2.size ≤ 9223372036854775807 := by rw [lP1]; have : T2.size = 2 := lT2; omega
 obtain ⟨P2, hP2⟩ : ∃ P2, P1 ++ T2 = P2 := ⟨_, rfl⟩
 have lP2 : P2.size = 7 := by rw [← hP2, ByteArray.size_append, lP1]; have : T2.size = 2 := lT2; omega
 have zP3 : P2.size + (⟨#[32]⟩ : ByteArray).size ≤ 9223372036854775807 := by rw [lP2]; have : (⟨#[32]⟩ : ByteArray).size = 1 := rfl; omega
 obtain ⟨P3, hP3⟩ : ∃ P3, P2 ++ (⟨#[32]⟩ : ByteArray) = P3 := ⟨_, rfl⟩
 have lP3 : P3.size = 8 := by rw [← hP3, ByteArray.size_append, lP2]; have : (⟨#[32]⟩ : ByteArray).size = 1 := rfl; omega
 have zP4 : P3.size + M3.size ≤ 9223372036854775807 := by rw [lP3]; have : M3.size = 3 := lM3; omega
 obtain ⟨P4, hP4⟩ : ∃ P4, P3 ++ M3 = P4 := ⟨_, rfl⟩
 have lP4 : P4.size = 11 := by rw [← hP4, ByteArray.size_append, lP3]; have : M3.size = 3 := lM3; omega
 have zP5 : P4.size + (⟨#[32]⟩ : ByteArray).size ≤ 9223372036854775807 := by rw [lP4]; have : (⟨#[32]⟩ : ByteArray).size = 1 := rfl; omega
 obtain ⟨P5, hP5⟩ : ∃ P5, P4 ++ (⟨#[32]⟩ : ByteArray) = P5 := ⟨_, rfl⟩
 have lP5 : P5.size = 12 := by rw [← hP5, ByteArray.size_append, lP4]; have : (⟨#[32]⟩ : ByteArray).size = 1 := rfl; omega
 have zP6 : P5.size + Y4.size ≤ 9223372036854775807 := by rw [lP5]; have : Y4.size = 4 := lY4; omega
 obtain ⟨P6, hP6⟩ : ∃ P6, P5 ++ Y4 = P6 := ⟨_, rfl⟩
 have lP6 : P6.size = 16 := by rw [← hP6, ByteArray.size_append, lP5]; have : Y4.size = 4 := lY4; omega
 have zQ1 : P6.size + (⟨#[32]⟩ : ByteArray).size ≤ 9223372036854775807 := by rw [lP6]; have : (⟨#[32]⟩ : ByteArray).size = 1 := rfl; omega
 obtain ⟨Q1, hQ1⟩ : ∃ Q1, P6 ++ (⟨#[32]⟩ : ByteArray) = Q1 := ⟨_, rfl⟩
 have lQ1 : Q1.size = 17 := by rw [← hQ1, ByteArray.size_append, lP6]; have : (⟨#[32]⟩ : ByteArray).size = 1 := rfl; omega
 have zQ2 : Q1.size + HO.size ≤ 9223372036854775807 := by rw [lQ1]; have : HO.size = 2 := lHO; omega
 obtain ⟨Q2, hQ2⟩ : ∃ Q2, Q1 ++ HO = Q2 := ⟨_, rfl⟩
 have lQ2 : Q2.size = 19 := by rw [← hQ2, ByteArray.size_append, lQ1]; have : HO.size = 2 := lHO; omega
 have zQ3 : Q2.size + (⟨#[58]⟩ : ByteArray).size ≤ 9223372036854775807 := by rw [lQ2]; have : (⟨#[58]⟩ : ByteArray).size = 1 := rfl; omega
 obtain ⟨Q3, hQ3⟩ : ∃ Q3, Q2 ++ (⟨#[58]⟩ : ByteArray) = Q3 := ⟨_, rfl⟩
 have lQ3 : Q3.size = 20 := by rw [← hQ3, ByteArray.size_append, lQ2]; have : (⟨#[58]⟩ : ByteArray).size = 1 := rfl; omega
 have zQ4 : Q3.size + MI.size ≤ 9223372036854775807 := by rw [lQ3]; have : MI.size = 2 := lMI; omega
 obtain ⟨Q4, hQ4⟩ : ∃ Q4, Q3 ++ MI = Q4 := ⟨_, rfl⟩
 have lQ4 : Q4.size = 22 := by rw [← hQ4, ByteArray.size_append, lQ3]; have : MI.size = 2 := lMI; omega
 have zQ5 : Q4.size + (⟨#[58]⟩ : ByteArray).size ≤ 9223372036854775807 := by rw [lQ4]; have : (⟨#[58]⟩ : ByteArray).size = 1 := rfl; omega
 obtain ⟨Q5, hQ5⟩ : ∃ Q5, Q4 ++ (⟨#[58]⟩ : ByteArray) = Q5 := ⟨_, rfl⟩
 have lQ5 : Q5.size = 23 := by rw [← hQ5, ByteArray.size_append, lQ4]; have : (⟨#[58]⟩ : ByteArray).size = 1 := rfl; omega
 have zQ6 : Q5.size + SE.size ≤ 9223372036854775807 := by rw [lQ5]; have : SE.size = 2 := lSE; omega
 obtain ⟨Q6, hQ6⟩ : ∃ Q6, Q5 ++ SE = Q6 := ⟨_, rfl⟩
 have lQ6 : Q6.size = 25 := by rw [← hQ6, ByteArray.size_append, lQ5]; have : SE.size = 2 := lSE; omega
 have zQ7 : Q6.size + (⟨#[32, 71, 77, 84]⟩ : ByteArray).size ≤ 9223372036854775807 := by rw [lQ6]; have : (⟨#[32, 71, 77, 84]⟩ : ByteArray).size = 4 := rfl; omega
 obtain ⟨Q7, hQ7⟩ : ∃ Q7, Q6 ++ (⟨#[32, 71, 77, 84]⟩ : ByteArray) = Q7 := ⟨_, rfl⟩
 have lQ7 : Q7.size = 29 := by rw [← hQ7, ByteArray.size_append, lQ6]; have : (⟨#[32, 71, 77, 84]⟩ : ByteArray).size = 4 := rfl; omega
 have HF : Hid (Q7 = mkS (Dt.printD n)) := by
  refine sl_inj ?_
  rw [sl_mkS, HR.out, ← hQ7, ← hQ6, ← hQ5, ← hQ4, ← hQ3, ← hQ2, ← hQ1, ← hP6, ← hP5, ← hP4, ← hP3, ← hP2, ← hP1]
  simp only [sl_append, sW3, sM3, sT2, sY4, sHO, sMI, sSE]
  unfold Dt.textD
  rw [HTA.out, HTBB.out, HTC.out]
  simp only [List.append_assoc]
  rfl
 have HP := Lib.hid hp
 have HTB : Hid (∀ w : World, Calls Tryz.prog 184 #[.int .i64 (Dd : Int)] w fun e w' => e = .returned (.string T2) ∧ Below w.heap.size w w') := fun w => (HT2.out w).mono fun e w' ⟨he, hw⟩ => ⟨he, hw ▸ Below.refl _ _⟩
 clear hT2 hY4 hHO hMI hSE sW3 sM3 sT2 sY4 sHO sMI sSE
 go_enter Tryz.func144, Tryz.ntmps144
 go_wp2_with fail
 refine (HC.out _).mono ?_
 rintro e w' ⟨rfl, rfl⟩
 go_wp2_with fail
 refine wp_region_seq [(true, 0), (true, 1), (true, 2), (true, 3), (true, 4), (true, 5), (true, 9), (true, 10), (true, 11), (true, 12), (true, 13), (true, 14), (true, 17), (false, 6), (true, 7), (true, 8), (true, 15), (true, 16), (false, 18), (true, 19), (true, 20)] (fun w' => Below w.heap.size w w') (by kernel_rfl) (by kernel_rfl) (fun _ _ _ _ _ h => h) (by kernel_rfl) (by kernel_rfl) (by first | exact (Below.refl _ _).drew | exact Below.drew (by assumption)) ?_
 have bS : Below w.heap.size w _ := (by first | exact Below.drew (by assumption) | exact (Below.refl _ w).drew)
 iterate 21 (first
  | (apply seqH_skip; (focus (simp only [List.getElem?_toArray, List.getElem?_cons_succ, List.getElem?_cons_zero]; rfl)); (focus rfl); simp only [Act.put, List.setIfInBounds_toArray, List.set_cons_zero, List.set_cons_succ])
  | (apply seqH_take; (focus (simp only [List.getElem?_toArray, List.getElem?_cons_succ, List.getElem?_cons_zero]; rfl)); (focus rfl); (focus (intro w' hS; skip; first | (go_simp; rfl) | (go_simp; done))); simp only [Act.put, List.setIfInBounds_toArray, List.set_cons_zero, List.set_cons_succ])
  | (apply seqH_pass; (focus (simp only [List.getElem?_toArray, List.getElem?_cons_succ, List.getElem?_cons_zero]; rfl)); (focus rfl); (focus assumption); simp only [Act.put, List.setIfInBounds_toArray, List.set_cons_zero, List.set_cons_succ])
  | (apply seqH_eff; (focus (simp only [List.getElem?_toArray, List.getElem?_cons_succ, List.getElem?_cons_zero]; rfl)); (focus rfl); intro K hK; go_simp; (first | (go_at_call 184; (with_reducible refine (HTB.out _).mono ?_)) | (go_at_call 36; (with_reducible refine (HIY2.out _ (HP.out.below rfl (by assumption))).mono ?_))); rintro e wN ⟨rfl, bN⟩; refine hK _ _ (seq_next (by assumption) bN (fun bS' => ?_)); clear hK K))
 refine seqH_nil ?_
 go_wp2_with fail
 refine (HH.out _).mono ?_
 rintro e w' ⟨rfl, rfl⟩
 go_wp2_with fail
 refine (HMi.out _).mono ?_
 rintro e w' ⟨rfl, rfl⟩
 go_wp2_with fail
 refine (HSe.out _).mono ?_
 rintro e w' ⟨rfl, rfl⟩
 go_wp2_with fail
 go_ret2
 exact ⟨ret_si HF.out rfl, by assumption⟩
set_option maxRecDepth 20000
namespace Bd
structure HasErr (w : World) : Prop where
 p10 : HasP10 w
 syn : ∃ t p, w.cell? ⟨6, 0, none⟩ = some (.iface t p)
 ran : ∃ t p, w.cell? ⟨7, 0, none⟩ = some (.iface t p)
 lts : 6 < w.heap.size
 ltr : 7 < w.heap.size
theorem itoa_any (n : Int) (w : World) (h0 : -9223372036854775808 ≤ n) (h1 : n ≤ 9223372036854775807) (hp : HasP10 w) :
  Calls Tryz.prog 36 #[.int .i64 n] w fun e w' => e = .returned (.string (mkS (Lib.itoa n))) ∧ Below w.heap.size w w' := by
 refine (Tryz.strconv_Itoa n h0 h1 w hp.1).mono fun e w' ⟨he, k, os, hw⟩ => ⟨he, ?_⟩
 rw [hw]; exact below_grow_ _ w (Nat.le_refl _) k os
end Bd
set_option maxRecDepth 20000
open Go.RowKit Go.Shelf
namespace Ca
open Bk
structure Hp where
 rm : ByteArray
 rt : ByteArray
 rb : ByteArray
 l : List Fld
 code : Int
 rs : ByteArray
 k : List Fld
 bd : ByteArray
 asked : Int
 came : Int
 mark : Int
structure En where
 n : ByteArray
 x : Hp
 key : ByteArray
def normE (t : ByteArray) : Int := match Tar.normalF (sl t) with | .error c => c | .ok _ => 0
def normK (t : ByteArray) : ByteArray := match Tar.normalF (sl t) with | .error _ => ByteArray.empty | .ok k => mkS k
def getB : ByteArray := ⟨#[71, 69, 84]⟩
def headB : ByteArray := ⟨#[72, 69, 65, 68]⟩
def matB (k l m : List Fld) : Bool := (Vy.matF (Vy.txt k Vy.nVary) l m).1
def fitB (key : ByteArray) (m : List Fld) (e : En) : Bool := decide (e.key = key) && matB e.x.k e.x.l m
def sizeE (e : En) : Int := (e.x.bd.size : Int) + 100
def kvE (e : En) : Kv := (e.n, sizeE e)
def usedE (xs : List En) : Int := (xs.map sizeE).sum
def leftE (room s : Int) : List En → List En
 | [] => []
 | e :: r => if usedE (e :: r) + s ≤ room then e :: r else leftE room s r
def chunksE (xs : List En) : List ByteArray := xs.flatMap fun e => cutB e.x.bd
def Coll (cs ds : List ByteArray) : Prop := ∃ t ∈ ds, ∃ u, (u ∈ ds ∨ u ∈ cs) ∧ hxn u = hxn t ∧ ¬ u = t
def nameE (i : Nat) : ByteArray := mkS (Lib.itoa (i : Int))
structure KeepA where
 is : Bool
 e : Int
 xs : List En
 made : Nat
def clearE (key : ByteArray) (m : List Fld) (xs : List En) : List En := xs.filter fun e => !fitB key m e
def cut20 (xs : List En) : List En := xs.drop (xs.length - 19)
open Classical in
noncomputable def keepM (room : Int) (xs : List En) (made : Nat) (h : Hp) : KeepA :=
 if normE h.rt ≠ 0 then ⟨false, normE h.rt, xs, made⟩
 else if 5000 < h.bd.size then ⟨false, 2, xs, made⟩
 else if Dp.mayF h.rm h.l h.code h.k = false then ⟨false, 0, xs, made⟩
 else if room < (h.bd.size : Int) + 100 then ⟨false, 0, clearE (normK h.rt) h.l xs, made⟩
 else if Coll (chunksE (clearE (normK h.rt) h.l xs)) (cutB h.bd) then ⟨false, 9, clearE (normK h.rt) h.l xs, made⟩
 else ⟨true, 0, leftE room ((h.bd.size : Int) + 100) (cut20 (clearE (normK h.rt) h.l xs)) ++ [⟨nameE (made + 1), h, normK h.rt⟩], made + 1⟩
def bestE (xs : List En) (m t : ByteArray) (l : List Fld) : Option En :=
 if (m ≠ getB ∧ m ≠ headB) ∨ normE t ≠ 0 then none
 else best (fun e : En => e.x.came) (xs.filter (fitB (normK t) l))
def touchE (xs : List En) (e : En) : List En := (xs.filter fun y => !decide (y.n = e.n)) ++ [e]
def renewH (x : Hp) (f : List Fld) (asked came : Int) : Hp := { x with k := Pol.freshF x.k f, asked := asked, came := came }
def findX (xs : List En) (m t : ByteArray) (l : List Fld) : List En :=
 match bestE xs m t l with | none => xs | some e => touchE xs e
def renewX (xs : List En) (m t : ByteArray) (l f : List Fld) (asked came : Int) : List En :=
 match bestE xs m t l with | none => xs | some e => touchE xs { e with x := renewH e.x f asked came }
end Ca
end Go.Proofs.YtgnblkmpoigejaaGreatDoor
namespace Go.Proofs.YtgnblkmpoigejaaGreatDoor
set_option maxRecDepth 20000
open Go.RowKit
namespace Dt
def numI (l : List UInt8) : Int := match num l 0 with | some k => (k : Int) | none => -1
theorem num_bound : ∀ (l : List UInt8) (n k : Nat), num l n = some k → k + 1 ≤ (n + 1) * 10 ^ l.length
 | [], n, k, h => by unfold num at h; injection h with h; subst h; simp
 | c :: l, n, k, h => by
  unfold num at h
  split at h
  ·rename_i hc
   have ih := num_bound l _ k h
   have h57 : c.toNat ≤ 57 := hc.2
   rw [List.length_cons, Nat.pow_succ]
   refine Nat.le_trans ih ?_
   have : 10 * n + (c.toNat - 48) + 1 ≤ (n + 1) * 10 := by omega
   calc (10 * n + (c.toNat - 48) + 1) * 10 ^ l.length ≤ ((n + 1) * 10) * 10 ^ l.length := Nat.mul_le_mul_right _ this
    _ = (n + 1) * (10 ^ l.length * 10) := by rw [Nat.mul_assoc, Nat.mul_comm 10]
  ·cases h
theorem numI_bound (l : List UInt8) (h : l.length ≤ 4) : -1 ≤ numI l ∧ numI l ≤ 9999 := by
 unfold numI
 cases hn : num l 0 with
 | none => simp
 | some k =>
  have := num_bound l 0 k hn
  have hp : 10 ^ l.length ≤ 10 ^ 4 := Nat.pow_le_pow_right (by omega) h
  simp only
  omega
theorem numI_bound2 (l : List UInt8) (h : l.length ≤ 2) : -1 ≤ numI l ∧ numI l ≤ 99 := by
 unfold numI
 cases hn : num l 0 with
 | none => simp
 | some k =>
  have := num_bound l 0 k hn
  have hp : 10 ^ l.length ≤ 10 ^ 2 := Nat.pow_le_pow_right (by omega) h
  simp only
  omega
end Dt
set_option maxHeartbeats 800000 in
theorem number_any (s : ByteArray) (w : World) (hs : s.size ≤ 4) :
  Calls Tryz.prog 172 #[.string s] w fun e w' => e = .returned (.int .i64 (Dt.numI (sl s))) ∧ w = w' := by
 go_enter Tryz.func172, Tryz.ntmps172
 go_wp2_with fail
 go_loop [3, 7] (fun n i => ∃ (j k : Nat), j ≤ s.size ∧ i = .int .i64 j ∧ n = .int .i64 k ∧ k < 10 ^ j ∧ Dt.num (sl s) 0 = Dt.num ((sl s).drop j) k) (fun _ i => s.size - (intOf i).toNat)
 case atStart => exact ⟨0, 0, by omega, rfl, rfl, by simp, rfl⟩
 case round =>
  obtain ⟨j, k, hj, rfl, rfl, hk, hn⟩ := hrel
  have HN := Lib.hid hn
  have hp : 10 ^ j ≤ 10 ^ 4 := Nat.pow_le_pow_right (by omega) (by omega)
  have hk4 : k < 10000 := by omega
  clear hn
  by_cases hlt : j < s.size
  ·have hc := sl_getElem? s j hlt
   have hd : (sl s).drop j = s[j] :: (sl s).drop (j + 1) := by
    rw [List.drop_eq_getElem_cons (by rw [sl_len]; exact hlt), sl_getElem s j hlt]
   have HD := Lib.hid hd
   have hj1 : (j : Int) < (s.size : Int) := by omega
   clear hc hd
   obtain ⟨c, hc⟩ : ∃ c, s[j] = c := ⟨_, rfl⟩
   rw [hc] at HD
   have hcl := c.toNat_lt
   by_cases hdig : 48 ≤ c ∧ c ≤ 57
   ·have h48 : 48 ≤ c.toNat := hdig.1
    have h57 : c.toNat ≤ 57 := hdig.2
    have HS : Hid (Dt.num (sl s) 0 = Dt.num ((sl s).drop (j + 1)) (10 * k + (c.toNat - 48))) := by
     show _ = _
     rw [HN.out, HD.out]
     show (if _ then _ else _) = _
     rw [if_pos hdig]
    have hpk : 10 * k + (c.toNat - 48) < 10 ^ (j + 1) := by rw [Nat.pow_succ]; omega
    have HPK := Lib.hid hpk
    have d1 : decide ((c.toNat : Int) < 48) = false := decide_eq_false (by omega)
    have d2 : decide ((57 : Int) < (c.toNat : Int)) = false := decide_eq_false (by omega)
    have d1' : decide (c.toNat < 48) = false := decide_eq_false (by omega)
    have d2' : decide (57 < c.toNat) = false := decide_eq_false (by omega)
    clear hdig hpk hp hk
    go_wp2_with fail
    go_round
    case rel => exact ⟨j + 1, 10 * k + (c.toNat - 48), by omega, by go_num, by go_num, HPK.out, HS.out⟩
    case measure => simp [intOf]; omega
   ·have HS : Hid (Dt.numI (sl s) = -1) := by
     show _ = _
     unfold Dt.numI
     rw [HN.out, HD.out]
     have : Dt.num (c :: (sl s).drop (j + 1)) k = none := by
      show (if _ then _ else _) = _
      rw [if_neg hdig]
     rw [this]
    have hor : c.toNat < 48 ∨ 57 < c.toNat := by
     rcases Nat.lt_or_ge c.toNat 48 with h | h
     ·exact .inl h
     ·rcases Nat.lt_or_ge 57 c.toNat with h2 | h2
      ·exact .inr h2
      ·exact absurd ⟨h, h2⟩ hdig
    clear hdig hp hk
    rcases hor with h | h
    ·have d1 : decide (c.toNat < 48) = true := decide_eq_true h
     go_wp2_with fail
     go_ret
     exact ⟨ret_int HS.out.symm, rfl⟩
    ·have d1 : decide (c.toNat < 48) = false := decide_eq_false (by omega)
     have d2 : decide (57 < c.toNat) = true := decide_eq_true h
     go_wp2_with fail
     go_ret
     exact ⟨ret_int HS.out.symm, rfl⟩
  ·have HS : Hid (Dt.numI (sl s) = (k : Int)) := by
    show _ = _
    unfold Dt.numI
    rw [HN.out, List.drop_of_length_le (by rw [sl_len]; omega)]
    rfl
   clear hp hk
   go_wp2_with fail
   go_ret
   exact ⟨ret_int HS.out.symm, rfl⟩
set_option maxRecDepth 20000
namespace Dt
theorem dg_ok (n : Nat) (h : n < 10) : 48 ≤ dg n ∧ dg n ≤ 57 ∧ (dg n).toNat - 48 = n := by
 have h0 : ∀ n : Fin 10, 48 ≤ dg n.val ∧ dg n.val ≤ 57 ∧ (dg n.val).toNat - 48 = n.val := by decide
 exact h0 ⟨n, h⟩
theorem num_cons (n : Nat) (h : n < 10) (l : List UInt8) (k : Nat) : num (dg n :: l) k = num l (10 * k + n) := by
 obtain ⟨h1, h2, h3⟩ := dg_ok n h
 show (if _ then _ else _) = _
 rw [if_pos ⟨h1, h2⟩, h3]
theorem numI_d2 (n : Nat) (h : n < 100) : numI (d2 n) = n := by
 unfold numI d2
 rw [num_cons _ (by omega), num_cons _ (by omega)]
 show ((10 * (10 * 0 + n / 10) + n % 10 : Nat) : Int) = n
 omega
theorem numI_d4 (n : Nat) (h : n < 10000) : numI (d4 n) = n := by
 unfold numI d4
 rw [num_cons _ (by omega), num_cons _ (by omega), num_cons _ (by omega), num_cons _ (by omega)]
 show ((10 * (10 * (10 * (10 * 0 + n / 1000) + n / 100 % 10) + n / 10 % 10) + n % 10 : Nat) : Int) = n
 omega
theorem index_mo (m : Nat) (h : 1 ≤ m ∧ m ≤ 12) : Lib.index months12 (mo m) = ((3 * m - 3 : Nat) : Int) := by
 have h0 : ∀ m : Fin 13, 1 ≤ m.val → Lib.index months12 (mo m.val) = ((3 * m.val - 3 : Nat) : Int) := by decide +kernel
 exact h0 ⟨m, by omega⟩ h.1
theorem textD_at (k d m y s : Nat) (hk : k < 7) (hm : 1 ≤ m ∧ m ≤ 12) :
  ((textD k d m y s).drop 5).take 2 = d2 d ∧ ((textD k d m y s).drop 8).take 3 = mo m ∧ ((textD k d m y s).drop 12).take 4 = d4 y ∧
  ((textD k d m y s).drop 17).take 2 = d2 (s / 3600) ∧ ((textD k d m y s).drop 20).take 2 = d2 (s / 60 % 60) ∧ ((textD k d m y s).drop 23).take 2 = d2 (s % 60) := by
 obtain ⟨a0, a1, a2, ha⟩ : ∃ a0 a1 a2, wd k = [a0, a1, a2] := by
  have := wd_len k hk
  match hw : wd k, this with
  | [a, b, c], _ => exact ⟨a, b, c, rfl⟩
 obtain ⟨b0, b1, b2, hb⟩ : ∃ b0 b1 b2, mo m = [b0, b1, b2] := by
  have := mo_len m hm
  match hw : mo m, this with
  | [a, b, c], _ => exact ⟨a, b, c, rfl⟩
 unfold textD
 rw [ha, hb]
 unfold d2 d4
 exact ⟨rfl, rfl, rfl, rfl, rfl, rfl⟩
end Dt
def HasMaxL (w : World) : Prop := (∃ m, w.cell? ⟨0, 0, none⟩ = some (.int .i64 m)) ∧ 0 < w.heap.size
theorem index_months (x : ByteArray) (w : World) (hm : HasMaxL w) :
  Calls Tryz.prog 170 #[.string ⟨#[74, 97, 110, 70, 101, 98, 77, 97, 114, 65, 112, 114, 77, 97, 121, 74, 117, 110, 74, 117, 108, 65, 117, 103, 83, 101, 112, 79, 99, 116, 78, 111, 118, 68, 101, 99]⟩, .string x] w fun e w' => e = .returned (.int .i64 (Lib.index Dt.months12 (sl x))) ∧ w = w' := by
 obtain ⟨⟨m, hm⟩, -⟩ := hm
 exact (Tryz.strings_Index _ x m w (by decide) hm).mono fun e w' ⟨he, hw⟩ => ⟨he, hw.symm⟩
def ParseEnd (s : ByteArray) (mi H Mi Se k c : Int) (e : Ending) : Prop :=
 ((0 ≤ mi ∧ mi % 3 = 0 ∧ c = 0 ∧ 0 ≤ H ∧ 0 ≤ Mi ∧ 0 ≤ Se) ∧ ∃ n : Nat, (n : Int) = k * 86400 + H * 3600 + Mi * 60 + Se ∧ n ≤ 253402300799 ∧ mkS (Dt.printD n) = s ∧ e = .returned (.tuple #[.int .i64 n, .int .i64 0])) ∨
 (¬ ((0 ≤ mi ∧ mi % 3 = 0 ∧ c = 0 ∧ 0 ≤ H ∧ 0 ≤ Mi ∧ 0 ≤ Se) ∧ ∃ n : Nat, (n : Int) = k * 86400 + H * 3600 + Mi * 60 + Se ∧ n ≤ 253402300799 ∧ mkS (Dt.printD n) = s) ∧ e = .returned (.tuple #[.int .i64 0, .int .i64 3]))
set_option maxHeartbeats 3200000 in
theorem parse_core (s : ByteArray) (w : World) (hs : s.size = 29) (hp : HasP10 w) (a : Nat) (ha : a ≤ 36) (Y D H Mi Se k c : Int) (_ : -1 ≤ Y ∧ Y ≤ 9999) (_ : -1 ≤ D ∧ D ≤ 99) (hH : -1 ≤ H ∧ H ≤ 99) (hMi : -1 ≤ Mi ∧ Mi ≤ 99) (hSe : -1 ≤ Se ∧ Se ≤ 99) (hk : 0 ≤ k ∧ k ≤ 2932896) (hc : c = 0 ∨ c = 1)
  (HI : ∀ w', Below w.heap.size w w' → Calls Tryz.prog 170 #[.string ⟨#[74, 97, 110, 70, 101, 98, 77, 97, 114, 65, 112, 114, 77, 97, 121, 74, 117, 110, 74, 117, 108, 65, 117, 103, 83, 101, 112, 79, 99, 116, 78, 111, 118, 68, 101, 99]⟩, .string (s.extract 8 11)] w' fun e w'' => e = .returned (.int .i64 (a : Int)) ∧ w' = w'')
  (HA : ∀ w', Calls Tryz.prog 172 #[.string (s.extract 12 16)] w' fun e w'' => e = .returned (.int .i64 Y) ∧ w' = w'')
  (HB : ∀ w', Calls Tryz.prog 172 #[.string (s.extract 5 7)] w' fun e w'' => e = .returned (.int .i64 D) ∧ w' = w'')
  (HD : ∀ w', Calls Tryz.prog 171 #[.int .i64 Y, .int .i64 ((a : Int) / 3 + 1), .int .i64 D] w' fun e w'' => e = .returned (.tuple #[.int .i64 k, .int .i64 c]) ∧ w' = w'')
  (HH : ∀ w', Calls Tryz.prog 172 #[.string (s.extract 17 19)] w' fun e w'' => e = .returned (.int .i64 H) ∧ w' = w'')
  (HM : ∀ w', Calls Tryz.prog 172 #[.string (s.extract 20 22)] w' fun e w'' => e = .returned (.int .i64 Mi) ∧ w' = w'')
  (HS : ∀ w', Calls Tryz.prog 172 #[.string (s.extract 23 25)] w' fun e w'' => e = .returned (.int .i64 Se) ∧ w' = w'') :
  Calls Tryz.prog 126 #[.string s] w fun e w' => ParseEnd s a H Mi Se k c e ∧ Below w.heap.size w w' := by
 obtain ⟨sM, hsM⟩ : ∃ x, s.extract 8 11 = x := ⟨_, rfl⟩
 obtain ⟨sA, hsA⟩ : ∃ x, s.extract 12 16 = x := ⟨_, rfl⟩
 obtain ⟨sB, hsB⟩ : ∃ x, s.extract 5 7 = x := ⟨_, rfl⟩
 obtain ⟨sH, hsH⟩ : ∃ x, s.extract 17 19 = x := ⟨_, rfl⟩
 obtain ⟨sI, hsI⟩ : ∃ x, s.extract 20 22 = x := ⟨_, rfl⟩
 obtain ⟨sS, hsS⟩ : ∃ x, s.extract 23 25 = x := ⟨_, rfl⟩
 rw [hsM] at HI
 rw [hsA] at HA
 rw [hsB] at HB
 rw [hsH] at HH
 rw [hsI] at HM
 rw [hsS] at HS
 have hb : ∀ {P : Ending → Prop} {f : FuncId} {vs : Array Value} {w : World}, Calls Tryz.prog f vs w (fun e w'' => P e ∧ w = w'') → Calls Tryz.prog f vs w (fun e w'' => P e ∧ Below w.heap.size w w'') := fun h => h.mono fun e w'' ⟨h1, h2⟩ => ⟨h1, h2 ▸ Below.refl _ _⟩
 have HA' := Lib.hid (fun w' => hb (HA w'))
 have HB' := Lib.hid (fun w' => hb (HB w'))
 have HD' := Lib.hid (fun w' => hb (HD w'))
 have HH' := Lib.hid (fun w' => hb (HH w'))
 have HM' := Lib.hid (fun w' => hb (HM w'))
 have HS' := Lib.hid (fun w' => hb (HS w'))
 have HI' := Lib.hid HI
 have HP := Lib.hid hp
 clear hb HA HB HD HH HM HS HI hp
 obtain ⟨a3, ha3⟩ : ∃ a3 : Nat, (a : Int) / 3 = (a3 : Int) := ⟨a / 3, rfl⟩
 have ha3' : a3 ≤ 12 := by omega
 rw [ha3] at HD'
 have hw0 : IntKind.i64.wrap (a3 : Int) = (a3 : Int) := IntWalk.i64_in _ (by omega)
 have hw1 : IntKind.i64.wrap ((a3 : Int) + 1) = (a3 : Int) + 1 := IntWalk.i64_in _ (by omega)
 go_enter Tryz.func126, Tryz.ntmps126
 go_wp2_with fail
 refine (HI'.out _ (Below.refl _ _)).mono ?_
 rintro e w' ⟨rfl, rfl⟩
 go_wp2_with fail
 refine wp_region_seq [(true, 0), (true, 1), (true, 3), (true, 4), (true, 5), (true, 6), (true, 7), (false, 2), (false, 8), (false, 9), (true, 10), (true, 11), (true, 12), (true, 13), (true, 14)] (fun w' => Below w.heap.size w w') (by kernel_rfl) (by kernel_rfl) (fun _ _ _ _ _ h => h) (by kernel_rfl) (by kernel_rfl) (by first | exact (Below.refl _ _).drew | exact Below.drew (by assumption)) ?_
 have bS : Below w.heap.size w _ := (by first | exact Below.drew (by assumption) | exact (Below.refl _ w).drew)
 iterate 15 (first
  | (apply seqH_skip; (focus (simp only [List.getElem?_toArray, List.getElem?_cons_succ, List.getElem?_cons_zero]; rfl)); (focus rfl); simp only [Act.put, List.setIfInBounds_toArray, List.set_cons_zero, List.set_cons_succ])
  | (apply seqH_take; (focus (simp only [List.getElem?_toArray, List.getElem?_cons_succ, List.getElem?_cons_zero]; rfl)); (focus rfl); (focus (intro w' hS; skip; first | (go_simp; rfl) | (go_simp; done))); simp only [Act.put, List.setIfInBounds_toArray, List.set_cons_zero, List.set_cons_succ])
  | (apply seqH_pass; (focus (simp only [List.getElem?_toArray, List.getElem?_cons_succ, List.getElem?_cons_zero]; rfl)); (focus rfl); (focus assumption); simp only [Act.put, List.setIfInBounds_toArray, List.set_cons_zero, List.set_cons_succ])
  | (apply seqH_eff; (focus (simp only [List.getElem?_toArray, List.getElem?_cons_succ, List.getElem?_cons_zero]; rfl)); (focus rfl); intro K hK; go_simp; (first | (go_at_call 172; (first | (with_reducible refine (HA'.out _).mono ?_) | (with_reducible refine (HB'.out _).mono ?_))) | (go_at_call 171; (with_reducible refine (HD'.out _).mono ?_))); rintro e wN ⟨rfl, bN⟩; refine hK _ _ (seq_next (by assumption) bN (fun bS' => ?_)); clear hK K))
 refine seqH_nil ?_
 clear bN bS
 go_wp2_with fail
 refine wp_region_seq [(true, 0), (true, 1), (true, 3), (true, 4), (true, 6), (true, 7), (false, 2), (false, 5), (false, 8), (true, 9), (true, 10), (true, 11)] (fun w' => Below w.heap.size w w') (by kernel_rfl) (by kernel_rfl) (fun _ _ _ _ _ h => h) (by kernel_rfl) (by kernel_rfl) (by first | exact (Below.refl _ _).drew | exact Below.drew (by assumption)) ?_
 have bS : Below w.heap.size w _ := (by first | exact Below.drew (by assumption) | exact (Below.refl _ w).drew)
 iterate 12 (first
  | (apply seqH_skip; (focus (simp only [List.getElem?_toArray, List.getElem?_cons_succ, List.getElem?_cons_zero]; rfl)); (focus rfl); simp only [Act.put, List.setIfInBounds_toArray, List.set_cons_zero, List.set_cons_succ])
  | (apply seqH_take; (focus (simp only [List.getElem?_toArray, List.getElem?_cons_succ, List.getElem?_cons_zero]; rfl)); (focus rfl); (focus (intro w' hS; skip; first | (go_simp; rfl) | (go_simp; done))); simp only [Act.put, List.setIfInBounds_toArray, List.set_cons_zero, List.set_cons_succ])
  | (apply seqH_pass; (focus (simp only [List.getElem?_toArray, List.getElem?_cons_succ, List.getElem?_cons_zero]; rfl)); (focus rfl); (focus assumption); simp only [Act.put, List.setIfInBounds_toArray, List.set_cons_zero, List.set_cons_succ])
  | (apply seqH_eff; (focus (simp only [List.getElem?_toArray, List.getElem?_cons_succ, List.getElem?_cons_zero]; rfl)); (focus rfl); intro K hK; go_simp; (go_at_call 172; (first | (with_reducible refine (HH'.out _).mono ?_) | (with_reducible refine (HM'.out _).mono ?_) | (with_reducible refine (HS'.out _).mono ?_))); rintro e wN ⟨rfl, bN⟩; refine hK _ _ (seq_next (by assumption) bN (fun bS' => ?_)); clear hK K))
 refine seqH_nil ?_
 clear bN bS HA' HB' HD' HH' HM' HS' HI'
 have hmod : ((a : Int) % 3 ≠ 0) ↔ ¬ ((a : Int) % 3 = 0) := Iff.rfl
 by_cases hg : (a : Int) % 3 = 0 ∧ c = 0 ∧ 0 ≤ H ∧ 0 ≤ Mi ∧ 0 ≤ Se
 ·obtain ⟨g1, g2, g3, g4, g5⟩ := hg
  obtain ⟨kn, rfl⟩ : ∃ x : Nat, k = (x : Int) := ⟨k.toNat, by omega⟩
  obtain ⟨Hn, rfl⟩ : ∃ x : Nat, H = (x : Int) := ⟨H.toNat, by omega⟩
  obtain ⟨In, rfl⟩ : ∃ x : Nat, Mi = (x : Int) := ⟨Mi.toNat, by omega⟩
  obtain ⟨Sn, rfl⟩ : ∃ x : Nat, Se = (x : Int) := ⟨Se.toNat, by omega⟩
  subst g2
  obtain ⟨nn, hnn⟩ : ∃ x : Nat, kn * 86400 + Hn * 3600 + In * 60 + Sn = x := ⟨_, rfl⟩
  have hni : (kn : Int) * 86400 + (Hn : Int) * 3600 + (In : Int) * 60 + (Sn : Int) = (nn : Int) := by omega
  have HNI := Lib.hid hni
  clear hnn
  have hc0 : Hid (∀ n : Nat, (n : Int) = (kn : Int) * 86400 + (Hn : Int) * 3600 + (In : Int) * 60 + (Sn : Int) → n = nn) := fun n hn => by rw [hni] at hn; omega
  go_wp2_with fail
  have hsn : ∀ x : ByteArray, (!(x.toList == s.toList)) = !decide (x = s) := fun x => by
   rw [ba_toList, ba_toList]
   congr 1
   rw [Bool.eq_iff_iff]
   simp only [beq_iff_eq, decide_eq_true_eq]
   exact ⟨fun h => sl_inj h, fun h => by rw [h]⟩
  by_cases hmax : nn ≤ 253402300799
  ·refine (datePrint_ok nn _ hmax (HP.out.below rfl (by assumption))).mono ?_
   rintro e w5 ⟨rfl, b5⟩
   have hb5 : Below w.heap.size w w5 := Below.trans (by assumption) (b5.mono (Below.size (by assumption)))
   have hx := hsn (mkS (Dt.printD nn))
   by_cases he : mkS (Dt.printD nn) = s
   ·rw [decide_eq_true he, Bool.not_true] at hx
    have HE := Lib.hid he
    generalize mkS (Dt.printD nn) = X at hx ⊢
    clear he hsn
    go_wp2_with fail
    go_ret2
    exact ⟨.inl ⟨⟨by omega, g1, rfl, g3, g4, g5⟩, nn, HNI.out.symm, hmax, HE.out, rfl⟩, hb5⟩
   ·rw [decide_eq_false he, Bool.not_false] at hx
    have HE := Lib.hid he
    generalize hX : mkS (Dt.printD nn) = X at hx ⊢
    clear he hsn hX
    go_wp2_with fail
    go_ret2
    exact ⟨.inr ⟨fun ⟨_, n, h1, h2, h3⟩ => by obtain rfl := hc0.out n h1; exact HE.out h3, rfl⟩, hb5⟩
  ·have he : ByteArray.empty ≠ s := fun h => by rw [← h] at hs; cases hs
   have hno := fun w => datePrint_no (nn : Int) w (.inr (by omega))
   generalize ByteArray.empty = X at he hno
   refine (hno _).mono ?_
   rintro e w5 ⟨rfl, rfl⟩
   have hx := hsn X
   rw [decide_eq_false he, Bool.not_false] at hx
   clear he hsn hno
   go_wp2_with fail
   go_ret2
   exact ⟨.inr ⟨fun ⟨_, n, h1, h2, h3⟩ => by obtain rfl := hc0.out n h1; exact hmax h2, rfl⟩, by assumption⟩
 ·have HG := Lib.hid hg
  clear hmod
  go_wp2
  all_goals first
   | (go_ret2; exact ⟨.inr ⟨fun ⟨⟨_, h1, h2, h3, h4, h5⟩, _⟩ => HG.out ⟨h1, (by first | exact h2 | assumption), h3, h4, h5⟩, rfl⟩, by assumption⟩)
   | (exfalso; apply hg; refine ⟨?_, ?_, ?_, ?_, ?_⟩ <;> first | assumption | omega)
theorem mkS_ext (l : List UInt8) (i j : Nat) : (mkS l).extract i j = mkS ((l.drop i).take (j - i)) := sl_inj (by rw [sl_extract, sl_mkS, sl_mkS])
theorem index_bound (l sub : List UInt8) : -1 ≤ Lib.index l sub ∧ Lib.index l sub ≤ (l.length : Int) := by
 refine ⟨Lib.index_ge l sub, ?_⟩
 induction l with
 | nil => unfold Lib.index; split <;> simp
 | cons b l ih =>
  unfold Lib.index
  split
  ·simp only [List.length_cons]; omega
  ·split
   ·simp only [List.length_cons]; omega
   ·simp only [List.length_cons]; omega
def DateAns (s : ByteArray) (e : Ending) : Prop :=
 (∃ n : Nat, n ≤ 253402300799 ∧ s = mkS (Dt.printD n) ∧ e = .returned (.tuple #[.int .i64 n, .int .i64 0])) ∨
 ((∀ n : Nat, n ≤ 253402300799 → s ≠ mkS (Dt.printD n)) ∧ e = .returned (.tuple #[.int .i64 0, .int .i64 3]))
end Go.Proofs.YtgnblkmpoigejaaGreatDoor
