import Derived.Test.YtgjfhgcjiglfkaaGreatDoorD0
import Derived.Lib.Join
import Derived.Test.YtgjfhgcjiglfkaaGreatDoorChecked
import Derived.Handy
import Derived.Lib.Hide
import Derived.WalkLawsBesides
import Derived.Lib.ItoaNum
import Derived.OrdersHeld
import Derived.Deep.RegionWith
import Derived.Below
import Derived.WalkSmall
import Derived.IntWalk
set_option linter.unusedVariables false
set_option linter.unusedSimpArgs false
namespace Go.Proofs.YtgjfhgcjiglfkaaGreatDoor
open Go.RowKit
def joinL (xs : List ByteArray) (sep : ByteArray) : List UInt8 := Lib.join (xs.map sl) (sl sep)
def joinS (xs : List ByteArray) (sep : ByteArray) : ByteArray := mkS (joinL xs sep)
theorem join_len : ∀ (xs : List (List UInt8)) (sep : List UInt8), (Lib.join xs sep).length ≤ (xs.map (fun x => x.length + sep.length)).sum
  | [], sep => by simp [Lib.join_nil]
  | x :: xs, sep => by
    have key : ∀ r : List (List UInt8), (Lib.joinTail sep r).length = (r.map (fun x => x.length + sep.length)).sum := by
      intro r
      induction r with
      | nil => rfl
      | cons y ys ih => simp only [Lib.joinTail, List.map_cons, List.flatten_cons, List.length_append, List.sum_cons] at ih ⊢; rw [ih]; omega
    rw [Lib.join_cons, List.length_append, key, List.map_cons, List.sum_cons]
    omega
theorem joinL_len (xs : List ByteArray) (sep : ByteArray) : (joinL xs sep).length ≤ (xs.map (fun x => x.size + sep.size)).sum := by
  refine Nat.le_trans (join_len _ _) (Nat.le_of_eq ?_)
  rw [List.map_map]
  exact congrArg List.sum (List.map_congr_left (fun x _ => by simp only [Function.comp, sl_len]))
theorem join_any (v : Value) (xs : List ByteArray) (sep : ByteArray) (w : World) (h : SlR w es v xs) (hx : xs.length ≤ 140737488351232) (hlen : (joinL xs sep).length ≤ 140737488351232) :
    Calls Tryz.prog 37 #[v, .string sep] w fun e w' => e = .returned (.string (joinS xs sep)) ∧ Below w.heap.size w w' := by
  by_cases hn : 0 < xs.length
  · obtain ⟨b, o, c, rfl, hc, hb, hcell⟩ := h.texts hn
    refine (Tryz.strings_Join b o c xs sep w (fun j x hj => ?_) hb (by omega) hc (by unfold joinL at hlen; exact Nat.le_trans hlen (by decide))).mono ?_
    · obtain ⟨hj1, rfl⟩ := List.getElem?_eq_some_iff.1 hj
      exact hcell j hj1
    · rintro e w' ⟨rfl, hb'⟩
      exact ⟨rfl, hb'⟩
  · have : xs = [] := List.eq_nil_of_length_eq_zero (by omega)
    subst this
    obtain ⟨A, c, rfl, hc, -⟩ := h
    refine (Tryz.strings_Join_none A c sep w).mono ?_
    rintro e w' ⟨rfl, rfl⟩
    exact ⟨rfl, Below.refl _ _⟩
end Go.Proofs.YtgjfhgcjiglfkaaGreatDoor
namespace Go.Proofs.YtgjfhgcjiglfkaaGreatDoor.Cal
def leapB (y : Int) : Bool := y % 4 == 0 && (y % 100 != 0 || y % 400 == 0)
def mdays (y m : Int) : Int := if m = 4 ∨ m = 6 ∨ m = 9 ∨ m = 11 then 30 else if m = 2 then (if leapB y = true then 29 else 28) else 31
def vld (y m d : Int) : Bool := decide (1970 ≤ y ∧ y ≤ 9999 ∧ 1 ≤ m ∧ m ≤ 12 ∧ 1 ≤ d ∧ d ≤ mdays y m)
def yy (y m : Int) : Int := if m < 3 then y - 1 else y
def mm (m : Int) : Int := if m < 3 then m + 9 else m - 3
def num (y m d : Int) : Int := yy y m * 365 + yy y m / 4 - yy y m / 100 + yy y m / 400 + (153 * mm m + 2) / 5 + d - 1 - 719468
theorem leap_iff (y : Int) : leapB y = true ↔ (y % 4 = 0 ∧ (y % 100 ≠ 0 ∨ y % 400 = 0)) := by
  simp [leapB, bne_iff_ne]
def ys (y : Int) : Int := (y - 1) * 365 + (y - 1) / 4 - (y - 1) / 100 + (y - 1) / 400 - 719162
def cum (y m : Int) : Int := (153 * (if m < 3 then m + 9 else m - 3) + 2) / 5 - 306 + (if m < 3 then 0 else if leapB y = true then 366 else 365)
theorem num_eq (y m d : Int) : num y m d = ys y + cum y m + d - 1 := by
  have hl := leap_iff y
  unfold num ys cum yy mm
  by_cases h : leapB y = true
  · have := hl.1 h
    by_cases hm : m < 3 <;> simp only [h, hm, if_true, if_false] <;> omega
  · have : ¬ (y % 4 = 0 ∧ (y % 100 ≠ 0 ∨ y % 400 = 0)) := fun x => h (hl.2 x)
    by_cases hm : m < 3 <;> simp only [h, hm, if_true, if_false, Bool.false_eq_true] <;> omega
theorem ys_succ (y : Int) : ys (y + 1) = ys y + (if leapB y = true then 366 else 365) := by
  have hl := leap_iff y
  unfold ys
  by_cases h : leapB y = true
  · have := hl.1 h
    simp only [h, if_true]; omega
  · have : ¬ (y % 4 = 0 ∧ (y % 100 ≠ 0 ∨ y % 400 = 0)) := fun x => h (hl.2 x)
    simp only [h, if_false, Bool.false_eq_true]; omega
theorem ys_mono (y z : Int) (h : y ≤ z) : ys y ≤ ys z := by unfold ys; omega
theorem m_cases {m : Int} (h1 : 1 ≤ m) (h2 : m ≤ 12) : m = 1 ∨ m = 2 ∨ m = 3 ∨ m = 4 ∨ m = 5 ∨ m = 6 ∨ m = 7 ∨ m = 8 ∨ m = 9 ∨ m = 10 ∨ m = 11 ∨ m = 12 := by omega
theorem cum_succ (y m : Int) (h1 : 1 ≤ m) (h2 : m ≤ 11) : cum y (m + 1) = cum y m + mdays y m := by
  unfold cum mdays
  rcases m_cases h1 (by omega) with rfl | rfl | rfl | rfl | rfl | rfl | rfl | rfl | rfl | rfl | rfl | rfl <;> by_cases h : leapB y = true <;> simp [h] at h2 ⊢
theorem cum_last (y : Int) : cum y 12 + mdays y 12 = (if leapB y = true then 366 else 365) := by
  unfold cum mdays
  by_cases h : leapB y = true <;> simp [h]
theorem cum_one (y : Int) : cum y 1 = 0 := by unfold cum; simp
theorem mdays_bd (y m : Int) : 28 ≤ mdays y m ∧ mdays y m ≤ 31 := by
  unfold mdays
  split
  · omega
  · split
    · split <;> omega
    · omega
theorem cum_mono (y m k : Int) (h1 : 1 ≤ m) (h : m < k) (h2 : k ≤ 12) : cum y m + mdays y m ≤ cum y k := by
  obtain ⟨n, hn⟩ : ∃ n : Nat, k = m + 1 + n := ⟨(k - m - 1).toNat, by omega⟩
  subst hn
  induction n with
  | zero => have := cum_succ y m h1 (by omega); simp; omega
  | succ n ih =>
    have i := ih (by omega) (by omega)
    have s := cum_succ y (m + 1 + n) (by omega) (by omega)
    have b := mdays_bd y (m + 1 + n)
    have e : m + 1 + ((n + 1 : Nat) : Int) = m + 1 + n + 1 := by omega
    rw [e, s]; omega
theorem vld_iff (y m d : Int) : vld y m d = true ↔ (1970 ≤ y ∧ y ≤ 9999 ∧ 1 ≤ m ∧ m ≤ 12 ∧ 1 ≤ d ∧ d ≤ mdays y m) := by simp [vld]
theorem num_in (y m d : Int) (h : vld y m d = true) : ys y + cum y m ≤ num y m d ∧ num y m d < ys y + cum y m + mdays y m ∧ 0 ≤ cum y m ∧ ys y + cum y m + mdays y m ≤ ys (y + 1) := by
  obtain ⟨_, _, h1, h2, h3, h4⟩ := (vld_iff y m d).1 h
  have e := num_eq y m d
  have s := ys_succ y
  have l := cum_last y
  have o := cum_one y
  have b := mdays_bd y m
  have b1 := mdays_bd y 1
  have b12 := mdays_bd y 12
  have p : 0 ≤ cum y m := by
    by_cases hm : m = 1
    · subst hm; omega
    · have := cum_mono y 1 m (by omega) (by omega) h2; omega
  have q : cum y m + mdays y m ≤ cum y 12 + mdays y 12 := by
    by_cases hm : m = 12
    · subst hm; omega
    · have := cum_mono y m 12 h1 (by omega) (by omega); omega
  refine ⟨by omega, by omega, p, by omega⟩
theorem num_range (y m d : Int) (h : vld y m d = true) : 0 ≤ num y m d ∧ num y m d ≤ 2932896 := by
  have a := num_in y m d h
  obtain ⟨h1, h2, _⟩ := (vld_iff y m d).1 h
  have e1 := ys_mono 1970 y h1
  have e2 := ys_mono (y + 1) 10000 (by omega)
  have f1 : ys 1970 = 0 := by decide
  have f2 : ys 10000 = 2932897 := by decide
  omega
def cR (n : Int) : Int := (n + 719468) % 146097
def cEra (n : Int) : Int := (n + 719468) / 146097
def cY (n : Int) : Int := (cR n - cR n / 1460 + cR n / 36524 - cR n / 146096) / 365
def cN (n : Int) : Int := cR n - (cY n * 365 + cY n / 4 - cY n / 100)
def cM (n : Int) : Int := (5 * cN n + 2) / 153
def cd (n : Int) : Int := cN n - (153 * cM n + 2) / 5 + 1
def cm (n : Int) : Int := if 12 < cM n + 3 then cM n + 3 - 12 else cM n + 3
def cy (n : Int) : Int := if 12 < cM n + 3 then cEra n * 400 + cY n + 1 else cEra n * 400 + cY n
theorem year_of (r y : Int) (h0 : 0 ≤ r) (h1 : r < 146097) (hy : y = (r - r / 1460 + r / 36524 - r / 146096) / 365) :
    0 ≤ y ∧ y ≤ 399 ∧ y * 365 + y / 4 - y / 100 ≤ r ∧ r < (y + 1) * 365 + (y + 1) / 4 - (y + 1) / 100 + (y + 1) / 400 := by
  have hb : r / 36524 = 0 ∨ r / 36524 = 1 ∨ r / 36524 = 2 ∨ r / 36524 = 3 ∨ r = 146096 := by omega
  have hc : r = 146096 ∨ r / 146096 = 0 := by omega
  rcases hc with rfl | hc
  · have : y = 399 := by omega
    subst this; omega
  rw [hc] at hy
  have key : ∀ b : Int, 0 ≤ b → b ≤ 3 → r / 36524 = b → 0 ≤ y ∧ y ≤ 399 ∧ y * 365 + y / 4 - y / 100 ≤ r ∧ r < (y + 1) * 365 + (y + 1) / 4 - (y + 1) / 100 + (y + 1) / 400 := by
    intro b b0 b3 hb
    rw [hb] at hy
    obtain ⟨a, ha⟩ : ∃ a, a = r / 1460 := ⟨_, rfl⟩
    rw [← ha] at hy
    have i1 : 1460 * a ≤ r := by omega
    have i2 : r ≤ 1460 * a + 1459 := by omega
    have j1 : 365 * y ≤ r - a + b := by omega
    have j2 : r - a + b ≤ 365 * y + 364 := by omega
    have k1 : 36524 * b ≤ r := by omega
    have k2 : r ≤ 36524 * b + 36523 := by omega
    clear hb hy ha
    have hp : y / 100 = b := by
      have : 100 * b ≤ y ∧ y ≤ 100 * b + 99 := by
        have : b = 0 ∨ b = 1 ∨ b = 2 ∨ b = 3 := by omega
        rcases this with rfl | rfl | rfl | rfl <;> omega
      omega
    obtain ⟨q, s, hs, hq, s0, s3⟩ : ∃ q s, y = 4 * q + s ∧ y / 4 = q ∧ 0 ≤ s ∧ s ≤ 3 := ⟨y / 4, y % 4, by omega, rfl, by omega, by omega⟩
    rw [hp, hq]
    have e1 : q ≤ a := by omega
    have e2 : a ≤ q + 1 := by omega
    have hs' : s = 0 ∨ s = 1 ∨ s = 2 ∨ s = 3 := by omega
    subst hs
    have hp' : 100 * b ≤ 4 * q + s ∧ 4 * q + s ≤ 100 * b + 99 := by omega
    clear hp hq
    refine ⟨by omega, by omega, ?_, ?_⟩
    · rcases hs' with rfl | rfl | rfl | rfl <;> omega
    · have h4 : 0 ≤ (4 * q + s + 1) / 400 := by omega
      by_cases hl : 4 * q + s = 100 * b + 99
      · have g1 : (4 * q + s + 1) / 100 = b + 1 := by omega
        have g2 : (4 * q + s + 1) / 4 = 25 * (b + 1) := by omega
        rw [g1, g2]; omega
      · have g1 : (4 * q + s + 1) / 100 = b := by omega
        rw [g1]
        clear hl k1 k2
        rcases hs' with rfl | rfl | rfl | rfl
        · have g2 : (4 * q + 0 + 1) / 4 = q := by omega
          rw [g2]; omega
        · have g2 : (4 * q + 1 + 1) / 4 = q := by omega
          rw [g2]; omega
        · have g2 : (4 * q + 2 + 1) / 4 = q := by omega
          rw [g2]; omega
        · have g2 : (4 * q + 3 + 1) / 4 = q + 1 := by omega
          rw [g2]; omega
  rcases hb with hb | hb | hb | hb | hb
  · exact key 0 (by omega) (by omega) hb
  · exact key 1 (by omega) (by omega) hb
  · exact key 2 (by omega) (by omega) hb
  · exact key 3 (by omega) (by omega) hb
  · omega
theorem num_in' (y m d : Int) (h1 : 1 ≤ m) (h2 : m ≤ 12) (h3 : 1 ≤ d) (h4 : d ≤ mdays y m) : ys y + cum y m ≤ num y m d ∧ num y m d < ys y + cum y m + mdays y m ∧ 0 ≤ cum y m ∧ ys y + cum y m + mdays y m ≤ ys (y + 1) := by
  have e := num_eq y m d
  have s := ys_succ y
  have l := cum_last y
  have o := cum_one y
  have b := mdays_bd y m
  have b1 := mdays_bd y 1
  have b12 := mdays_bd y 12
  have p : 0 ≤ cum y m := by
    by_cases hm : m = 1
    · subst hm; omega
    · have := cum_mono y 1 m (by omega) (by omega) h2; omega
  have q : cum y m + mdays y m ≤ cum y 12 + mdays y 12 := by
    by_cases hm : m = 12
    · subst hm; omega
    · have := cum_mono y m 12 h1 (by omega) (by omega); omega
  refine ⟨by omega, by omega, p, by omega⟩
theorem civ_core (n era r y rem M : Int) (he : n + 719468 = 146097 * era + r) (y0 : 0 ≤ y) (y1 : y ≤ 399)
    (hrem : rem = r - (y * 365 + y / 4 - y / 100)) (r0 : 0 ≤ rem) (r1 : r < (y + 1) * 365 + (y + 1) / 4 - (y + 1) / 100 + (y + 1) / 400) (hM : M = (5 * rem + 2) / 153) (Y m : Int)
    (hY : Y = if 12 < M + 3 then era * 400 + y + 1 else era * 400 + y) (hm : m = if 12 < M + 3 then M + 3 - 12 else M + 3) :
    0 ≤ M ∧ M ≤ 11 ∧ 1 ≤ m ∧ m ≤ 12 ∧ 1 ≤ rem - (153 * M + 2) / 5 + 1 ∧ rem - (153 * M + 2) / 5 + 1 ≤ mdays Y m ∧ num Y m (rem - (153 * M + 2) / 5 + 1) = n := by
  have M0 : 0 ≤ M := by omega
  have M1 : M ≤ 11 := by omega
  refine ⟨M0, M1, ?_⟩
  have hc : M = 0 ∨ M = 1 ∨ M = 2 ∨ M = 3 ∨ M = 4 ∨ M = 5 ∨ M = 6 ∨ M = 7 ∨ M = 8 ∨ M = 9 ∨ M = 10 ∨ M = 11 := by omega
  have hl := leap_iff Y
  have i1 : (era * 400 + y) / 4 = era * 100 + y / 4 := by omega
  have i2 : (era * 400 + y) / 100 = era * 4 + y / 100 := by omega
  have i3 : (era * 400 + y) / 400 = era := by omega
  have fin : num Y m (rem - (153 * M + 2) / 5 + 1) = n := by
    have e1 : yy Y m = era * 400 + y := by
      unfold yy; subst hY hm
      by_cases h : 12 < M + 3 <;> simp only [h, if_true, if_false] <;> split <;> omega
    have e2 : mm m = M := by
      unfold mm; subst hm
      by_cases h : 12 < M + 3 <;> simp only [h, if_true, if_false] <;> split <;> omega
    unfold num
    rw [e1, e2, i1, i2, i3]
    omega
  refine ⟨?_, ?_, ?_, ?_, fin⟩
  · subst hm; split <;> omega
  · subst hm; split <;> omega
  · omega
  · unfold mdays
    by_cases h11 : M = 11
    · subst h11
      rw [if_pos (by omega)] at hY hm
      subst hm
      rw [if_neg (by omega), if_pos (by omega)]
      by_cases h : leapB Y = true
      · rw [if_pos h]
        have hd : (y + 1) / 4 ≤ y / 4 + 1 ∧ y / 100 ≤ (y + 1) / 100 := by omega
        have h4 : (y + 1) / 400 = 0 ∨ ((y + 1) / 400 = 1 ∧ (y + 1) / 100 = y / 100 + 1) := by omega
        omega
      · rw [if_neg h]
        have hn : ¬ (Y % 4 = 0 ∧ (Y % 100 ≠ 0 ∨ Y % 400 = 0)) := fun x => h (hl.2 x)
        have hd : (y + 1) / 4 - (y + 1) / 100 + (y + 1) / 400 = y / 4 - y / 100 := by subst hY; omega
        omega
    · rcases hc with rfl | rfl | rfl | rfl | rfl | rfl | rfl | rfl | rfl | rfl | rfl | rfl <;> simp at hm <;> subst hm <;> simp <;> first | omega | exact absurd rfl h11
theorem civ_ok (n : Int) (h0 : 0 ≤ n) (h1 : n ≤ 2932896) : vld (cy n) (cm n) (cd n) = true ∧ num (cy n) (cm n) (cd n) = n := by
  have hr : 0 ≤ cR n ∧ cR n < 146097 := by unfold cR; omega
  have hy := year_of (cR n) (cY n) hr.1 hr.2 rfl
  have k := civ_core n (cEra n) (cR n) (cY n) (cN n) (cM n) (by unfold cEra cR; omega) hy.1 hy.2.1 rfl (by unfold cN; omega) hy.2.2.2 rfl (cy n) (cm n) rfl rfl
  obtain ⟨_, _, a, b, c, d, e⟩ := k
  have e' : num (cy n) (cm n) (cd n) = n := e
  have hi := num_in' (cy n) (cm n) (cd n) a b c d
  refine ⟨(vld_iff _ _ _).2 ⟨?_, ?_, a, b, c, d⟩, e'⟩
  · by_cases h : 1970 ≤ cy n
    · exact h
    · have := ys_mono (cy n + 1) 1970 (by omega)
      have f1 : ys 1970 = 0 := by decide
      omega
  · by_cases h : cy n ≤ 9999
    · exact h
    · have := ys_mono 10000 (cy n) (by omega)
      have f2 : ys 10000 = 2932897 := by decide
      omega
end Go.Proofs.YtgjfhgcjiglfkaaGreatDoor.Cal
namespace Go.Proofs.YtgjfhgcjiglfkaaGreatDoor
open Go.RowKit
theorem isLeap_any (y : Int) (w : World) (h0 : 0 ≤ y) (h1 : y ≤ 9999) :
    Calls Tryz.prog 246 #[.int .i64 y] w fun e w' => e = .returned (.bool (Cal.leapB y)) ∧ w = w' := by
  go_enter Tryz.func246, Tryz.ntmps246
  go_wp2
  all_goals
    go_ret
    exact ⟨ret_bool (by simp [Cal.leapB, *]), rfl⟩
theorem monthDays_any (y m : Int) (w : World) (h0 : 0 ≤ y) (h1 : y ≤ 9999) :
    Calls Tryz.prog 188 #[.int .i64 y, .int .i64 m] w fun e w' => e = .returned (.int .i64 (Cal.mdays y m)) ∧ w = w' := by
  by_cases hl : Cal.leapB y = true
  all_goals
    go_enter Tryz.func188, Tryz.ntmps188
    go_wp2_with (go_at_call 246; refine (isLeap_any _ _ (by omega) (by omega)).mono ?_; rintro e w' ⟨rfl, rfl⟩)
    all_goals
      go_ret
      exact ⟨ret_int (by simp_all [Cal.mdays]), rfl⟩
theorem days_ok (y m d : Int) (w : World) (h : Cal.vld y m d = true) :
    Calls Tryz.prog 117 #[.int .i64 y, .int .i64 m, .int .i64 d] w fun e w' => e = .returned (.tuple #[.int .i64 (Cal.num y m d), .int .i64 0]) ∧ w = w' := by
  obtain ⟨h1, h2, h3, h4, h5, h6⟩ := (Cal.vld_iff _ _ _).1 h
  have b := Cal.mdays_bd y m
  clear h
  by_cases hm : m < 3
  all_goals
    go_enter Tryz.func117, Tryz.ntmps117
    go_wp2_with (go_at_call 188; refine (monthDays_any _ _ _ (by omega) (by omega)).mono ?_; rintro e w' ⟨rfl, rfl⟩)
    go_ret2
    exact ⟨ret_ii (by simp only [Cal.num, Cal.yy, Cal.mm, hm, if_true]; omega) rfl, rfl⟩
theorem days_no (y m d : Int) (w : World) (h : Cal.vld y m d = false) :
    Calls Tryz.prog 117 #[.int .i64 y, .int .i64 m, .int .i64 d] w fun e w' => e = .returned (.tuple #[.int .i64 0, .int .i64 1]) ∧ w = w' := by
  have h' : ¬ (1970 ≤ y ∧ y ≤ 9999 ∧ 1 ≤ m ∧ m ≤ 12 ∧ 1 ≤ d ∧ d ≤ Cal.mdays y m) := fun x => by rw [(Cal.vld_iff y m d).2 x] at h; cases h
  clear h
  by_cases c : 1970 ≤ y ∧ y ≤ 9999 ∧ 1 ≤ m ∧ m ≤ 12 ∧ 1 ≤ d
  · obtain ⟨h1, h2, h3, h4, h5⟩ := c
    have h6 : Cal.mdays y m < d := by omega
    clear h'
    go_enter Tryz.func117, Tryz.ntmps117
    go_wp2_with (go_at_call 188; refine (monthDays_any _ _ _ (by omega) (by omega)).mono ?_; rintro e w' ⟨rfl, rfl⟩)
    go_ret2
    exact ⟨rfl, rfl⟩
  · have H := Lib.hid h'; clear h'
    have C := Lib.hid c; clear c
    go_enter Tryz.func117, Tryz.ntmps117
    go_wp2_with fail
    any_goals (exfalso; have := C.out; omega)
    all_goals
      go_ret2
      exact ⟨rfl, rfl⟩
theorem civil_ok (n : Int) (w : World) (h0 : 0 ≤ n) (h1 : n ≤ 2932896) :
    Calls Tryz.prog 189 #[.int .i64 n] w fun e w' => e = .returned (.tuple #[.int .i64 (Cal.cy n), .int .i64 (Cal.cm n), .int .i64 (Cal.cd n), .int .i64 0]) ∧ w = w' := by
  have hr : 0 ≤ (n + 719468) % 146097 ∧ (n + 719468) % 146097 < 146097 := by omega
  obtain ⟨y0, y1, y2, y3⟩ := Cal.year_of ((n + 719468) % 146097) _ hr.1 hr.2 rfl
  go_enter Tryz.func189, Tryz.ntmps189
  go_wp2
  · have h12 : 12 < Cal.cM n + 3 := by assumption
    have e1 : Cal.cy n = Cal.cEra n * 400 + Cal.cY n + 1 := if_pos h12
    have e2 : Cal.cm n = Cal.cM n + 3 - 12 := if_pos h12
    refine bodyPost_ret (results_tmp4 rfl _ _ _) rfl ⟨?_, rfl⟩
    rw [e1, e2]
    rfl
  · have h12 : Cal.cM n + 3 ≤ 12 := by assumption
    have e1 : Cal.cy n = Cal.cEra n * 400 + Cal.cY n := if_neg (by omega)
    have e2 : Cal.cm n = Cal.cM n + 3 := if_neg (by omega)
    refine bodyPost_ret (results_tmp4 rfl _ _ _) rfl ⟨?_, rfl⟩
    rw [e1, e2]
    rfl
namespace Dt
def dg (n : Nat) : UInt8 := UInt8.ofNat (48 + n)
def d2 (n : Nat) : List UInt8 := [dg (n / 10), dg (n % 10)]
def d4 (n : Nat) : List UInt8 := [dg (n / 1000), dg (n / 100 % 10), dg (n / 10 % 10), dg (n % 10)]
def days7 : List UInt8 := [84, 104, 117, 70, 114, 105, 83, 97, 116, 83, 117, 110, 77, 111, 110, 84, 117, 101, 87, 101, 100]
def months12 : List UInt8 := [74, 97, 110, 70, 101, 98, 77, 97, 114, 65, 112, 114, 77, 97, 121, 74, 117, 110, 74, 117, 108, 65, 117, 103, 83, 101, 112, 79, 99, 116, 78, 111, 118, 68, 101, 99]
def wd (k : Nat) : List UInt8 := (days7.drop (k * 3)).take 3
def mo (m : Nat) : List UInt8 := (months12.drop (3 * m - 3)).take 3
def textD (k d m y s : Nat) : List UInt8 :=
  wd k ++ ([44, 32] ++ (d2 d ++ ([32] ++ (mo m ++ ([32] ++ (d4 y ++ ([32] ++ (d2 (s / 3600) ++ ([58] ++ (d2 (s / 60 % 60) ++ ([58] ++ (d2 (s % 60) ++ [32, 71, 77, 84]))))))))))))
def printD (n : Nat) : List UInt8 := textD (n / 86400 % 7) (Cal.cd ((n / 86400 : Nat) : Int)).toNat (Cal.cm ((n / 86400 : Nat) : Int)).toNat (Cal.cy ((n / 86400 : Nat) : Int)).toNat (n % 86400)
theorem dec2 (n : Nat) (h : n < 100) : (if n < 10 then 48 :: Lib.decDigits n else Lib.decDigits n) = d2 n := by
  unfold d2 dg
  by_cases h1 : n < 10
  · rw [if_pos h1, Lib.decDigits, dif_pos h1, show n / 10 = 0 from by omega, show n % 10 = n from by omega]; rfl
  · rw [if_neg h1, Lib.decDigits, dif_neg h1, Lib.decDigits, dif_pos (by omega)]; rfl
theorem dec4 (n : Nat) (h0 : 1000 ≤ n) (h : n < 10000) : Lib.decDigits n = d4 n := by
  unfold d4 dg
  rw [Lib.decDigits, dif_neg (by omega), Lib.decDigits, dif_neg (by omega), Lib.decDigits, dif_neg (by omega), Lib.decDigits, dif_pos (by omega)]
  rw [show n / 10 / 10 = n / 100 from by omega, show n / 100 / 10 = n / 1000 from by omega]
  rfl
theorem d2_len (n : Nat) : (d2 n).length = 2 := rfl
theorem d4_len (n : Nat) : (d4 n).length = 4 := rfl
theorem wd_len (k : Nat) (h : k < 7) : (wd k).length = 3 := by
  have : ∀ k : Fin 7, (wd k.val).length = 3 := by decide
  exact this ⟨k, h⟩
theorem mo_len (m : Nat) (h : 1 ≤ m ∧ m ≤ 12) : (mo m).length = 3 := by
  have : ∀ m : Fin 13, 1 ≤ m.val → (mo m.val).length = 3 := by decide
  exact this ⟨m, by omega⟩ h.1
theorem textD_len (k d m y s : Nat) (hk : k < 7) (hm : 1 ≤ m ∧ m ≤ 12) : (textD k d m y s).length = 29 := by
  unfold textD
  simp only [List.length_append, wd_len k hk, mo_len m hm, d2_len, d4_len, List.length_cons, List.length_nil]
def num : List UInt8 → Nat → Option Nat
  | [], n => some n
  | c :: l, n => if 48 ≤ c ∧ c ≤ 57 then num l (10 * n + (c.toNat - 48)) else none
end Dt
section
variable {P : Program} {ops : Array Oper} {Q : Exit → Act → World → Prop} {S : World → Prop}
def seqH (P : Program) (ops : Array Oper) (Q : Exit → Act → World → Prop) (S : World → Prop) : List (Bool × Nat) → Act → World → Prop
  | [], a, w => Q .normal a w
  | (true, i) :: l, a, w => ∃ o v, ops[i]? = some o ∧ YieldsIf P ops S o v a ∧ seqH P ops Q S l (a.put o.dst v) w
  | (false, i) :: l, a, w => wpOp P ops Q i (fun a' w' => S w' ∧ seqH P ops Q S l a' w') a w
def okSeq (ops : Array Oper) : List (Bool × Nat) → Array Bool → Bool
  | [], listed => (Region.ready .any ops listed).isEmpty
  | (true, i) :: l, listed => (Region.ready .any ops listed).contains i && Region.free .any ops listed i && okSeq ops l (listed.setIfInBounds i true)
  | (false, i) :: l, listed => (Region.ready .any ops listed == [i]) && okSeq ops l (listed.setIfInBounds i true)
theorem seqH_sound (hs : Region.noSelect ops = true) (hQ : ∀ (d : Option Tmp) (v : Value) c a w, Q (.panic c) (a.put d v) w → Q (.panic c) a w) :
    ∀ (l : List (Bool × Nat)) (fuel : Nat) (listed : Array Bool) (a : Act) (w : World), l.length ≤ fuel → okSeq ops l listed = true → S w → seqH P ops Q S l a w → wpAnyH P .any ops Q S fuel listed a w
  | [], fuel, listed, a, w, _, hok, _, h => by
    refine wpAnyH_done ?_ h fuel
    simpa [okSeq] using hok
  | (true, i) :: l, 0, listed, a, w, hl, _, _, _ => by simp at hl
  | (true, i) :: l, fuel + 1, listed, a, w, hl, hok, hS, h => by
    simp only [okSeq, Bool.and_eq_true] at hok
    obtain ⟨o, v, ho, hy, hr⟩ := h
    exact wpAnyH_take ho hs hok.1.2 hok.1.1 (hQ _ _) hy hS (seqH_sound hs hQ l fuel _ _ w (by simp at hl; omega) hok.2 hS hr)
  | (false, i) :: l, 0, listed, a, w, hl, _, _, _ => by simp at hl
  | (false, i) :: l, fuel + 1, listed, a, w, hl, hok, hS, h => by
    simp only [okSeq, Bool.and_eq_true, beq_iff_eq] at hok
    refine wpAnyH_all hok.1 (by simp) fun j hj => ?_
    obtain rfl : j = i := by simpa using hj
    exact wpOp_mono (fun a' w' ⟨h1, h2⟩ => ⟨h1, seqH_sound hs hQ l fuel _ a' w' (by simp at hl; omega) hok.2 h1 h2⟩) h
theorem wp_region_seq {id : Nat} {a : Act} {w : World} (l : List (Bool × Nat)) (S : World → Prop) (hm : P.follows .mixedOrders = true) (hs : Region.noSelect ops = true)
    (hQ : ∀ (d : Tmp) (v : Value) c (a : Act) w, Q (.panic c) { a with tmps := a.tmps.setIfInBounds d v } w → Q (.panic c) a w) (hlen : decide (l.length ≤ ops.size) = true)
    (hok : okSeq ops l (Array.replicate ops.size false) = true) (hS : S w.drew) (h : seqH P ops Q S l a w.drew) : (Code.region id ops true).wp P Q a w :=
  wp_region_held hm (seqH_sound hs (fun d v c a w h => by cases d with | none => exact h | some d => exact hQ d v c a w h) l ops.size _ a w.drew (of_decide_eq_true hlen) hok hS h)
theorem seqH_nil {a : Act} {w : World} (h : Q .normal a w) : seqH P ops Q S [] a w := h
theorem seqH_take {i : Nat} {o : Oper} {v : Value} {l : List (Bool × Nat)} {a : Act} {w : World} (ho : ops[i]? = some o) (hw : Region.wanted o (yielded ops a.tmps) = true)
    (hy : ∀ w', S w' → (execOp a.eval o).run P w' = .ok (.value v) w') (h : seqH P ops Q S l (a.put o.dst v) w) : seqH P ops Q S ((true, i) :: l) a w := ⟨o, v, ho, .inl ⟨hw, hy⟩, h⟩
theorem seqH_skip {i : Nat} {o : Oper} {l : List (Bool × Nat)} {a : Act} {w : World} (ho : ops[i]? = some o) (hw : Region.wanted o (yielded ops a.tmps) = false)
    (h : seqH P ops Q S l (a.put o.dst undef) w) : seqH P ops Q S ((true, i) :: l) a w := ⟨o, undef, ho, .inr ⟨hw, rfl⟩, h⟩
theorem seqH_eff {i : Nat} {o : Oper} {l : List (Bool × Nat)} {a : Act} {w : World} (ho : ops[i]? = some o) (hw : Region.wanted o (yielded ops a.tmps) = true)
    (h : ∀ K : Act → World → Prop, (∀ a' w', S w' ∧ seqH P ops Q S l a' w' → K a' w') → o.wp P a w K Q) : seqH P ops Q S ((false, i) :: l) a w := by
  show wpOp P ops Q i _ a w
  unfold wpOp
  simp only [ho, hw, if_true]
  exact .inl (h _ fun _ _ h => h)
theorem seqH_pass {i : Nat} {o : Oper} {l : List (Bool × Nat)} {a : Act} {w : World} (ho : ops[i]? = some o) (hw : Region.wanted o (yielded ops a.tmps) = false)
    (hS : S w) (h : seqH P ops Q S l (a.put o.dst undef) w) : seqH P ops Q S ((false, i) :: l) a w := by
  show wpOp P ops Q i _ a w
  unfold wpOp
  simp only [ho, hw, Bool.false_eq_true, if_false]
  exact ⟨hS, h⟩
theorem seq_next {w0 wc wn : World} {X : Prop} (hc : Below w0.heap.size w0 wc) (hn : Below wc.heap.size wc wn) (h : Below w0.heap.size w0 wn → X) : Below w0.heap.size w0 wn ∧ X :=
  ⟨hc.trans (hn.mono hc.size), h (hc.trans (hn.mono hc.size))⟩
end
attribute [irreducible] seqH
set_option maxRecDepth 20000
def HasP10 (w : World) : Prop := Lib.TabIs Tryz.prog w "internal/strconv.uint64pow10" .u64 Lib.pow10Tab ∧ 1 < w.heap.size
theorem HasP10.below {B : Nat} {w w' : World} (h : HasP10 w) (hB : B = w.heap.size) (hb : Below B w w') : HasP10 w' := by
  subst hB
  exact ⟨var?_below hb (g := 1) (by kernel_rfl) h.2 h.1, Nat.lt_of_lt_of_le h.2 hb.size⟩
theorem below_grow_ (B : Nat) (w : World) (hB : B ≤ w.heap.size) (k : Nat) (os : Array Obj) : Below B w (Sort.grow (w.drewN k) os) :=
  ⟨rfl, rfl, rfl, by show _ ≤ ((w.drewN k).heap ++ os).size; rw [Array.size_append]; exact Nat.le_add_right _ _, fun i hi => by
    show (w.heap ++ os)[i]? = w.heap[i]?
    rw [Array.getElem?_append_left (Nat.lt_of_lt_of_le hi hB)]⟩
theorem two_any (n : Nat) (w : World) (h : n < 100) :
    Calls Tryz.prog 190 #[.int .i64 n] w fun e w' => e = .returned (.string (mkS (Dt.d2 n))) ∧ w = w' := by
  have hd := Dt.dec2 n h
  have HI := Lib.hid (Tryz.strconv_Itoa_small n h)
  have hXs : sl (⟨(Lib.decDigits n).toArray⟩ : ByteArray) = Lib.decDigits n := rfl
  have hXz : (⟨(Lib.decDigits n).toArray⟩ : ByteArray).size ≤ 2 := by
    rw [← sl_len, hXs]
    have := congrArg List.length hd
    rw [Dt.d2_len] at this
    split at this
    · simp only [List.length_cons] at this; omega
    · omega
  rw [← hXs] at hd
  have HD := Lib.hid hd
  generalize (⟨(Lib.decDigits n).toArray⟩ : ByteArray) = X at *
  generalize Dt.d2 n = q at *
  clear hXs hd
  have z1 : (⟨#[48]⟩ : ByteArray).size + X.size ≤ 9223372036854775807 := by have : (⟨#[48]⟩ : ByteArray).size = 1 := rfl; omega
  go_enter Tryz.func190, Tryz.ntmps190
  by_cases h10 : n < 10
  · have d1 : decide (n < 10) = true := decide_eq_true h10
    go_wp2_with fail
    refine (HI.out _).mono ?_
    rintro e w' ⟨rfl, rfl⟩
    go_wp2_with fail
    go_ret
    exact ⟨ret_str (sl_inj (by rw [sl_append, sl_mkS, ← HD.out, if_pos h10]; rfl)), rfl⟩
  · have d1 : decide (n < 10) = false := decide_eq_false h10
    go_wp2_with fail
    refine (HI.out _).mono ?_
    rintro e w' ⟨rfl, rfl⟩
    go_wp2_with fail
    go_ret
    exact ⟨ret_str (sl_inj (by rw [sl_mkS, ← HD.out, if_neg h10])), rfl⟩
theorem itoa_year (y : Nat) (w : World) (h0 : 1000 ≤ y) (h1 : y < 10000) (hp : HasP10 w) :
    Calls Tryz.prog 75 #[.int .i64 y] w fun e w' => e = .returned (.string (mkS (Dt.d4 y))) ∧ Below w.heap.size w w' := by
  refine (Tryz.strconv_Itoa (y : Int) (by omega) (by omega) w hp.1).mono fun e w' ⟨he, k, os, hw⟩ => ⟨?_, ?_⟩
  · rw [he]
    unfold Lib.itoa
    rw [if_neg (by omega), Int.toNat_natCast, Dt.dec4 y h0 h1]; rfl
  · rw [hw]; exact below_grow_ _ w (Nat.le_refl _) k os
theorem datePrint_no (n : Int) (w : World) (h : n < 0 ∨ 253402300799 < n) :
    Calls Tryz.prog 119 #[.int .i64 n] w fun e w' => e = .returned (.tuple #[.string ByteArray.empty, .int .i64 1]) ∧ w = w' := by
  go_enter Tryz.func119, Tryz.ntmps119
  by_cases h0 : n < 0
  · go_wp2_with fail
    go_ret2
    exact ⟨rfl, rfl⟩
  · have h1 : 253402300799 < n := by omega
    go_wp2_with fail
    go_ret2
    exact ⟨rfl, rfl⟩
set_option maxHeartbeats 3200000 in
theorem datePrint_ok (n : Nat) (w : World) (h : n ≤ 253402300799) (hp : HasP10 w) :
    Calls Tryz.prog 119 #[.int .i64 n] w fun e w' => e = .returned (.tuple #[.string (mkS (Dt.printD n)), .int .i64 0]) ∧ Below w.heap.size w w' := by
  obtain ⟨D, hD⟩ : ∃ D, n / 86400 = D := ⟨_, rfl⟩
  obtain ⟨S, hS⟩ : ∃ S, n % 86400 = S := ⟨_, rfl⟩
  have hD1 : D ≤ 2932896 := by omega
  have hS1 : S < 86400 := by omega
  have hDq : (n : Int) / 86400 = (D : Int) := by omega
  have hSq : (n : Int) % 86400 = (S : Int) := by omega
  have HC := Lib.hid (fun w => civil_ok (D : Int) w (by omega) (by omega))
  have hv := (Cal.civ_ok (D : Int) (by omega) (by omega)).1
  rw [Cal.vld_iff] at hv
  have hmd := (Cal.mdays_bd (Cal.cy (D : Int)) (Cal.cm (D : Int))).2
  have hr : Dt.printD n = Dt.textD (D % 7) (Cal.cd (D : Int)).toNat (Cal.cm (D : Int)).toNat (Cal.cy (D : Int)).toNat S := by
    unfold Dt.printD
    rw [hD, hS]
  generalize Cal.mdays (Cal.cy (D : Int)) (Cal.cm (D : Int)) = mx at *
  generalize Cal.cy (D : Int) = cy at *
  generalize Cal.cm (D : Int) = cm at *
  generalize Cal.cd (D : Int) = cd at *
  obtain ⟨y1, y2, m1, m2, d1, d2⟩ := hv
  obtain ⟨Y, rfl⟩ : ∃ Y : Nat, cy = (Y : Int) := ⟨cy.toNat, by omega⟩
  obtain ⟨M, rfl⟩ : ∃ M : Nat, cm = (M : Int) := ⟨cm.toNat, by omega⟩
  obtain ⟨Dd, rfl⟩ : ∃ Dd : Nat, cd = (Dd : Int) := ⟨cd.toNat, by omega⟩
  rw [Int.toNat_natCast, Int.toNat_natCast, Int.toNat_natCast] at hr
  have HR := Lib.hid hr
  have hDd' : Dd < 100 := by omega
  have HT2 := Lib.hid (fun w => two_any Dd w hDd')
  have HIY := Lib.hid (fun w hp => itoa_year Y w (by omega) (by omega) hp)
  obtain ⟨TA, hTA⟩ : ∃ x, S / 3600 = x := ⟨_, rfl⟩
  obtain ⟨TB, hTB⟩ : ∃ x, S / 60 % 60 = x := ⟨_, rfl⟩
  obtain ⟨TC, hTC⟩ : ∃ x, S % 60 = x := ⟨_, rfl⟩
  have HH := Lib.hid (fun w => two_any TA w (by omega))
  have HMi := Lib.hid (fun w => two_any TB w (by omega))
  have HSe := Lib.hid (fun w => two_any TC w (by omega))
  obtain ⟨K, hK⟩ : ∃ K : Nat, D % 7 = K := ⟨_, rfl⟩
  have hK7 : K < 7 := by omega
  have hKq : (D : Int) % 7 = (K : Int) := by omega
  have e1 : (S : Int) / 3600 = (TA : Int) := by omega
  have e2 : (S : Int) / 60 % 60 = (TB : Int) := by omega
  have e3 : (S : Int) % 60 = (TC : Int) := by omega
  have HTA := Lib.hid hTA
  have HTBB := Lib.hid hTB
  have HTC := Lib.hid hTC
  clear hTA hTB hTC
  rw [hK] at HR
  clear hD hS hK hmd d2 hr
  have i1 : (K : Int) * 3 ≤ (K : Int) * 3 + 3 := by omega
  have i2 : (K : Int) * 3 + 3 ≤ 21 := by omega
  have i2' : (0 : Int) ≤ (K : Int) * 3 + 3 := by omega
  have i3 : 3 * (M : Int) - 3 ≤ 3 * (M : Int) := by omega
  have i4 : 3 * (M : Int) ≤ 36 := by omega
  have i4' : (0 : Int) ≤ 3 * (M : Int) := by omega
  have i5 : 0 ≤ 3 * (M : Int) - 3 := by omega
  have i6 : (0 : Int) ≤ (K : Int) * 3 := by omega
  have i7 : (3 : Int) ≤ 3 * (M : Int) := by omega
  have hw1 : IntKind.i64.wrap ((K : Int) * 3 + 3) = (K : Int) * 3 + 3 := IntWalk.i64_in _ (by omega)
  have hw2 : IntKind.i64.wrap (3 * (M : Int)) = 3 * (M : Int) := IntWalk.i64_in _ (by omega)
  have hw3 : IntKind.i64.wrap (3 * (M : Int) - 3) = 3 * (M : Int) - 3 := IntWalk.i64_in _ (by omega)
  obtain ⟨W3, hW3⟩ : ∃ W3, (⟨#[84, 104, 117, 70, 114, 105, 83, 97, 116, 83, 117, 110, 77, 111, 110, 84, 117, 101, 87, 101, 100]⟩ : ByteArray).extract ((K : Int) * 3).toNat ((K : Int) * 3 + 3).toNat = W3 := ⟨_, rfl⟩
  have sW3 : sl W3 = Dt.wd K := by
    rw [← hW3, sl_extract, show ((K : Int) * 3).toNat = K * 3 from by omega, show ((K : Int) * 3 + 3).toNat - K * 3 = 3 from by omega]; rfl
  obtain ⟨M3, hM3⟩ : ∃ M3, (⟨#[74, 97, 110, 70, 101, 98, 77, 97, 114, 65, 112, 114, 77, 97, 121, 74, 117, 110, 74, 117, 108, 65, 117, 103, 83, 101, 112, 79, 99, 116, 78, 111, 118, 68, 101, 99]⟩ : ByteArray).extract (3 * (M : Int) - 3).toNat (3 * (M : Int)).toNat = M3 := ⟨_, rfl⟩
  have sM3 : sl M3 = Dt.mo M := by
    rw [← hM3, sl_extract, show (3 * (M : Int) - 3).toNat = 3 * M - 3 from by omega, show (3 * (M : Int)).toNat - (3 * M - 3) = 3 from by omega]; rfl
  have lW3 : W3.size = 3 := by rw [← sl_len, sW3, Dt.wd_len K hK7]
  have lM3 : M3.size = 3 := by rw [← sl_len, sM3, Dt.mo_len M (by omega)]
  obtain ⟨T2, hT2⟩ : ∃ T2, mkS (Dt.d2 Dd) = T2 := ⟨_, rfl⟩
  have sT2 : sl T2 = Dt.d2 Dd := by rw [← hT2, sl_mkS]
  have lT2 : T2.size = 2 := by rw [← sl_len, sT2]; rfl
  obtain ⟨Y4, hY4⟩ : ∃ Y4, mkS (Dt.d4 Y) = Y4 := ⟨_, rfl⟩
  have sY4 : sl Y4 = Dt.d4 Y := by rw [← hY4, sl_mkS]
  have lY4 : Y4.size = 4 := by rw [← sl_len, sY4]; rfl
  obtain ⟨HO, hHO⟩ : ∃ HO, mkS (Dt.d2 TA) = HO := ⟨_, rfl⟩
  have sHO : sl HO = Dt.d2 TA := by rw [← hHO, sl_mkS]
  have lHO : HO.size = 2 := by rw [← sl_len, sHO]; rfl
  obtain ⟨MI, hMI⟩ : ∃ MI, mkS (Dt.d2 TB) = MI := ⟨_, rfl⟩
  have sMI : sl MI = Dt.d2 TB := by rw [← hMI, sl_mkS]
  have lMI : MI.size = 2 := by rw [← sl_len, sMI]; rfl
  obtain ⟨SE, hSE⟩ : ∃ SE, mkS (Dt.d2 TC) = SE := ⟨_, rfl⟩
  have sSE : sl SE = Dt.d2 TC := by rw [← hSE, sl_mkS]
  have lSE : SE.size = 2 := by rw [← sl_len, sSE]; rfl
  rw [hT2] at HT2
  rw [hHO] at HH
  rw [hMI] at HMi
  rw [hSE] at HSe
  have HIY2 : Hid (∀ w, HasP10 w → Calls Tryz.prog 75 #[.int .i64 (Y : Int)] w fun e w' => e = .returned (.string Y4) ∧ Below w.heap.size w w') := fun w hp => by have := HIY.out w hp; rw [hY4] at this; exact this
  have zP1 : W3.size + (⟨#[44, 32]⟩ : ByteArray).size ≤ 9223372036854775807 := by rw [lW3]; have : (⟨#[44, 32]⟩ : ByteArray).size = 2 := rfl; omega
  obtain ⟨P1, hP1⟩ : ∃ P1, W3 ++ (⟨#[44, 32]⟩ : ByteArray) = P1 := ⟨_, rfl⟩
  have lP1 : P1.size = 5 := by rw [← hP1, ByteArray.size_append, lW3]; have : (⟨#[44, 32]⟩ : ByteArray).size = 2 := rfl; omega
  have zP2 : P1.size + T2.size ≤ 9223372036854775807 := by rw [lP1]; have : T2.size = 2 := lT2; omega
  obtain ⟨P2, hP2⟩ : ∃ P2, P1 ++ T2 = P2 := ⟨_, rfl⟩
  have lP2 : P2.size = 7 := by rw [← hP2, ByteArray.size_append, lP1]; have : T2.size = 2 := lT2; omega
  have zP3 : P2.size + (⟨#[32]⟩ : ByteArray).size ≤ 9223372036854775807 := by rw [lP2]; have : (⟨#[32]⟩ : ByteArray).size = 1 := rfl; omega
  obtain ⟨P3, hP3⟩ : ∃ P3, P2 ++ (⟨#[32]⟩ : ByteArray) = P3 := ⟨_, rfl⟩
  have lP3 : P3.size = 8 := by rw [← hP3, ByteArray.size_append, lP2]; have : (⟨#[32]⟩ : ByteArray).size = 1 := rfl; omega
  have zP4 : P3.size + M3.size ≤ 9223372036854775807 := by rw [lP3]; have : M3.size = 3 := lM3; omega
  obtain ⟨P4, hP4⟩ : ∃ P4, P3 ++ M3 = P4 := ⟨_, rfl⟩
  have lP4 : P4.size = 11 := by rw [← hP4, ByteArray.size_append, lP3]; have : M3.size = 3 := lM3; omega
  have zP5 : P4.size + (⟨#[32]⟩ : ByteArray).size ≤ 9223372036854775807 := by rw [lP4]; have : (⟨#[32]⟩ : ByteArray).size = 1 := rfl; omega
  obtain ⟨P5, hP5⟩ : ∃ P5, P4 ++ (⟨#[32]⟩ : ByteArray) = P5 := ⟨_, rfl⟩
  have lP5 : P5.size = 12 := by rw [← hP5, ByteArray.size_append, lP4]; have : (⟨#[32]⟩ : ByteArray).size = 1 := rfl; omega
  have zP6 : P5.size + Y4.size ≤ 9223372036854775807 := by rw [lP5]; have : Y4.size = 4 := lY4; omega
  obtain ⟨P6, hP6⟩ : ∃ P6, P5 ++ Y4 = P6 := ⟨_, rfl⟩
  have lP6 : P6.size = 16 := by rw [← hP6, ByteArray.size_append, lP5]; have : Y4.size = 4 := lY4; omega
  have zQ1 : P6.size + (⟨#[32]⟩ : ByteArray).size ≤ 9223372036854775807 := by rw [lP6]; have : (⟨#[32]⟩ : ByteArray).size = 1 := rfl; omega
  obtain ⟨Q1, hQ1⟩ : ∃ Q1, P6 ++ (⟨#[32]⟩ : ByteArray) = Q1 := ⟨_, rfl⟩
  have lQ1 : Q1.size = 17 := by rw [← hQ1, ByteArray.size_append, lP6]; have : (⟨#[32]⟩ : ByteArray).size = 1 := rfl; omega
  have zQ2 : Q1.size + HO.size ≤ 9223372036854775807 := by rw [lQ1]; have : HO.size = 2 := lHO; omega
  obtain ⟨Q2, hQ2⟩ : ∃ Q2, Q1 ++ HO = Q2 := ⟨_, rfl⟩
  have lQ2 : Q2.size = 19 := by rw [← hQ2, ByteArray.size_append, lQ1]; have : HO.size = 2 := lHO; omega
  have zQ3 : Q2.size + (⟨#[58]⟩ : ByteArray).size ≤ 9223372036854775807 := by rw [lQ2]; have : (⟨#[58]⟩ : ByteArray).size = 1 := rfl; omega
  obtain ⟨Q3, hQ3⟩ : ∃ Q3, Q2 ++ (⟨#[58]⟩ : ByteArray) = Q3 := ⟨_, rfl⟩
  have lQ3 : Q3.size = 20 := by rw [← hQ3, ByteArray.size_append, lQ2]; have : (⟨#[58]⟩ : ByteArray).size = 1 := rfl; omega
  have zQ4 : Q3.size + MI.size ≤ 9223372036854775807 := by rw [lQ3]; have : MI.size = 2 := lMI; omega
  obtain ⟨Q4, hQ4⟩ : ∃ Q4, Q3 ++ MI = Q4 := ⟨_, rfl⟩
  have lQ4 : Q4.size = 22 := by rw [← hQ4, ByteArray.size_append, lQ3]; have : MI.size = 2 := lMI; omega
  have zQ5 : Q4.size + (⟨#[58]⟩ : ByteArray).size ≤ 9223372036854775807 := by rw [lQ4]; have : (⟨#[58]⟩ : ByteArray).size = 1 := rfl; omega
  obtain ⟨Q5, hQ5⟩ : ∃ Q5, Q4 ++ (⟨#[58]⟩ : ByteArray) = Q5 := ⟨_, rfl⟩
  have lQ5 : Q5.size = 23 := by rw [← hQ5, ByteArray.size_append, lQ4]; have : (⟨#[58]⟩ : ByteArray).size = 1 := rfl; omega
  have zQ6 : Q5.size + SE.size ≤ 9223372036854775807 := by rw [lQ5]; have : SE.size = 2 := lSE; omega
  obtain ⟨Q6, hQ6⟩ : ∃ Q6, Q5 ++ SE = Q6 := ⟨_, rfl⟩
  have lQ6 : Q6.size = 25 := by rw [← hQ6, ByteArray.size_append, lQ5]; have : SE.size = 2 := lSE; omega
  have zQ7 : Q6.size + (⟨#[32, 71, 77, 84]⟩ : ByteArray).size ≤ 9223372036854775807 := by rw [lQ6]; have : (⟨#[32, 71, 77, 84]⟩ : ByteArray).size = 4 := rfl; omega
  obtain ⟨Q7, hQ7⟩ : ∃ Q7, Q6 ++ (⟨#[32, 71, 77, 84]⟩ : ByteArray) = Q7 := ⟨_, rfl⟩
  have lQ7 : Q7.size = 29 := by rw [← hQ7, ByteArray.size_append, lQ6]; have : (⟨#[32, 71, 77, 84]⟩ : ByteArray).size = 4 := rfl; omega
  have HF : Hid (Q7 = mkS (Dt.printD n)) := by
    refine sl_inj ?_
    rw [sl_mkS, HR.out, ← hQ7, ← hQ6, ← hQ5, ← hQ4, ← hQ3, ← hQ2, ← hQ1, ← hP6, ← hP5, ← hP4, ← hP3, ← hP2, ← hP1]
    simp only [sl_append, sW3, sM3, sT2, sY4, sHO, sMI, sSE]
    unfold Dt.textD
    rw [HTA.out, HTBB.out, HTC.out]
    simp only [List.append_assoc]
    rfl
  have HP := Lib.hid hp
  have HTB : Hid (∀ w : World, Calls Tryz.prog 190 #[.int .i64 (Dd : Int)] w fun e w' => e = .returned (.string T2) ∧ Below w.heap.size w w') := fun w => (HT2.out w).mono fun e w' ⟨he, hw⟩ => ⟨he, hw ▸ Below.refl _ _⟩
  clear hT2 hY4 hHO hMI hSE sW3 sM3 sT2 sY4 sHO sMI sSE
  go_enter Tryz.func119, Tryz.ntmps119
  go_wp2_with fail
  refine (HC.out _).mono ?_
  rintro e w' ⟨rfl, rfl⟩
  go_wp2_with fail
  refine wp_region_seq [(true, 0), (true, 1), (true, 2), (true, 3), (true, 4), (true, 5), (true, 9), (true, 10), (true, 11), (true, 12), (true, 13), (true, 14), (true, 17), (false, 6), (true, 7), (true, 8), (true, 15), (true, 16), (false, 18), (true, 19), (true, 20)] (fun w' => Below w.heap.size w w') (by kernel_rfl) (by kernel_rfl) (fun _ _ _ _ _ h => h) (by kernel_rfl) (by kernel_rfl) (by first | exact (Below.refl _ _).drew | exact Below.drew (by assumption)) ?_
  have bS : Below w.heap.size w _ := (by first | exact Below.drew (by assumption) | exact (Below.refl _ w).drew)
  iterate 21 (first
    | (apply seqH_skip; (focus (simp only [List.getElem?_toArray, List.getElem?_cons_succ, List.getElem?_cons_zero]; rfl)); (focus rfl); simp only [Act.put, List.setIfInBounds_toArray, List.set_cons_zero, List.set_cons_succ])
    | (apply seqH_take; (focus (simp only [List.getElem?_toArray, List.getElem?_cons_succ, List.getElem?_cons_zero]; rfl)); (focus rfl); (focus (intro w' hS; skip; first | (go_simp; rfl) | (go_simp; done))); simp only [Act.put, List.setIfInBounds_toArray, List.set_cons_zero, List.set_cons_succ])
    | (apply seqH_pass; (focus (simp only [List.getElem?_toArray, List.getElem?_cons_succ, List.getElem?_cons_zero]; rfl)); (focus rfl); (focus assumption); simp only [Act.put, List.setIfInBounds_toArray, List.set_cons_zero, List.set_cons_succ])
    | (apply seqH_eff; (focus (simp only [List.getElem?_toArray, List.getElem?_cons_succ, List.getElem?_cons_zero]; rfl)); (focus rfl); intro K hK; go_simp; (first | (go_at_call 190; (with_reducible refine (HTB.out _).mono ?_)) | (go_at_call 75; (with_reducible refine (HIY2.out _ (HP.out.below rfl (by assumption))).mono ?_))); rintro e wN ⟨rfl, bN⟩; refine hK _ _ (seq_next (by assumption) bN (fun bS' => ?_)); clear hK K))
  refine seqH_nil ?_
  go_wp2_with fail
  refine (HH.out _).mono ?_
  rintro e w' ⟨rfl, rfl⟩
  go_wp2_with fail
  refine (HMi.out _).mono ?_
  rintro e w' ⟨rfl, rfl⟩
  go_wp2_with fail
  refine (HSe.out _).mono ?_
  rintro e w' ⟨rfl, rfl⟩
  go_wp2_with fail
  go_ret2
  exact ⟨ret_si HF.out rfl, by assumption⟩
set_option maxRecDepth 20000
namespace Tok
def plainB (c : UInt8) : Bool := (32 ≤ c && c ≤ 126) || c == 9
def blankB (c : UInt8) : Bool := c == 32 || c == 9
def esc (c : UInt8) : List UInt8 := if c == 34 || c == 92 then [92, c] else [c]
def escs (l : List UInt8) : List UInt8 := l.flatMap esc
def quoteL (l : List UInt8) : List UInt8 := 34 :: (escs l ++ [34])
theorem escs_snoc (l : List UInt8) (c : UInt8) : escs (l ++ [c]) = escs l ++ esc c := by simp [escs]
theorem esc_len (c : UInt8) : (esc c).length ≤ 2 := by unfold esc; split <;> simp
theorem escs_len (l : List UInt8) : (escs l).length ≤ 2 * l.length := by
  induction l with
  | nil => simp [escs]
  | cons c l ih => have := esc_len c; simp only [escs, List.flatMap_cons, List.length_append, List.length_cons] at ih ⊢; omega
end Tok
theorem plainB_iff (c : UInt8) : Tok.plainB c = true ↔ (32 ≤ (c.toNat : Int) ∧ (c.toNat : Int) ≤ 126) ∨ (c.toNat : Int) = 9 := by
  simp [Tok.plainB, u8_le, u8_eq]
theorem blankB_iff (c : UInt8) : Tok.blankB c = true ↔ (c.toNat : Int) = 32 ∨ (c.toNat : Int) = 9 := by
  simp [Tok.blankB, u8_eq]
theorem isPlain_any (c : UInt8) (w : World) :
    Calls Tryz.prog 194 #[.int .u8 (c.toNat : Int)] w fun e w' => e = .returned (.bool (Tok.plainB c)) ∧ w = w' := by
  have H := Lib.hid (plainB_iff c)
  go_enter Tryz.func194, Tryz.ntmps194
  go_wp2
  all_goals
    go_ret
    exact ⟨ret_bool (by rw [Bool.eq_iff_iff, H.out]; simp; omega), rfl⟩
theorem isBlank_any (c : UInt8) (w : World) :
    Calls Tryz.prog 231 #[.int .u8 (c.toNat : Int)] w fun e w' => e = .returned (.bool (Tok.blankB c)) ∧ w = w' := by
  have H := Lib.hid (blankB_iff c)
  go_enter Tryz.func231, Tryz.ntmps231
  go_wp2
  all_goals
    go_ret
    exact ⟨ret_bool (by rw [Bool.eq_iff_iff, H.out]; simp; try omega), rfl⟩
def QuoteEnd (l : List UInt8) (e : Ending) : Prop :=
  (l.all Tok.plainB = true ∧ e = .returned (.tuple #[.string (mkS (Tok.quoteL l)), .int .i64 0])) ∨ (l.all Tok.plainB = false ∧ e = .returned (.tuple #[.string ByteArray.empty, .int .i64 3]))
theorem quote_large (s : ByteArray) (w : World) (hs : 1000 < s.size) (h2 : s.size ≤ 140737488351232) :
    Calls Tryz.prog 126 #[.string s] w fun e w' => e = .returned (.tuple #[.string ByteArray.empty, .int .i64 2]) ∧ w = w' := by
  go_enter Tryz.func126, Tryz.ntmps126
  go_wp2_with fail
  go_ret2
  exact ⟨rfl, rfl⟩
set_option maxHeartbeats 800000 in
theorem quote_walk (s : ByteArray) (w : World) (hs : s.size ≤ 1000) :
    Calls Tryz.prog 126 #[.string s] w fun e w' => QuoteEnd (sl s) e ∧ Below w.heap.size w w' := by
  go_enter Tryz.func126, Tryz.ntmps126
  go_wp2_with fail
  go_loopw [4, 13] (fun v i wr => ∃ k : Nat, k ≤ s.size ∧ i = .int .i64 k ∧ Owns wr w.heap.size 5 1 eb v (34 :: Tok.escs ((sl s).take k)) ∧ ((sl s).take k).all Tok.plainB = true ∧ Below w.heap.size w wr) (fun _ i _ => s.size - (intOf i).toNat)
  case atStart =>
    refine ⟨0, by omega, rfl, ?_, by simp, (Below.refl _ _).alloc (Nat.le_refl _) _⟩
    exact Owns.lit w w.heap.size #[.int .u8 34] [34] (Nat.le_refl _) (by decide) rfl rfl
  case round =>
    obtain ⟨k, hk, rfl, hown, hall, hbel⟩ := hrel
    have hesl : (Tok.escs ((sl s).take k)).length ≤ 2000 := by
      have := Tok.escs_len ((sl s).take k)
      have := List.length_take_le k (sl s)
      omega
    by_cases hlt : k < s.size
    · have HC := Lib.hid (sl_getElem? s k hlt)
      have HA := Lib.hid hall
      clear hall
      by_cases hp : Tok.plainB s[k] = true
      · by_cases h34 : (((s[k].toNat : Int) == 34) || ((s[k].toNat : Int) == 92)) = true
        · have HE : Hid (Tok.esc s[k] = [92, s[k]]) := by
            show Tok.esc s[k] = [92, s[k]]
            unfold Tok.esc
            rw [if_pos]
            simpa [u8_eq] using h34
          have hq : ((s[k].toNat : Int) == 34) = true ∨ (((s[k].toNat : Int) == 34) = false ∧ ((s[k].toNat : Int) == 92) = true) := by
            cases h : ((s[k].toNat : Int) == 34) <;> simp_all
          clear h34
          rcases hq with hq | ⟨hq, hq'⟩
          all_goals
            go_wp2_with (first | (go_at_call 194; refine (isPlain_any _ _).mono ?_; rintro e w' ⟨rfl, rfl⟩) | (at_builtin; go_must (refine wpList_append_owns rfl (.tmp 34) (.tmp 36) _ rfl w.heap.size 5 (.int .u8 0) 1 1 eb Tryz.underlying135 byteInfo rfl (by decide) _ _ rfl (hown.alloc _) ⟨wr.heap.size, 0, none⟩ 2 2 [92, s[k]] rfl rfl rfl (new_cells _ [bv 92, bv s[k]] _) (eb_one [92, s[k]]) (by simp only [List.length_cons, maxLen]; omega) (by simp only [List.length_cons]; omega) (bel_size hbel (Nat.le_refl _) _) ?_); intro v1 w1 hown1 hg1))
            go_roundw
            case rel => exact ⟨k + 1, by omega, by go_num, by rw [take_succ_of HC.out, Tok.escs_snoc, HE.out]; exact hown1, all_take_succ HC.out HA.out hp, bel_append hbel (Nat.le_refl _) hown hg1⟩
            case measure => simp [intOf]; omega
        · have h34' : ((s[k].toNat : Int) == 34) = false ∧ ((s[k].toNat : Int) == 92) = false := by
            cases h : ((s[k].toNat : Int) == 34) <;> cases h' : ((s[k].toNat : Int) == 92) <;> simp_all
          obtain ⟨hq, hq'⟩ := h34'
          have HE : Hid (Tok.esc s[k] = [s[k]]) := by
            show Tok.esc s[k] = [s[k]]
            unfold Tok.esc
            rw [if_neg]
            simpa [u8_eq] using h34
          clear h34
          go_wp2_with (first | (go_at_call 194; refine (isPlain_any _ _).mono ?_; rintro e w' ⟨rfl, rfl⟩) | (at_builtin; go_must (refine wpList_append_owns rfl (.tmp 19) (.tmp 21) _ rfl w.heap.size 5 (.int .u8 0) 1 1 eb Tryz.underlying135 byteInfo rfl (by decide) _ _ rfl (hown.alloc _) ⟨wr.heap.size, 0, none⟩ 1 1 [s[k]] rfl rfl rfl (new_cells _ [bv s[k]] _) (eb_one [s[k]]) (by simp only [List.length_cons, maxLen]; omega) (by simp only [List.length_cons]; omega) (bel_size hbel (Nat.le_refl _) _) ?_); intro v1 w1 hown1 hg1))
          go_roundw
          case rel => exact ⟨k + 1, by omega, by go_num, by rw [take_succ_of HC.out, Tok.escs_snoc, HE.out]; exact hown1, all_take_succ HC.out HA.out hp, bel_append hbel (Nat.le_refl _) hown hg1⟩
          case measure => simp [intOf]; omega
      · have hp' : Tok.plainB s[k] = false := by simpa using hp
        clear hp
        go_wp2_with (go_at_call 194; refine (isPlain_any _ _).mono ?_; rintro e w' ⟨rfl, rfl⟩)
        go_ret2
        exact ⟨.inr ⟨all_false HC.out hp', rfl⟩, hbel⟩
    · obtain rfl : k = s.size := by omega
      have ht : (sl s).take s.size = sl s := List.take_of_length_le (by rw [sl_len]; exact Nat.le_refl _)
      rw [ht] at hown hall hesl
      have HA := Lib.hid hall
      clear hall ht
      go_wp2_with (at_builtin; go_must (refine wpList_append_owns rfl (.tmp 39) (.tmp 40) _ rfl w.heap.size 5 (.int .u8 0) 1 1 eb Tryz.underlying135 byteInfo rfl (by decide) _ _ rfl (hown.alloc _) ⟨wr.heap.size, 0, none⟩ 1 1 [34] rfl rfl rfl (new_cells _ [bv 34] _) (eb_one [34]) (by simp only [List.length_cons, maxLen]; omega) (by simp only [List.length_cons]; omega) (bel_size hbel (Nat.le_refl _) _) ?_); intro v1 w1 hown1 hg1; have hb1 := bel_append hbel (Nat.le_refl _) hown hg1; have hrs := run_string_own (dst := 9) Tryz.underlying135 Tryz.underlying5 Tryz.underlying9 (by rw [← eb_map]; exact hown1))
      go_ret2
      exact ⟨.inl ⟨HA.out, rfl⟩, hb1⟩
set_option maxRecDepth 20000
namespace Tok
def unq : List UInt8 → Option (List UInt8)
  | [] => some []
  | c :: r => if c == 92 then (match r with | [] => none | d :: r' => if plainB d then (unq r').map (d :: ·) else none)
    else if c == 34 then none else if plainB c then (unq r).map (c :: ·) else none
def unquoteL (l : List UInt8) : Option (List UInt8) := if l.length < 2 || l[0]? != some 34 || l[l.length - 1]? != some 34 then none else unq ((l.drop 1).take (l.length - 2))
end Tok
def UnqEnd (l : List UInt8) (e : Ending) : Prop :=
  (Tok.unquoteL l = none ∧ e = .returned (.tuple #[.string ByteArray.empty, .int .i64 3])) ∨
  ∃ b, Tok.unquoteL l = some b ∧ ((1000 < b.length ∧ e = .returned (.tuple #[.string ByteArray.empty, .int .i64 2])) ∨ (b.length ≤ 1000 ∧ e = .returned (.tuple #[.string (mkS b), .int .i64 0])))
theorem unq_plain (c : UInt8) (l : List UInt8) (h1 : (c == 92) = false) (h2 : (c == 34) = false) (h3 : Tok.plainB c = true) : Tok.unq (c :: l) = (Tok.unq l).map (c :: ·) := by
  rw [Tok.unq.eq_def]; simp [h1, h2, h3]
theorem unq_bad (c : UInt8) (l : List UInt8) (h1 : (c == 92) = false) (h : (c == 34) = true ∨ Tok.plainB c = false) : Tok.unq (c :: l) = none := by
  rw [Tok.unq.eq_def]; simp only [h1, Bool.false_eq_true, if_false]
  rcases h with h | h <;> simp [h]
theorem unq_esc (c d : UInt8) (l : List UInt8) (h1 : (c == 92) = true) : Tok.unq (c :: d :: l) = if Tok.plainB d then (Tok.unq l).map (d :: ·) else none := by
  rw [Tok.unq.eq_def]; simp only [h1, if_true]
theorem unq_esc_end (c : UInt8) (h1 : (c == 92) = true) : Tok.unq [c] = none := by
  rw [Tok.unq.eq_def]; simp only [h1, if_true]
theorem map_snoc {o : Option (List UInt8)} {acc : List UInt8} {d : UInt8} : (o.map (d :: ·)).map (acc ++ ·) = o.map ((acc ++ [d]) ++ ·) := by
  cases o <;> simp
set_option maxHeartbeats 800000 in
theorem unquote_walk (s : ByteArray) (w : World) (hs : s.size ≤ 140737488351232) :
    Calls Tryz.prog 129 #[.string s] w fun e w' => UnqEnd (sl s) e ∧ Below w.heap.size w w' := by
  by_cases h2 : s.size < 2
  · go_enter Tryz.func129, Tryz.ntmps129
    go_wp2_with fail
    go_ret2
    exact ⟨.inl ⟨by unfold Tok.unquoteL; rw [sl_len]; simp [h2], rfl⟩, Below.refl _ _⟩
  · have g0 := Lib.hid (sl_getElem? s 0 (by omega))
    have g1 := Lib.hid (sl_getElem? s (s.size - 1) (by omega))
    by_cases c0 : ((s[0].toNat : Int) != 34) = true
    · go_enter Tryz.func129, Tryz.ntmps129
      go_wp2_with fail
      go_ret2
      refine ⟨.inl ⟨?_, rfl⟩, Below.refl _ _⟩
      have : s[0] ≠ 34 := by intro h; rw [h] at c0; simp at c0
      unfold Tok.unquoteL; rw [g0.out]; simp [this]
    · have c0' : ((s[0].toNat : Int) != 34) = false := by simpa using c0
      by_cases c1 : ((s[s.size - 1].toNat : Int) != 34) = true
      · clear c0
        go_enter Tryz.func129, Tryz.ntmps129
        go_wp2_with fail
        go_ret2
        refine ⟨.inl ⟨?_, rfl⟩, Below.refl _ _⟩
        have : s[s.size - 1] ≠ 34 := by intro h; rw [h] at c1; simp at c1
        unfold Tok.unquoteL; rw [sl_len, g1.out]; simp [this]
      · have c1' : ((s[s.size - 1].toNat : Int) != 34) = false := by simpa using c1
        have HU : Hid (Tok.unquoteL (sl s) = Tok.unq (((sl s).drop 1).take (s.size - 2))) := by
          show _ = _
          have e0 : s[0] = 34 := by rw [u8_eq]; simpa using c0
          have e1 : s[s.size - 1] = 34 := by rw [u8_eq]; simpa using c1
          unfold Tok.unquoteL; rw [sl_len, g0.out, g1.out, e0, e1]; simp; intro; omega
        clear c0 c1 g0 g1
        go_enter Tryz.func129, Tryz.ntmps129
        go_wp2_with fail
        go_loopw [0, 4] (fun t v wr => ∃ (r : ByteArray) (acc : List UInt8), t = .string r ∧ Owns wr w.heap.size 5 1 eb v acc ∧ acc.length + r.size ≤ s.size ∧ Tok.unquoteL (sl s) = (Tok.unq (sl r)).map (acc ++ ·) ∧ Below w.heap.size w wr) (fun t _ _ => strLen t)
        case atStart =>
          refine ⟨_, [], rfl, Owns.nil _ _ _ _ _, ?_, ?_, Below.refl _ _⟩
          · rw [ext_size _ _ _ (by omega)]; simp; omega
          · rw [sl_extract, HU.out, show s.size - 1 - 1 = s.size - 2 from by omega]; simp
        case round =>
          obtain ⟨r, acc, rfl, hown, hlen, heq, hbel⟩ := hrel
          have HQ := Lib.hid heq
          clear heq
          by_cases hr : r.size = 0
          · obtain rfl := empty_of_size r hr
            have hE : (!ByteArray.empty.toList.isEmpty) = false := by rw [ba_toList]; rfl
            have HF : Hid (Tok.unquoteL (sl s) = some acc) := by
              show _ = _
              rw [HQ.out, sl_empty]; simp [Tok.unq]
            have hrs := Lib.hid (fun (x : World) (h : Owns x w.heap.size 5 1 eb u4 acc) => run_string_own (dst := 9) Tryz.underlying135 Tryz.underlying5 Tryz.underlying9 (by rw [← eb_map]; exact h))
            have hrs' := hrs.out wr hown
            rcases hown.form with ⟨hv, ha⟩ | ⟨g, cap, hv⟩
            · subst hv ha
              go_wp2_with fail
              go_ret2
              exact ⟨.inr ⟨_, HF.out, .inr ⟨by simp, rfl⟩⟩, hbel⟩
            · subst hv
              by_cases h1000 : 1000 < acc.length
              · go_wp2_with fail
                go_ret2
                exact ⟨.inr ⟨_, HF.out, .inl ⟨h1000, rfl⟩⟩, hbel⟩
              · go_wp2_with fail
                go_ret2
                exact ⟨.inr ⟨_, HF.out, .inr ⟨by omega, rfl⟩⟩, hbel⟩
          · have hr0 : 0 < r.size := by omega
            have hE : (!r.toList.isEmpty) = true := by rw [isEmpty_no r hr0]; rfl
            have HC := Lib.hid (sl_cons r hr0)
            cases c92 : ((r[0].toNat : Int) == 92)
            · have k92 : Hid ((r[0] == 92) = false) := (u8_beq r[0] 92).symm.trans c92
              cases c34 : ((r[0].toNat : Int) == 34)
              · have k34 : Hid ((r[0] == 34) = false) := (u8_beq r[0] 34).symm.trans c34
                cases hp : Tok.plainB r[0]
                · go_wp2_with (go_at_call 194; refine (isPlain_any _ _).mono ?_; rintro e w' ⟨rfl, rfl⟩)
                  go_ret2
                  exact ⟨.inl ⟨by rw [HQ.out, HC.out, unq_bad _ _ k92.out (.inr hp)]; rfl, rfl⟩, hbel⟩
                · go_wp2_with (first | (go_at_call 194; refine (isPlain_any _ _).mono ?_; rintro e w' ⟨rfl, rfl⟩) | (at_builtin; go_must (refine wpList_append_owns rfl (.tmp 52) (.tmp 55) _ rfl w.heap.size 5 (.int .u8 0) 1 1 eb Tryz.underlying135 byteInfo rfl (by decide) _ _ rfl (hown.alloc _) ⟨wr.heap.size, 0, none⟩ 1 1 [r[0]] rfl rfl rfl (new_cells _ [bv r[0]] _) (eb_one [r[0]]) (by simp only [maxLen]; omega) (by omega) (bel_size hbel (Nat.le_refl _) _) ?_); intro v1 w1 hown1 hg1))
                  go_roundw
                  case rel => exact ⟨_, acc ++ [r[0]], rfl, hown1, by rw [ext_size _ _ _ (Nat.le_refl _)]; simp; omega, by rw [HQ.out, HC.out, unq_plain _ _ k92.out k34.out hp, map_snoc], bel_append hbel (Nat.le_refl _) hown hg1⟩
                  case measure => simp only [strLen]; rw [ext_size _ _ _ (Nat.le_refl _)]; omega
              · have k34 : Hid ((r[0] == 34) = true) := (u8_beq r[0] 34).symm.trans c34
                go_wp2_with fail
                go_ret2
                exact ⟨.inl ⟨by rw [HQ.out, HC.out, unq_bad _ _ k92.out (.inl k34.out)]; rfl, rfl⟩, hbel⟩
            · have k92 : Hid ((r[0] == 92) = true) := (u8_beq r[0] 92).symm.trans c92
              by_cases h1 : 1 < r.size
              · have hx : 0 < (r.extract 1 r.size).size := by rw [ext_size _ _ _ (Nat.le_refl _)]; omega
                have HD := Lib.hid (sl_cons (r.extract 1 r.size) hx)
                have hz : (r.extract 1 r.size).size = r.size - 1 := ext_size _ _ _ (Nat.le_refl _)
                have HZ := Lib.hid hz
                have HX : Hid ((r.extract 1 r.size).extract 1 (r.size - 1) = (r.extract 1 r.size).extract 1 (r.extract 1 r.size).size) := by show _ = _; rw [hz]
                clear hz
                cases hp : Tok.plainB (r.extract 1 r.size)[0]
                · go_wp2_with (go_at_call 194; refine (isPlain_any _ _).mono ?_; rintro e w' ⟨rfl, rfl⟩)
                  go_ret2
                  exact ⟨.inl ⟨by rw [HQ.out, HC.out, HD.out, unq_esc _ _ _ k92.out, hp]; rfl, rfl⟩, hbel⟩
                · go_wp2_with (first | (go_at_call 194; refine (isPlain_any _ _).mono ?_; rintro e w' ⟨rfl, rfl⟩) | (at_builtin; go_must (refine wpList_append_owns rfl (.tmp 52) (.tmp 55) _ rfl w.heap.size 5 (.int .u8 0) 1 1 eb Tryz.underlying135 byteInfo rfl (by decide) _ _ rfl (hown.alloc _) ⟨wr.heap.size, 0, none⟩ 1 1 [(r.extract 1 r.size)[0]] rfl rfl rfl (new_cells _ [bv (r.extract 1 r.size)[0]] _) (eb_one [(r.extract 1 r.size)[0]]) (by simp only [maxLen]; omega) (by omega) (bel_size hbel (Nat.le_refl _) _) ?_); intro v1 w1 hown1 hg1))
                  go_roundw
                  case rel => exact ⟨_, acc ++ [(r.extract 1 r.size)[0]], rfl, hown1, by rw [HX.out, ext_size _ _ _ (Nat.le_refl _), HZ.out]; simp; omega, by rw [HX.out, HQ.out, HC.out, HD.out, unq_esc _ _ _ k92.out, hp, if_pos rfl, map_snoc], bel_append hbel (Nat.le_refl _) hown hg1⟩
                  case measure => simp only [strLen]; rw [HX.out, ext_size _ _ _ (Nat.le_refl _), HZ.out]; omega
              · have HN : Hid (sl (r.extract 1 r.size) = []) := by
                  show _ = _
                  exact List.eq_nil_of_length_eq_zero (by rw [sl_len, ext_size _ _ _ (Nat.le_refl _)]; omega)
                go_wp2_with fail
                all_goals
                  go_ret2
                  exact ⟨.inl ⟨by rw [HQ.out, HC.out, HN.out, unq_esc_end _ k92.out]; rfl, rfl⟩, hbel⟩
end Go.Proofs.YtgjfhgcjiglfkaaGreatDoor
