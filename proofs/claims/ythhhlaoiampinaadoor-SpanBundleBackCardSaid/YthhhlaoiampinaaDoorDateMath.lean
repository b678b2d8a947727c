/- The calendar in plain numbers: which dates there are, the number of a day, the day of a number; that the two are one for one, that the numbers are ordered as the dates are, what the next day is. -/
namespace Go.Proofs.YthhhlaoiampinaaDoor.Cal

def leapB (y : Int) : Bool := y % 4 == 0 && (y % 100 != 0 || y % 400 == 0)
def mdays (y m : Int) : Int := if m = 4 ∨ m = 6 ∨ m = 9 ∨ m = 11 then 30 else if m = 2 then (if leapB y = true then 29 else 28) else 31
def vld (y m d : Int) : Bool := decide (1970 ≤ y ∧ y ≤ 9999 ∧ 1 ≤ m ∧ m ≤ 12 ∧ 1 ≤ d ∧ d ≤ mdays y m)
def yy (y m : Int) : Int := if m < 3 then y - 1 else y
def mm (m : Int) : Int := if m < 3 then m + 9 else m - 3
def num (y m d : Int) : Int := yy y m * 365 + yy y m / 4 - yy y m / 100 + yy y m / 400 + (153 * mm m + 2) / 5 + d - 1 - 719468

theorem leap_iff (y : Int) : leapB y = true ↔ (y % 4 = 0 ∧ (y % 100 ≠ 0 ∨ y % 400 = 0)) := by
  simp [leapB, bne_iff_ne]

/-- The first day of a year. -/
def ys (y : Int) : Int := (y - 1) * 365 + (y - 1) / 4 - (y - 1) / 100 + (y - 1) / 400 - 719162
/-- The days of a year ahead of a month. -/
def cum (y m : Int) : Int := (153 * (if m < 3 then m + 9 else m - 3) + 2) / 5 - 306 + (if m < 3 then 0 else if leapB y = true then 366 else 365)

theorem num_eq (y m d : Int) : num y m d = ys y + cum y m + d - 1 := by
  have hl := leap_iff y
  unfold num ys cum yy mm
  by_cases h : leapB y = true
  · have := hl.1 h
    by_cases hm : m < 3 <;> simp only [h, hm, if_true, if_false] <;> omega
  · have : ¬ (y % 4 = 0 ∧ (y % 100 ≠ 0 ∨ y % 400 = 0)) := fun x => h (hl.2 x)
    by_cases hm : m < 3 <;> simp only [h, hm, if_true, if_false, Bool.false_eq_true] <;> omega

theorem ys_succ (y : Int) : ys (y + 1) = ys y + (if leapB y = true then 366 else 365) := by
  have hl := leap_iff y
  unfold ys
  by_cases h : leapB y = true
  · have := hl.1 h
    simp only [h, if_true]; omega
  · have : ¬ (y % 4 = 0 ∧ (y % 100 ≠ 0 ∨ y % 400 = 0)) := fun x => h (hl.2 x)
    simp only [h, if_false, Bool.false_eq_true]; omega

theorem ys_mono (y z : Int) (h : y ≤ z) : ys y ≤ ys z := by unfold ys; omega

theorem m_cases {m : Int} (h1 : 1 ≤ m) (h2 : m ≤ 12) : m = 1 ∨ m = 2 ∨ m = 3 ∨ m = 4 ∨ m = 5 ∨ m = 6 ∨ m = 7 ∨ m = 8 ∨ m = 9 ∨ m = 10 ∨ m = 11 ∨ m = 12 := by omega

theorem cum_succ (y m : Int) (h1 : 1 ≤ m) (h2 : m ≤ 11) : cum y (m + 1) = cum y m + mdays y m := by
  unfold cum mdays
  rcases m_cases h1 (by omega) with rfl | rfl | rfl | rfl | rfl | rfl | rfl | rfl | rfl | rfl | rfl | rfl <;> by_cases h : leapB y = true <;> simp [h] at h2 ⊢

theorem cum_last (y : Int) : cum y 12 + mdays y 12 = (if leapB y = true then 366 else 365) := by
  unfold cum mdays
  by_cases h : leapB y = true <;> simp [h]

theorem cum_one (y : Int) : cum y 1 = 0 := by unfold cum; simp

theorem mdays_bd (y m : Int) : 28 ≤ mdays y m ∧ mdays y m ≤ 31 := by
  unfold mdays
  split
  · omega
  · split
    · split <;> omega
    · omega

theorem cum_mono (y m k : Int) (h1 : 1 ≤ m) (h : m < k) (h2 : k ≤ 12) : cum y m + mdays y m ≤ cum y k := by
  obtain ⟨n, hn⟩ : ∃ n : Nat, k = m + 1 + n := ⟨(k - m - 1).toNat, by omega⟩
  subst hn
  induction n with
  | zero => have := cum_succ y m h1 (by omega); simp; omega
  | succ n ih =>
    have i := ih (by omega) (by omega)
    have s := cum_succ y (m + 1 + n) (by omega) (by omega)
    have b := mdays_bd y (m + 1 + n)
    have e : m + 1 + ((n + 1 : Nat) : Int) = m + 1 + n + 1 := by omega
    rw [e, s]; omega

theorem vld_iff (y m d : Int) : vld y m d = true ↔ (1970 ≤ y ∧ y ≤ 9999 ∧ 1 ≤ m ∧ m ≤ 12 ∧ 1 ≤ d ∧ d ≤ mdays y m) := by simp [vld]

/-- A day lies within its month, and a month within its year. -/
theorem num_in (y m d : Int) (h : vld y m d = true) : ys y + cum y m ≤ num y m d ∧ num y m d < ys y + cum y m + mdays y m ∧ 0 ≤ cum y m ∧ ys y + cum y m + mdays y m ≤ ys (y + 1) := by
  obtain ⟨_, _, h1, h2, h3, h4⟩ := (vld_iff y m d).1 h
  have e := num_eq y m d
  have s := ys_succ y
  have l := cum_last y
  have o := cum_one y
  have b := mdays_bd y m
  have b1 := mdays_bd y 1
  have b12 := mdays_bd y 12
  have p : 0 ≤ cum y m := by
    by_cases hm : m = 1
    · subst hm; omega
    · have := cum_mono y 1 m (by omega) (by omega) h2; omega
  have q : cum y m + mdays y m ≤ cum y 12 + mdays y 12 := by
    by_cases hm : m = 12
    · subst hm; omega
    · have := cum_mono y m 12 h1 (by omega) (by omega); omega
  refine ⟨by omega, by omega, p, by omega⟩

theorem num_range (y m d : Int) (h : vld y m d = true) : 0 ≤ num y m d ∧ num y m d ≤ 2932896 := by
  have a := num_in y m d h
  obtain ⟨h1, h2, _⟩ := (vld_iff y m d).1 h
  have e1 := ys_mono 1970 y h1
  have e2 := ys_mono (y + 1) 10000 (by omega)
  have f1 : ys 1970 = 0 := by decide
  have f2 : ys 10000 = 2932897 := by decide
  omega

def ahead (y m d z k c : Int) : Prop := y < z ∨ (y = z ∧ (m < k ∨ (m = k ∧ d < c)))

theorem num_lt {y m d z k c : Int} (h : vld y m d = true) (g : vld z k c = true) (a : ahead y m d z k c) : num y m d < num z k c := by
  have p := num_in y m d h
  have q := num_in z k c g
  obtain ⟨_, _, h1, h2, _⟩ := (vld_iff y m d).1 h
  obtain ⟨_, _, g1, g2, _⟩ := (vld_iff z k c).1 g
  rcases a with a | ⟨rfl, a | ⟨rfl, a⟩⟩
  · have := ys_mono (y + 1) z (by omega); omega
  · have := cum_mono y m k h1 a g2; omega
  · have e1 := num_eq y m d; have e2 := num_eq y m c; omega

theorem num_lt_iff {y m d z k c : Int} (h : vld y m d = true) (g : vld z k c = true) : num y m d < num z k c ↔ ahead y m d z k c := by
  refine ⟨fun l => ?_, num_lt h g⟩
  by_cases a : ahead y m d z k c
  · exact a
  · by_cases b : ahead z k c y m d
    · have := num_lt g h b; omega
    · have : y = z ∧ m = k ∧ d = c := by unfold ahead at a b; omega
      obtain ⟨rfl, rfl, rfl⟩ := this
      omega

theorem num_inj {y m d z k c : Int} (h : vld y m d = true) (g : vld z k c = true) (e : num y m d = num z k c) : y = z ∧ m = k ∧ d = c := by
  have a : ¬ ahead y m d z k c := fun x => by have := num_lt h g x; omega
  have b : ¬ ahead z k c y m d := fun x => by have := num_lt g h x; omega
  unfold ahead at a b
  omega

/-! ### The day of a number -/
def cR (n : Int) : Int := (n + 719468) % 146097
def cEra (n : Int) : Int := (n + 719468) / 146097
def cY (n : Int) : Int := (cR n - cR n / 1460 + cR n / 36524 - cR n / 146096) / 365
def cN (n : Int) : Int := cR n - (cY n * 365 + cY n / 4 - cY n / 100)
def cM (n : Int) : Int := (5 * cN n + 2) / 153
def cd (n : Int) : Int := cN n - (153 * cM n + 2) / 5 + 1
def cm (n : Int) : Int := if 12 < cM n + 3 then cM n + 3 - 12 else cM n + 3
def cy (n : Int) : Int := if 12 < cM n + 3 then cEra n * 400 + cY n + 1 else cEra n * 400 + cY n

theorem year_of (r y : Int) (h0 : 0 ≤ r) (h1 : r < 146097) (hy : y = (r - r / 1460 + r / 36524 - r / 146096) / 365) :
    0 ≤ y ∧ y ≤ 399 ∧ y * 365 + y / 4 - y / 100 ≤ r ∧ r < (y + 1) * 365 + (y + 1) / 4 - (y + 1) / 100 + (y + 1) / 400 := by
  have hb : r / 36524 = 0 ∨ r / 36524 = 1 ∨ r / 36524 = 2 ∨ r / 36524 = 3 ∨ r = 146096 := by omega
  have hc : r = 146096 ∨ r / 146096 = 0 := by omega
  rcases hc with rfl | hc
  · have : y = 399 := by omega
    subst this; omega
  rw [hc] at hy
  have key : ∀ b : Int, 0 ≤ b → b ≤ 3 → r / 36524 = b → 0 ≤ y ∧ y ≤ 399 ∧ y * 365 + y / 4 - y / 100 ≤ r ∧ r < (y + 1) * 365 + (y + 1) / 4 - (y + 1) / 100 + (y + 1) / 400 := by
    intro b b0 b3 hb
    rw [hb] at hy
    obtain ⟨a, ha⟩ : ∃ a, a = r / 1460 := ⟨_, rfl⟩
    rw [← ha] at hy
    have i1 : 1460 * a ≤ r := by omega
    have i2 : r ≤ 1460 * a + 1459 := by omega
    have j1 : 365 * y ≤ r - a + b := by omega
    have j2 : r - a + b ≤ 365 * y + 364 := by omega
    have k1 : 36524 * b ≤ r := by omega
    have k2 : r ≤ 36524 * b + 36523 := by omega
    clear hb hy ha
    have hp : y / 100 = b := by
      have : 100 * b ≤ y ∧ y ≤ 100 * b + 99 := by
        have : b = 0 ∨ b = 1 ∨ b = 2 ∨ b = 3 := by omega
        rcases this with rfl | rfl | rfl | rfl <;> omega
      omega
    obtain ⟨q, s, hs, hq, s0, s3⟩ : ∃ q s, y = 4 * q + s ∧ y / 4 = q ∧ 0 ≤ s ∧ s ≤ 3 := ⟨y / 4, y % 4, by omega, rfl, by omega, by omega⟩
    rw [hp, hq]
    have e1 : q ≤ a := by omega
    have e2 : a ≤ q + 1 := by omega
    have hs' : s = 0 ∨ s = 1 ∨ s = 2 ∨ s = 3 := by omega
    subst hs
    have hp' : 100 * b ≤ 4 * q + s ∧ 4 * q + s ≤ 100 * b + 99 := by omega
    clear hp hq
    refine ⟨by omega, by omega, ?_, ?_⟩
    · rcases hs' with rfl | rfl | rfl | rfl <;> omega
    · have h4 : 0 ≤ (4 * q + s + 1) / 400 := by omega
      by_cases hl : 4 * q + s = 100 * b + 99
      · have g1 : (4 * q + s + 1) / 100 = b + 1 := by omega
        have g2 : (4 * q + s + 1) / 4 = 25 * (b + 1) := by omega
        rw [g1, g2]; omega
      · have g1 : (4 * q + s + 1) / 100 = b := by omega
        rw [g1]
        clear hl k1 k2
        rcases hs' with rfl | rfl | rfl | rfl
        · have g2 : (4 * q + 0 + 1) / 4 = q := by omega
          rw [g2]; omega
        · have g2 : (4 * q + 1 + 1) / 4 = q := by omega
          rw [g2]; omega
        · have g2 : (4 * q + 2 + 1) / 4 = q := by omega
          rw [g2]; omega
        · have g2 : (4 * q + 3 + 1) / 4 = q + 1 := by omega
          rw [g2]; omega
  rcases hb with hb | hb | hb | hb | hb
  · exact key 0 (by omega) (by omega) hb
  · exact key 1 (by omega) (by omega) hb
  · exact key 2 (by omega) (by omega) hb
  · exact key 3 (by omega) (by omega) hb
  · omega

theorem num_in' (y m d : Int) (h1 : 1 ≤ m) (h2 : m ≤ 12) (h3 : 1 ≤ d) (h4 : d ≤ mdays y m) : ys y + cum y m ≤ num y m d ∧ num y m d < ys y + cum y m + mdays y m ∧ 0 ≤ cum y m ∧ ys y + cum y m + mdays y m ≤ ys (y + 1) := by
  have e := num_eq y m d
  have s := ys_succ y
  have l := cum_last y
  have o := cum_one y
  have b := mdays_bd y m
  have b1 := mdays_bd y 1
  have b12 := mdays_bd y 12
  have p : 0 ≤ cum y m := by
    by_cases hm : m = 1
    · subst hm; omega
    · have := cum_mono y 1 m (by omega) (by omega) h2; omega
  have q : cum y m + mdays y m ≤ cum y 12 + mdays y 12 := by
    by_cases hm : m = 12
    · subst hm; omega
    · have := cum_mono y m 12 h1 (by omega) (by omega); omega
  refine ⟨by omega, by omega, p, by omega⟩

theorem civ_core (n era r y rem M : Int) (he : n + 719468 = 146097 * era + r) (y0 : 0 ≤ y) (y1 : y ≤ 399)
    (hrem : rem = r - (y * 365 + y / 4 - y / 100)) (r0 : 0 ≤ rem) (r1 : r < (y + 1) * 365 + (y + 1) / 4 - (y + 1) / 100 + (y + 1) / 400) (hM : M = (5 * rem + 2) / 153) (Y m : Int)
    (hY : Y = if 12 < M + 3 then era * 400 + y + 1 else era * 400 + y) (hm : m = if 12 < M + 3 then M + 3 - 12 else M + 3) :
    0 ≤ M ∧ M ≤ 11 ∧ 1 ≤ m ∧ m ≤ 12 ∧ 1 ≤ rem - (153 * M + 2) / 5 + 1 ∧ rem - (153 * M + 2) / 5 + 1 ≤ mdays Y m ∧ num Y m (rem - (153 * M + 2) / 5 + 1) = n := by
  have M0 : 0 ≤ M := by omega
  have M1 : M ≤ 11 := by omega
  refine ⟨M0, M1, ?_⟩
  have hc : M = 0 ∨ M = 1 ∨ M = 2 ∨ M = 3 ∨ M = 4 ∨ M = 5 ∨ M = 6 ∨ M = 7 ∨ M = 8 ∨ M = 9 ∨ M = 10 ∨ M = 11 := by omega
  have hl := leap_iff Y
  have i1 : (era * 400 + y) / 4 = era * 100 + y / 4 := by omega
  have i2 : (era * 400 + y) / 100 = era * 4 + y / 100 := by omega
  have i3 : (era * 400 + y) / 400 = era := by omega
  have fin : num Y m (rem - (153 * M + 2) / 5 + 1) = n := by
    have e1 : yy Y m = era * 400 + y := by
      unfold yy; subst hY hm
      by_cases h : 12 < M + 3 <;> simp only [h, if_true, if_false] <;> split <;> omega
    have e2 : mm m = M := by
      unfold mm; subst hm
      by_cases h : 12 < M + 3 <;> simp only [h, if_true, if_false] <;> split <;> omega
    unfold num
    rw [e1, e2, i1, i2, i3]
    omega
  refine ⟨?_, ?_, ?_, ?_, fin⟩
  · subst hm; split <;> omega
  · subst hm; split <;> omega
  · omega
  · unfold mdays
    by_cases h11 : M = 11
    · subst h11
      rw [if_pos (by omega)] at hY hm
      subst hm
      rw [if_neg (by omega), if_pos (by omega)]
      by_cases h : leapB Y = true
      · rw [if_pos h]
        have hd : (y + 1) / 4 ≤ y / 4 + 1 ∧ y / 100 ≤ (y + 1) / 100 := by omega
        have h4 : (y + 1) / 400 = 0 ∨ ((y + 1) / 400 = 1 ∧ (y + 1) / 100 = y / 100 + 1) := by omega
        omega
      · rw [if_neg h]
        have hn : ¬ (Y % 4 = 0 ∧ (Y % 100 ≠ 0 ∨ Y % 400 = 0)) := fun x => h (hl.2 x)
        have hd : (y + 1) / 4 - (y + 1) / 100 + (y + 1) / 400 = y / 4 - y / 100 := by subst hY; omega
        omega
    · rcases hc with rfl | rfl | rfl | rfl | rfl | rfl | rfl | rfl | rfl | rfl | rfl | rfl <;> simp at hm <;> subst hm <;> simp <;> first | omega | exact absurd rfl h11

theorem civ_ok (n : Int) (h0 : 0 ≤ n) (h1 : n ≤ 2932896) : vld (cy n) (cm n) (cd n) = true ∧ num (cy n) (cm n) (cd n) = n := by
  have hr : 0 ≤ cR n ∧ cR n < 146097 := by unfold cR; omega
  have hy := year_of (cR n) (cY n) hr.1 hr.2 rfl
  have k := civ_core n (cEra n) (cR n) (cY n) (cN n) (cM n) (by unfold cEra cR; omega) hy.1 hy.2.1 rfl (by unfold cN; omega) hy.2.2.2 rfl (cy n) (cm n) rfl rfl
  obtain ⟨_, _, a, b, c, d, e⟩ := k
  have e' : num (cy n) (cm n) (cd n) = n := e
  have hi := num_in' (cy n) (cm n) (cd n) a b c d
  refine ⟨(vld_iff _ _ _).2 ⟨?_, ?_, a, b, c, d⟩, e'⟩
  · by_cases h : 1970 ≤ cy n
    · exact h
    · have := ys_mono (cy n + 1) 1970 (by omega)
      have f1 : ys 1970 = 0 := by decide
      omega
  · by_cases h : cy n ≤ 9999
    · exact h
    · have := ys_mono 10000 (cy n) (by omega)
      have f2 : ys 10000 = 2932897 := by decide
      omega

theorem civ_num {y m d : Int} (h : vld y m d = true) : cy (num y m d) = y ∧ cm (num y m d) = m ∧ cd (num y m d) = d := by
  have r := num_range y m d h
  have c := civ_ok (num y m d) r.1 r.2
  exact num_inj c.1 h c.2

/-- The next day: of the same month, or the first of the next month, or of the next year. -/
theorem civ_next (n : Int) (h0 : 0 ≤ n) (h1 : n < 2932896) :
    (cy (n + 1) = cy n ∧ cm (n + 1) = cm n ∧ cd (n + 1) = cd n + 1 ∧ cd n + 1 ≤ 31) ∨
    (cy (n + 1) = cy n ∧ cm (n + 1) = cm n + 1 ∧ cd (n + 1) = 1 ∧ 28 ≤ cd n ∧ cd n ≤ 31) ∨
    (cy (n + 1) = cy n + 1 ∧ cm n = 12 ∧ cm (n + 1) = 1 ∧ cd (n + 1) = 1 ∧ 28 ≤ cd n ∧ cd n ≤ 31) := by
  obtain ⟨v, e⟩ := civ_ok n h0 (by omega)
  obtain ⟨v', e'⟩ := civ_ok (n + 1) (by omega) (by omega)
  obtain ⟨a1, a2, a3, a4, a5, a6⟩ := (vld_iff _ _ _).1 v
  have b := mdays_bd (cy n) (cm n)
  have q1 := num_eq (cy n) (cm n) (cd n)
  by_cases c1 : cd n < mdays (cy n) (cm n)
  · left
    have w : vld (cy n) (cm n) (cd n + 1) = true := (vld_iff _ _ _).2 ⟨a1, a2, a3, a4, by omega, by omega⟩
    have q2 := num_eq (cy n) (cm n) (cd n + 1)
    obtain ⟨x1, x2, x3⟩ := num_inj v' w (by omega)
    exact ⟨x1, x2, x3, by omega⟩
  · right
    by_cases c2 : cm n < 12
    · left
      have b' := mdays_bd (cy n) (cm n + 1)
      have w : vld (cy n) (cm n + 1) 1 = true := (vld_iff _ _ _).2 ⟨a1, a2, by omega, by omega, by omega, by omega⟩
      have q2 := num_eq (cy n) (cm n + 1) 1
      have q3 := cum_succ (cy n) (cm n) a3 (by omega)
      obtain ⟨x1, x2, x3⟩ := num_inj v' w (by omega)
      exact ⟨x1, x2, x3, by omega, by omega⟩
    · right
      have hm : cm n = 12 := by omega
      have b' := mdays_bd (cy n + 1) 1
      have s := ys_succ (cy n)
      have l := cum_last (cy n)
      have o := cum_one (cy n + 1)
      have q2 := num_eq (cy n + 1) 1 1
      rw [hm] at q1 c1 b
      have hy : cy n + 1 ≤ 9999 := by
        by_cases h : cy n + 1 ≤ 9999
        · exact h
        · have h9 : cy n = 9999 := by omega
          have f2 : ys 10000 = 2932897 := by decide
          rw [h9] at s l q1 c1
          rw [hm, h9] at e
          simp only [show (9999 : Int) + 1 = 10000 from rfl] at s
          omega
      have w : vld (cy n + 1) 1 1 = true := (vld_iff _ _ _).2 ⟨by omega, by omega, by omega, by omega, by omega, by omega⟩
      rw [hm] at e a6
      obtain ⟨x1, x2, x3⟩ := num_inj v' w (by omega)
      exact ⟨x1, hm, x2, x3, by omega, by omega⟩

/-- 400 years on: 146097 days. -/
theorem num_cycle (y m d : Int) : num (y + 400) m d = num y m d + 146097 := by
  unfold num yy
  split <;> omega
theorem vld_cycle (y m : Int) : mdays (y + 400) m = mdays y m := by
  have a := leap_iff y
  have b := leap_iff (y + 400)
  have e : leapB (y + 400) = leapB y := by
    rw [Bool.eq_iff_iff, a, b]; omega
  unfold mdays; rw [e]
end Go.Proofs.YthhhlaoiampinaaDoor.Cal
