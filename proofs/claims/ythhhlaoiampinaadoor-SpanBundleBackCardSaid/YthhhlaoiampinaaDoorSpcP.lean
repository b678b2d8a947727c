/- The plain law of a span's text: a number's decimal text is read as that number, and says it alone; what stands between the marks. -/
import Derived.Test.YthhhlaoiampinaaDoorBase
import Derived.Test.YthhhlaoiampinaaDoorCutC
import Derived.Lib.AtoiTie
import Derived.Lib.ItoaNum
namespace Go.Proofs.YthhhlaoiampinaaDoor
open Go.RowKit
namespace Spc
def nB (n : Int) : Bool := decide (0 ≤ n) && decide (n ≤ 99999)
theorem nB_bounds {n : Int} (h : nB n = true) : 0 ≤ n ∧ n ≤ 99999 := by simpa [nB] using h
theorem from_app (l m : List UInt8) : ∀ acc : Nat, Lib.decFrom acc (l ++ m) = (Lib.decFrom acc l).bind (fun a => Lib.decFrom a m) := by
  induction l with
  | nil => intro acc; rfl
  | cons c l ih =>
    intro acc
    simp only [List.cons_append, Lib.decFrom]
    cases Lib.digitVal c with
    | none => rfl
    | some d => exact ih _
theorem digit_val (d : Nat) (h : d < 10) : Lib.digitVal (UInt8.ofNat (48 + d)) = some d := by
  have : ∀ d, d < 10 → Lib.digitVal (UInt8.ofNat (48 + d)) = some d := by decide +kernel
  exact this d h
theorem from_dec : ∀ (n u : Nat), u ≤ n → Lib.decFrom 0 (Lib.decDigits u) = some u
  | n, u, hn => by
    rw [Lib.decDigits]
    split
    · rename_i h; simp only [Lib.decFrom, digit_val u h]; simp
    · rename_i h
      match n with
      | 0 => omega
      | n + 1 =>
        rw [from_app, from_dec n (u / 10) (by omega)]
        simp only [Option.bind_some, Lib.decFrom, digit_val (u % 10) (by omega)]
        congr 1; omega
theorem dec_ne (u : Nat) : Lib.decDigits u ≠ [] := by
  rw [Lib.decDigits]; split <;> simp
theorem dec_digits : ∀ (n u : Nat), u ≤ n → ∀ c ∈ Lib.decDigits u, 48 ≤ c.toNat ∧ c.toNat ≤ 57
  | n, u, hn => by
    have hd : ∀ d, d < 10 → 48 ≤ (UInt8.ofNat (48 + d)).toNat ∧ (UInt8.ofNat (48 + d)).toNat ≤ 57 := by decide +kernel
    rw [Lib.decDigits]
    split
    · rename_i h; intro c hc; rw [List.mem_singleton] at hc; subst hc; exact hd u h
    · rename_i h
      match n with
      | 0 => omega
      | n + 1 =>
        intro c hc
        rw [List.mem_append, List.mem_singleton] at hc
        rcases hc with hc | rfl
        · exact dec_digits n (u / 10) (by omega) c hc
        · exact hd _ (by omega)
theorem dec_len : ∀ (k u : Nat), u < 10 ^ (k + 1) → (Lib.decDigits u).length ≤ k + 1
  | k, u, h => by
    rw [Lib.decDigits]
    split
    · simp
    · rename_i h1
      match k with
      | 0 => omega
      | k + 1 =>
        rw [List.length_append, List.length_singleton]
        have := dec_len k (u / 10) (by rw [Nat.pow_succ] at h; omega)
        omega
theorem itoa_len {v : Int} (h : nB v = true) : (Lib.itoa v).length ≤ 5 := by
  obtain ⟨h0, h1⟩ := nB_bounds h
  unfold Lib.itoa
  rw [if_neg (by omega)]
  exact dec_len 4 _ (by omega)
theorem itoa_digits {v : Int} (h : nB v = true) : ∀ c ∈ Lib.itoa v, 48 ≤ c.toNat ∧ c.toNat ≤ 57 := by
  obtain ⟨h0, h1⟩ := nB_bounds h
  unfold Lib.itoa
  rw [if_neg (by omega)]
  exact dec_digits _ _ (Nat.le_refl _)
theorem atoi_itoa {v : Int} (h : nB v = true) : Lib.atoiAll (Lib.itoa v) = .ok v := by
  obtain ⟨h0, h1⟩ := nB_bounds h
  have hl := itoa_len h
  have hdg := itoa_digits h
  rw [Lib.atoiAll_short _ (by omega)]
  unfold Lib.itoa at hdg ⊢
  rw [if_neg (by omega)] at hdg ⊢
  have hf := from_dec v.toNat v.toNat (Nat.le_refl _)
  have hne := dec_ne v.toNat
  cases hd : Lib.decDigits v.toNat with
  | nil => exact absurd hd hne
  | cons c r =>
    rw [hd] at hf hdg
    have hc := hdg c (by simp)
    have e1 : (c == 45) = false := by rw [beq_eq_false_iff_ne]; rintro rfl; revert hc; decide
    have e2 : (c == 43) = false := by rw [beq_eq_false_iff_ne]; rintro rfl; revert hc; decide
    have hat : Lib.atoi (c :: r) = some (v.toNat : Int) := by
      unfold Lib.atoi Lib.decNat
      dsimp only
      rw [e1, e2, hf]
      rfl
    rw [hat]
    show Lib.NumEnd.ok (v.toNat : Int) = _
    rw [Int.toNat_of_nonneg h0]
theorem itoa_inj {v u : Int} (hv : nB v = true) (hu : nB u = true) (h : Lib.itoa v = Lib.itoa u) : v = u := by
  have h1 := atoi_itoa hv
  rw [h, atoi_itoa hu] at h1
  injection h1 with h2
  exact h2.symm
/-- What number answers. -/
def NumR (p : List UInt8) (v : Int) (b : Bool) : Prop := (b = true ∧ nB v = true ∧ Lib.itoa v = p) ∨ (b = false ∧ ∀ u, nB u = true → Lib.itoa u ≠ p)
/-- What isContent says. -/
def conB (x y n : Int) : Bool := decide (0 ≤ x) && decide (x < y) && decide (y ≤ n) && decide (n ≤ 99999)
theorem conB_in {x y n : Int} (h : conB x y n = true) : 0 ≤ x ∧ x < y ∧ y ≤ n ∧ n ≤ 99999 := by simpa [conB, and_assoc] using h
theorem conB_num {x y n : Int} (h : conB x y n = true) : nB x = true ∧ nB (y - 1) = true ∧ nB n = true := by
  have := conB_in h
  simp only [nB, Bool.and_eq_true, decide_eq_true_eq]
  omega
/-- The text of a span. -/
def conL (x y n : Int) : List UInt8 := [98, 121, 116, 101, 115, 32] ++ (Lib.itoa x ++ 45 :: (Lib.itoa (y - 1) ++ 47 :: Lib.itoa n))
/-- What ParseContent answers. -/
def ParC (s : List UInt8) (x y n e : Int) : Prop := (e = 0 ∧ conB x y n = true ∧ s = conL x y n) ∨ (e = 3 ∧ x = 0 ∧ y = 0 ∧ n = 0 ∧ ∀ x' y' n', conB x' y' n' = true → s ≠ conL x' y' n')
theorem not_in {v : Int} {c : UInt8} (h : nB v = true) (hc : ¬ (48 ≤ c.toNat ∧ c.toNat ≤ 57)) : c ∉ Lib.itoa v := fun hm => hc (itoa_digits h c hm)
/-- A text that says a span is cut so. -/
theorem con_cut {x y n : Int} (h : conB x y n = true) : cutC 47 (Lib.itoa x ++ 45 :: (Lib.itoa (y - 1) ++ 47 :: Lib.itoa n)) = some (Lib.itoa x ++ 45 :: Lib.itoa (y - 1), Lib.itoa n) ∧ cutC 45 (Lib.itoa x ++ 45 :: Lib.itoa (y - 1)) = some (Lib.itoa x, Lib.itoa (y - 1)) := by
  obtain ⟨h1, h2, h3⟩ := conB_num h
  refine ⟨cutC_some (by simp) ?_, cutC_some rfl (not_in h1 (by decide))⟩
  intro hm
  rw [List.mem_append, List.mem_cons] at hm
  rcases hm with hm | hm | hm
  · exact not_in h1 (by decide) hm
  · exact absurd hm (by decide)
  · exact not_in h2 (by decide) hm
theorem conL_inj {x y n x' y' n' : Int} (h : conB x y n = true) (h' : conB x' y' n' = true) (he : conL x y n = conL x' y' n') : x = x' ∧ y = y' ∧ n = n' := by
  unfold conL at he
  have he := List.append_cancel_left he
  obtain ⟨c1, c2⟩ := con_cut h
  obtain ⟨d1, d2⟩ := con_cut h'
  rw [he, d1] at c1
  injection c1 with c1
  injection c1 with e1 e2
  rw [← e1, d2] at c2
  injection c2 with c2
  injection c2 with e3 e4
  obtain ⟨a1, a2, a3⟩ := conB_num h
  obtain ⟨b1, b2, b3⟩ := conB_num h'
  have q1 := itoa_inj b1 a1 e3
  have q2 := itoa_inj b2 a2 e4
  have q3 := itoa_inj b3 a3 e2
  omega
/-- The steps of ParseContent, on lists. -/
theorem par_of {s r l all f t : List UInt8} {x y n : Int} {is sl' da a b c : Bool}
    (hp : (is = true ∧ s = [98, 121, 116, 101, 115, 32] ++ r) ∨ (is = false ∧ ∀ r', s ≠ [98, 121, 116, 101, 115, 32] ++ r'))
    (h1 : (sl' = true ∧ cutC 47 r = some (l, all)) ∨ (sl' = false ∧ cutC 47 r = none))
    (h2 : (da = true ∧ cutC 45 l = some (f, t)) ∨ (da = false ∧ cutC 45 l = none))
    (ha : NumR f x a) (hb : NumR t y b) (hc : NumR all n c) :
    (is = true → sl' = true → da = true → a = true → b = true → c = true → conB x (y + 1) n = true → s = conL x (y + 1) n) ∧
    ((is && sl' && da && a && b && c && conB x (y + 1) n) = false → ∀ x' y' n', conB x' y' n' = true → s ≠ conL x' y' n') := by
  constructor
  · rintro rfl rfl rfl rfl rfl rfl hq
    rcases hp with ⟨_, rfl⟩ | ⟨h, _⟩
    · rcases h1 with ⟨_, h1⟩ | ⟨h, _⟩
      · rcases h2 with ⟨_, h2⟩ | ⟨h, _⟩
        · rcases ha with ⟨_, _, ha⟩ | ⟨h, _⟩
          · rcases hb with ⟨_, _, hb⟩ | ⟨h, _⟩
            · rcases hc with ⟨_, _, hc⟩ | ⟨h, _⟩
              · unfold conL
                rw [(cutC_text h1).1, (cutC_text h2).1, ha, hc, show y + 1 - 1 = y by omega, hb]
                simp
              · cases h
            · cases h
          · cases h
        · cases h
      · cases h
    · cases h
  · intro hf x' y' n' hq hs
    obtain ⟨n1, n2, n3⟩ := conB_num hq
    obtain ⟨c1, c2⟩ := con_cut hq
    rcases hp with ⟨rfl, hp⟩ | ⟨_, hp⟩
    · unfold conL at hs
      rw [hs] at hp
      have hp := List.append_cancel_left hp
      rw [← hp, c1] at h1
      rcases h1 with ⟨rfl, h1⟩ | ⟨_, h1⟩
      · injection h1 with h1
        injection h1 with e1 e2
        subst e1 e2
        rw [c2] at h2
        rcases h2 with ⟨rfl, h2⟩ | ⟨_, h2⟩
        · injection h2 with h2
          injection h2 with e1 e2
          subst e1 e2
          rcases ha with ⟨rfl, a1, a2⟩ | ⟨_, ha⟩
          · rcases hb with ⟨rfl, b1, b2⟩ | ⟨_, hb⟩
            · rcases hc with ⟨rfl, d1, d2⟩ | ⟨_, hc⟩
              · have q1 := itoa_inj a1 n1 a2
                have q2 := itoa_inj b1 n2 b2
                have q3 := itoa_inj d1 n3 d2
                subst q1 q3
                rw [show y + 1 = y' by omega, hq] at hf
                simp at hf
              · exact hc _ n3 rfl
            · exact hb _ n2 rfl
          · exact ha _ n1 rfl
        · cases h2
      · cases h1
    · exact hp _ (by unfold conL at hs; exact hs)
end Spc
end Go.Proofs.YthhhlaoiampinaaDoor
