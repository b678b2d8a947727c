/- target: the plain law TargetSame. -/
import Derived.Test.YthocoplaehbncaaDoorTargetQ
namespace Go.Proofs.YthocoplaehbncaaDoor
set_option maxRecDepth 20000
open Go.RowKit
namespace Tar
/-- What is read, and then more. -/
theorem norm_app {x a : List UInt8} (h : normL x = some a) (y : List UInt8) : normL (x ++ y) = (normL y).map (a ++ ·) :=
  sym_ind (P := fun x a => normL (x ++ y) = (normL y).map (a ++ ·)) (by rw [List.nil_append]; cases normL y <;> rfl)
    (fun c r b hc _ ih => by rw [List.cons_append, normL_plain hc, ih]; cases normL y <;> rfl)
    (fun c p q r b hc hp hq _ ih => by
      show normL (c :: p :: q :: (r ++ y)) = _
      rw [normL_esc hc hp hq, ih, map_app]) _ x a (Nat.le_refl _) h
theorem sg_both (c : UInt8) (b : List UInt8) : ∀ (a cur : List UInt8), sg c cur (a ++ c :: b) = sg c cur a ++ sg c [] b
  | [], cur => by rw [List.nil_append, sg_c, if_pos (by simp)]; rfl
  | x :: a, cur => by
    rw [List.cons_append, sg_c, sg_c]
    split
    · rw [sg_both c b a []]; rfl
    · rw [sg_both c b a _]
/-- Steps of which none is the last one. -/
def dotsG : List (List UInt8) → List (List UInt8) → List (List UInt8)
  | out, [] => out
  | out, s :: r => if s = [46, 46] then dotsG out.dropLast r else if s = [46] then dotsG out r else dotsG (out ++ [s]) r
theorem dotsG_n (out : List (List UInt8)) : dotsG out [] = out := rfl
theorem dotsG_c (out : List (List UInt8)) (s : List UInt8) (r : List (List UInt8)) : dotsG out (s :: r) = if s = [46, 46] then dotsG out.dropLast r else if s = [46] then dotsG out r else dotsG (out ++ [s]) r := rfl
theorem dotsF_c (out : List (List UInt8)) (s : List UInt8) (r : List (List UInt8)) : dotsF out (s :: r) = if s = [46, 46] then dotsF (out.dropLast ++ (if r.isEmpty then [[]] else [])) r else if s = [46] then dotsF (out ++ (if r.isEmpty then [[]] else [])) r else dotsF (out ++ [s]) r := rfl
theorem dots_app {l2 : List (List UInt8)} (h : l2 ≠ []) : ∀ (l1 out : List (List UInt8)), dotsF out (l1 ++ l2) = dotsF (dotsG out l1) l2
  | [], out => rfl
  | s :: r, out => by
    have he : (r ++ l2).isEmpty = false := by cases r <;> cases l2 <;> first | rfl | exact absurd rfl h
    rw [List.cons_append, dotsF_c, dotsG_c, he]
    simp only [Bool.false_eq_true, if_false, List.append_nil]
    split
    · exact dots_app h r _
    · split
      · exact dots_app h r _
      · exact dots_app h r _
/-- The steps of a path do not change by a step and one back, nor by a step that stays. -/
theorem dots_back (a b : List (List UInt8)) (hb : b ≠ []) : dotsF [] (a ++ ([[120], [46, 46]] ++ b)) = dotsF [] (a ++ b) := by
  rw [dots_app (by simp), dots_app hb, dots_app hb]
  have : dotsG (dotsG [] a) [[120], [46, 46]] = dotsG [] a := by
    rw [dotsG_c, if_neg (by decide), if_neg (by decide), dotsG_c, if_pos rfl, dotsG_n, List.dropLast_concat]
  rw [this]
theorem dots_stay (a b : List (List UInt8)) (hb : b ≠ []) : dotsF [] (a ++ ([[46]] ++ b)) = dotsF [] (a ++ b) := by
  rw [dots_app (by simp), dots_app hb, dots_app hb]
  have : dotsG (dotsG [] a) [[46]] = dotsG [] a := by
    rw [dotsG_c, if_neg (by decide), if_pos rfl, dotsG_n]
  rw [this]
/-- What Normal makes of the bytes in their one form. -/
def fin (b : List UInt8) : List UInt8 := dotsP (cutQ b).1 ++ (cutQ b).2
theorem normal_ok {l b : List UInt8} (hl : l.length ≤ 200) (hh : l.head? = some 47) (hn : normL l = some b) (hg : l.all goodB = true) : normalF l = .ok (fin b) := by
  unfold normalF fin
  rw [if_neg (by omega), if_neg (by rw [hh]; simp), hn]
  dsimp only
  rw [if_pos hg]
theorem normal_inv {l t : List UInt8} (h : normalF l = .ok t) : l.length ≤ 200 ∧ l.head? = some 47 ∧ l.all goodB = true ∧ ∃ b, normL l = some b ∧ t = fin b := by
  unfold normalF at h
  split at h
  · cases h
  · rename_i h1
    split at h
    · cases h
    · rename_i h2
      cases hb : normL l with
      | none => rw [hb] at h; cases h
      | some b =>
        rw [hb] at h
        dsimp only at h
        split at h
        · rename_i h3
          injection h with h
          exact ⟨by omega, Decidable.not_not.1 h2, h3, b, rfl, h.symm⟩
        · cases h
theorem cutQ_mid {a : List UInt8} (ha : (63 : UInt8) ∉ a) (b : List UInt8) : cutQ (a ++ b) = (a ++ (cutQ b).1, (cutQ b).2) := by
  unfold cutQ
  rcases cut_at 63 b with h | ⟨x, y, rfl, hx⟩
  · rw [cutC_none h, cutC_none (by rw [List.mem_append]; rintro (h1 | h1); exact ha h1; exact h h1)]
  · rw [cutC_some rfl hx, cutC_some (a := a ++ x) (b := y) (by simp) (by rw [List.mem_append]; rintro (h1 | h1); exact ha h1; exact hx h1)]
/-- Two parts of a path: with whatever steps between. -/
theorem fin_two {A B : List UInt8} (hA : (63 : UInt8) ∉ A) (M : List UInt8) (hM : (63 : UInt8) ∉ M) : fin (47 :: A ++ (M ++ 47 :: B)) = 47 :: Lib.join (dotsF [] (sg 47 [] (A ++ (M ++ 47 :: (cutQ B).1)))) [47] ++ (cutQ B).2 := by
  have h1 : (63 : UInt8) ∉ 47 :: A ++ (M ++ [47]) := by
    simp only [List.mem_append, List.mem_cons, List.not_mem_nil, or_false]
    rintro ((h | h) | h | h)
    · exact absurd h (by decide)
    · exact hA h
    · exact hM h
    · exact absurd h (by decide)
  have e : 47 :: A ++ (M ++ 47 :: B) = (47 :: A ++ (M ++ [47])) ++ B := by simp
  unfold fin
  rw [e, cutQ_mid h1]
  dsimp only
  unfold dotsP
  congr 1
  simp
theorem fin_same {A B : List UInt8} (hA : (63 : UInt8) ∉ A) : fin (47 :: A ++ ([47, 120, 47, 46, 46] ++ 47 :: B)) = fin (47 :: A ++ 47 :: B) ∧ fin (47 :: A ++ ([47, 46] ++ 47 :: B)) = fin (47 :: A ++ 47 :: B) := by
  have h0 := fin_two (B := B) hA [] (by simp)
  rw [List.nil_append, List.nil_append] at h0
  rw [fin_two hA _ (by decide), fin_two hA _ (by decide), h0]
  generalize (cutQ B).1 = P
  have hP : sg 47 [] P ≠ [] := sg_ne 47 P []
  have s0 : sg 47 [] (A ++ 47 :: P) = sg 47 [] A ++ sg 47 [] P := sg_both 47 P A []
  have s1 : sg 47 [] (A ++ ([47, 120, 47, 46, 46] ++ 47 :: P)) = sg 47 [] A ++ ([[120], [46, 46]] ++ sg 47 [] P) := by
    show sg 47 [] (A ++ 47 :: ([120] ++ 47 :: ([46, 46] ++ 47 :: P))) = _
    rw [sg_both, sg_hit _ _ (by decide), sg_hit _ _ (by decide)]; rfl
  have s2 : sg 47 [] (A ++ ([47, 46] ++ 47 :: P)) = sg 47 [] A ++ ([[46]] ++ sg 47 [] P) := by
    show sg 47 [] (A ++ 47 :: ([46] ++ 47 :: P)) = _
    rw [sg_both, sg_hit _ _ (by decide)]; rfl
  rw [s0, s1, s2, dots_back _ _ hP, dots_stay _ _ hP]
  exact ⟨rfl, rfl⟩
/-- TargetSame: steps. -/
theorem same_steps {a b t : List UInt8} (h : normalF ((47 :: a) ++ (47 :: b)) = .ok t) (ha : (63 : UInt8) ∉ 47 :: a) (hl : a.length + b.length ≤ 178) : normalF ((47 :: a) ++ [47, 120, 47, 46, 46] ++ (47 :: b)) = .ok t ∧ normalF ((47 :: a) ++ [47, 46] ++ (47 :: b)) = .ok t := by
  obtain ⟨-, -, hg, bb, hb, rfl⟩ := normal_inv h
  obtain ⟨na, nb, hna, hnb, rfl⟩ := norm_at s47.1 s47.2.1 hb
  obtain ⟨A, hA⟩ : ∃ A, na = 47 :: A := by
    rw [normL_plain s47.1] at hna
    obtain ⟨A, -, h2⟩ := Option.map_eq_some_iff.1 hna
    exact ⟨A, h2.symm⟩
  have h63 : (63 : UInt8) ∉ na := norm_no hna 63 (fun d => (esc_good d).2.1) ha
  rw [List.all_append, Bool.and_eq_true] at hg
  subst hA
  have h63A : (63 : UInt8) ∉ A := fun e => h63 (List.mem_cons_of_mem _ e)
  obtain ⟨f1, f2⟩ := fin_same (B := nb) h63A
  have hnb' : normL (47 :: b) = some (47 :: nb) := by rw [normL_plain s47.1, hnb]; rfl
  have key : ∀ M : List UInt8, M.all goodB = true → normL M = some M → M.length ≤ 5 → normalF ((47 :: a) ++ M ++ (47 :: b)) = .ok (fin (47 :: A ++ (M ++ 47 :: nb))) := by
    intro M hM hMn hMl
    refine normal_ok (by simp only [List.length_append, List.length_cons]; omega) rfl ?_ (by rw [List.all_append, List.all_append, hg.1, hM, hg.2]; rfl)
    rw [List.append_assoc, norm_app hna, norm_app hMn, hnb']
    rfl
  refine ⟨?_, ?_⟩
  · rw [key _ (by decide) (by rfl) (by decide), f1]
  · rw [key _ (by decide) (by rfl) (by decide), f2]
/-- TargetSame: a free sign, escaped. -/
theorem same_sign {x t : List UInt8} (h : normalF x = .ok t) (hl : x.length ≤ 180) (s p q : UInt8) (hs : freeB s = true) (hp : 0 ≤ digI p) (hq : 0 ≤ digI q) (hb : by16 p q = s) (hgs : goodB s = true) (hgp : goodB p = true) (hgq : goodB q = true) : ∃ u, normalF (x ++ [s]) = .ok u ∧ normalF (x ++ [37, p, q]) = .ok u := by
  obtain ⟨-, hh, hg, b, hn, -⟩ := normal_inv h
  have hes : esc s = [s] := by unfold esc; rw [if_pos hs]
  have h37 : (s == 37) = false := by rw [beq_eq_false_iff_ne]; rintro rfl; rw [free_37] at hs; cases hs
  have hhd : ∀ y : List UInt8, (x ++ y).head? = some 47 := by
    intro y
    cases x with
    | nil => cases hh
    | cons c x => exact hh
  refine ⟨fin (b ++ [s]), ?_, ?_⟩
  · refine normal_ok (by simp only [List.length_append, List.length_cons, List.length_nil]; omega) (hhd _) ?_ (by rw [List.all_append, hg, List.all_cons, hgs]; rfl)
    rw [norm_app hn, normL_plain h37]; rfl
  · refine normal_ok (by simp only [List.length_append, List.length_cons, List.length_nil]; omega) (hhd _) ?_ (by rw [List.all_append, hg, List.all_cons, List.all_cons, List.all_cons, hgp, hgq]; decide)
    rw [norm_app hn, normL_esc rfl hp hq, hb, hes]; rfl
end Tar
end Go.Proofs.YthocoplaehbncaaDoor
