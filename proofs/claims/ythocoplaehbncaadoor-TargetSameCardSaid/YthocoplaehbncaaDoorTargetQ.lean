/- target: the plain laws TargetOnce and TargetDots. -/
import Derived.Test.YthocoplaehbncaaDoorTargetP
namespace Go.Proofs.YthocoplaehbncaaDoor
set_option maxRecDepth 20000
open Go.RowKit
namespace Tar
def cutQ (b : List UInt8) : List UInt8 × List UInt8 := match cutC 63 b with | none => (b, []) | some (a, r) => (a, 63 :: r)
def normalF (l : List UInt8) : Except Int (List UInt8) :=
  if 200 < l.length then .error 2
  else if l.head? ≠ some 47 then .error 3
  else match normL l with
    | none => .error 3
    | some b => if l.all goodB = true then .ok (dotsP (cutQ b).1 ++ (cutQ b).2) else .error 3
theorem normalF_code {l : List UInt8} {c : Int} (h : normalF l = .error c) : c = 2 ∨ c = 3 := by
  unfold normalF at h
  split at h
  · injection h; omega
  · split at h
    · injection h; omega
    · split at h
      · injection h; omega
      · split at h
        · cases h
        · injection h; omega
/-- What is normal. -/
structure Nf (t : List UInt8) (xs : List (List UInt8)) (q : List UInt8) : Prop where
  st : Steps xs
  eq : t = 47 :: Lib.join xs [47] ++ q
  q : q = [] ∨ ∃ y, q = 63 :: y ∧ normL y = some y ∧ y.all goodB = true
theorem cut_any_q (c : UInt8) (l : List UInt8) : c ∉ l ∨ ∃ a b, l = a ++ c :: b ∧ c ∉ a := cut_at c l
/-- A normal form, and what it was made of. -/
theorem nf_of {l t : List UInt8} (h : normalF l = .ok t) : ∃ b pr q, l.length ≤ 200 ∧ l.all goodB = true ∧ normL l = some b ∧ b = 47 :: pr ++ q ∧ Nf t (dotsF [] (sg 47 [] pr)) q ∧ normL (47 :: pr) = some (47 :: pr) ∧
    ((63 ∉ l ∧ q = []) ∨ ∃ lp lx y, l = lp ++ 63 :: lx ∧ 63 ∉ lp ∧ q = 63 :: y ∧ normL lx = some y) := by
  unfold normalF at h
  split at h
  · cases h
  · rename_i h200
    split at h
    · cases h
    · rename_i hhd
      have hhd : l.head? = some 47 := Decidable.not_not.1 hhd
      cases hb : normL l with
      | none => rw [hb] at h; cases h
      | some b =>
        rw [hb] at h
        dsimp only at h
        split at h
        · rename_i hg
          injection h with h
          obtain ⟨r, rfl⟩ : ∃ r, l = 47 :: r := by
            cases l with
            | nil => cases hhd
            | cons x r => simp only [List.head?_cons, Option.some.injEq] at hhd; exact ⟨r, by rw [hhd]⟩
          have hbg := norm_good hg hb
          have hbi := norm_idem hb
          have no63 : ∀ d, (63 : UInt8) ∉ esc d := fun d => (esc_good d).2.1
          -- the head of b
          have hb47 : ∃ rb, b = 47 :: rb := by
            have h2 : normL (([] : List UInt8) ++ 47 :: r) = some b := by rw [List.nil_append]; exact hb
            obtain ⟨a, z, ha, hz, he⟩ := norm_at s47.1 s47.2.1 h2
            injection ha with ha
            exact ⟨z, by rw [he, ← ha]; rfl⟩
          obtain ⟨rb, hrb⟩ := hb47
          rcases cut_at 63 (47 :: r) with hno | ⟨lp, lx, hl, hlp⟩
          · have hnb : (63 : UInt8) ∉ b := norm_no hb 63 no63 hno
            have hcq : cutQ b = (b, []) := by unfold cutQ; rw [cutC_none hnb]
            rw [hcq] at h
            dsimp only at h
            refine ⟨b, rb, [], by omega, hg, hb.symm ▸ rfl, by rw [hrb]; simp, ?_, by rw [← hrb]; exact hbi, .inl ⟨hno, rfl⟩⟩
            refine ⟨steps_of (p := b) hbi hbg hnb rb hrb, ?_, .inl rfl⟩
            rw [← h, List.append_nil, List.append_nil]
            unfold dotsP
            rw [hrb]; rfl
          · rw [hl] at hb
            obtain ⟨a, y, ha, hy, he⟩ := norm_at s47.2.2.1 s47.2.2.2 hb
            have hna : (63 : UInt8) ∉ a := norm_no ha 63 no63 hlp
            have hcq : cutQ b = (a, 63 :: y) := by unfold cutQ; rw [cutC_some he hna]
            rw [hcq] at h
            dsimp only at h
            have hag : a.all goodB = true ∧ y.all goodB = true := by
              rw [he, List.all_append, List.all_cons, Bool.and_eq_true, Bool.and_eq_true] at hbg
              exact ⟨hbg.1, hbg.2.2⟩
            obtain ⟨pr, hpr⟩ : ∃ pr, a = 47 :: pr := by
              cases a with
              | nil => rw [List.nil_append] at he; rw [he] at hrb; injection hrb with h1 _; exact absurd h1 (by decide)
              | cons x pr => rw [he] at hrb; injection hrb with h1 _; exact ⟨pr, by rw [h1]⟩
            refine ⟨b, pr, 63 :: y, by omega, hg, ?_, by rw [he, hpr], ?_, by rw [← hpr]; exact norm_idem ha, .inr ⟨lp, lx, y, hl, hlp, rfl, hy⟩⟩
            · rfl
            · refine ⟨steps_of (p := a) (norm_idem ha) hag.1 hna pr hpr, ?_, .inr ⟨y, rfl, norm_idem hy, hag.2⟩⟩
              rw [← h]
              unfold dotsP
              rw [hpr]; rfl
        · cases h
theorem nf_no63 {t : List UInt8} {xs : List (List UInt8)} {q : List UInt8} (h : Nf t xs q) : (63 : UInt8) ∉ 47 :: Lib.join xs [47] := by
  intro hm
  rcases List.mem_cons.1 hm with hm | hm
  · exact absurd hm (by decide)
  · exact (all_join (Q := fun c => c ≠ 63) (by decide) xs (fun s hs c hc => (h.st.good s hs c hc).2.1) 63 hm) rfl
theorem nf_cut {t : List UInt8} {xs : List (List UInt8)} {q : List UInt8} (h : Nf t xs q) : cutQ t = (47 :: Lib.join xs [47], q) := by
  have hn := nf_no63 h
  unfold cutQ
  rcases h.q with rfl | ⟨y, rfl, -, -⟩
  · rw [h.eq, List.append_nil, cutC_none hn]
  · rw [cutC_some h.eq hn]
theorem nf_norm {t : List UInt8} {xs : List (List UInt8)} {q : List UInt8} (h : Nf t xs q) : normL t = some t := by
  have hj := join_norm xs h.st.ne h.st.norm
  have h1 : normL (47 :: Lib.join xs [47]) = some (47 :: Lib.join xs [47]) := by
    rw [normL_plain s47.1, hj]; rfl
  rcases h.q with hq | ⟨y, hq, hy, -⟩
  · rw [h.eq, hq, List.append_nil]; exact h1
  · rw [h.eq, hq]
    exact norm_to s47.2.2.1 s47.2.2.2 h1 hy
theorem nf_good {t : List UInt8} {xs : List (List UInt8)} {q : List UInt8} (h : Nf t xs q) : t.all goodB = true := by
  have h1 : (47 :: Lib.join xs [47]).all goodB = true := by
    rw [List.all_cons, Bool.and_eq_true]
    refine ⟨by decide, List.all_eq_true.2 ?_⟩
    exact all_join (Q := fun c => goodB c = true) (by decide) xs (fun s hs c hc => (h.st.good s hs c hc).1)
  rw [h.eq, List.all_append, h1, Bool.true_and]
  rcases h.q with hq | ⟨y, hq, -, hg⟩
  · rw [hq]; rfl
  · rw [hq, List.all_cons, hg]; decide
theorem nf_id {t : List UInt8} {xs : List (List UInt8)} {q : List UInt8} (h : Nf t xs q) (hl : t.length ≤ 200) : normalF t = .ok t := by
  have hh : t.head? = some 47 := by rw [h.eq]; rfl
  unfold normalF
  rw [if_neg (by omega), if_neg (by rw [hh]; simp), nf_norm h]
  dsimp only
  rw [if_pos (nf_good h), nf_cut h]
  dsimp only
  have : dotsP (47 :: Lib.join xs [47]) = 47 :: Lib.join xs [47] := by
    unfold dotsP
    show 47 :: Lib.join (dotsF [] (sg 47 [] (Lib.join xs [47]))) [47] = _
    rw [sg_of_join 47 xs h.st.ne (fun s hs hm => (h.st.good s hs 47 hm).2.2 rfl), dots_keep _ _ h.st.dot, List.nil_append]
  rw [this, ← h.eq]
theorem seg_tot (pr : List UInt8) : tot List.length (sg 47 [] pr) = pr.length + 1 := by
  have := join_tot 47 (sg 47 [] pr) (sg_ne 47 pr [])
  rw [sg_join] at this
  rw [← this]; simp
/-- TargetOnce. -/
theorem once {l t : List UInt8} (h : normalF l = .ok t) : normalF t = .ok t ∧ t.head? = some 47 ∧ t.length ≤ l.length := by
  obtain ⟨b, pr, q, h2, hg, hb, he, hn, -, -⟩ := nf_of h
  have hlen := norm_len hb
  have h1 := dots_tot List.length rfl (sg 47 [] pr) []
  have h3 := join_tot 47 _ hn.st.ne
  rw [seg_tot] at h1
  have h4 : tot List.length [] = 0 := rfl
  have h5 := congrArg List.length hn.eq
  have h6 := congrArg List.length he
  simp only [List.length_append, List.length_cons] at h5 h6
  have : t.length ≤ l.length := by omega
  exact ⟨nf_id hn (by omega), by rw [hn.eq]; rfl, this⟩
/-! ### TargetDots. -/
def U (s : List UInt8) : Nat := match unescL s with | some a => a.length | none => 0
theorem join_unesc : ∀ l : List (List UInt8), l ≠ [] → (∀ s ∈ l, normL s = some s) → ∃ a, unescL (Lib.join l [47]) = some a ∧ a.length + 1 = tot U l
  | [], h, _ => absurd rfl h
  | [x], _, hc => by
    obtain ⟨-, a, ha⟩ := norm_unesc (hc x (by simp))
    exact ⟨a, by rw [Lib.join_one]; exact ha, by simp [tot, U, ha]⟩
  | x :: y :: l, _, hc => by
    obtain ⟨-, a, ha⟩ := norm_unesc (hc x (by simp))
    obtain ⟨b, hb, hl⟩ := join_unesc (y :: l) (by simp) (fun s hs => hc s (List.mem_cons_of_mem _ hs))
    refine ⟨a ++ 47 :: b, by rw [join_two]; exact unesc_to s47.1 s47.2.1 ha hb, ?_⟩
    have h : tot U (x :: y :: l) = a.length + 1 + tot U (y :: l) := by
      show (([x] ++ (y :: l)).map fun s => U s + 1).sum = _
      rw [List.map_append, List.sum_append]
      simp [tot, U, ha]
    rw [h, ← hl]
    simp only [List.length_append, List.length_cons]; omega
theorem steps_norm {pr : List UInt8} (h : normL (47 :: pr) = some (47 :: pr)) : ∀ s ∈ sg 47 [] pr, normL s = some s := by
  have h2 : normL (([] : List UInt8) ++ 47 :: pr) = some (47 :: pr) := by rw [List.nil_append]; exact h
  obtain ⟨a, z, ha, hz, he⟩ := norm_at s47.1 s47.2.1 h2
  injection ha with ha
  subst ha
  injection he with _ he
  subst he
  exact seg_norm _ pr pr (Nat.le_refl _) hz rfl
theorem dots_law {l t : List UInt8} (h : normalF l = .ok t) : (∀ s ∈ sg 47 [] (cutQ t).1, noDot s) ∧ (∃ a b, unescL l = some a ∧ unescL t = some b ∧ b.length ≤ a.length) ∧
    ((cutC 63 l = none ∧ cutC 63 t = none) ∨ ∃ lp lx tp y u, cutC 63 l = some (lp, lx) ∧ cutC 63 t = some (tp, y) ∧ unescL lx = some u ∧ unescL y = some u) := by
  obtain ⟨b, pr, q, h2, hg, hb, he, hn, hpn, hcut⟩ := nf_of h
  have hc := nf_cut hn
  have hno := nf_no63 hn
  refine ⟨?_, ?_, ?_⟩
  · rw [hc]
    dsimp only
    have e := sg_hit (c := 47) [] (Lib.join (dotsF [] (sg 47 [] pr)) [47]) (by simp)
    rw [List.nil_append] at e
    rw [e, sg_of_join 47 _ hn.st.ne (fun s hs hm => (hn.st.good s hs 47 hm).2.2 rfl)]
    intro s hs
    rcases List.mem_cons.1 hs with rfl | hs
    · exact ⟨by simp, by simp⟩
    · exact hn.st.dot s hs
  · obtain ⟨u1, a, ha⟩ := norm_unesc hb
    obtain ⟨p1, hp1, l1⟩ := join_unesc _ (sg_ne 47 pr []) (steps_norm hpn)
    obtain ⟨p2, hp2, l2⟩ := join_unesc _ hn.st.ne hn.st.norm
    have h1 := dots_tot U rfl (sg 47 [] pr) []
    have h0 : tot U [] = 0 := rfl
    rw [sg_join, List.nil_append] at hp1
    have e1 : unescL (47 :: pr) = some (47 :: p1) := by rw [unescL_plain s47.1, hp1]; rfl
    have e2 : unescL (47 :: Lib.join (dotsF [] (sg 47 [] pr)) [47]) = some (47 :: p2) := by rw [unescL_plain s47.1, hp2]; rfl
    rw [ha] at u1
    rcases hn.q with hq | ⟨y, hq, hy, -⟩
    · rw [he, hq, List.append_nil, e1] at u1
      injection u1 with u1
      refine ⟨a, 47 :: p2, ha, by rw [hn.eq, hq, List.append_nil]; exact e2, ?_⟩
      rw [← u1]; simp only [List.length_cons]; omega
    · obtain ⟨-, uy, huy⟩ := norm_unesc hy
      rw [he, hq, unesc_to s47.2.2.1 s47.2.2.2 e1 huy] at u1
      injection u1 with u1
      refine ⟨a, (47 :: p2) ++ 63 :: uy, ha, by rw [hn.eq, hq]; exact unesc_to s47.2.2.1 s47.2.2.2 e2 huy, ?_⟩
      rw [← u1]; simp only [List.length_append, List.length_cons]; omega
  · rcases hcut with ⟨hl, hq⟩ | ⟨lp, lx, y, hl, hlp, hq, hy⟩
    · refine .inl ⟨cutC_none hl, ?_⟩
      rw [hn.eq, hq, List.append_nil]
      exact cutC_none hno
    · obtain ⟨e, u, hu⟩ := norm_unesc hy
      refine .inr ⟨lp, lx, _, y, u, cutC_some hl hlp, cutC_some (by rw [hn.eq, hq]) hno, hu, by rw [e]; exact hu⟩
end Tar
end Go.Proofs.YthocoplaehbncaaDoor
