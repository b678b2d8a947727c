/- vary: what Names and Match compute, and the plain laws on them. -/
import Derived.Test.YthhhlaoiampinaaFieldG
import Derived.Test.YthhhlaoiampinaaTokJ
import Derived.Test.YthhhlaoiampinaaIsTok
import Derived.Test.YthhhlaoiampinaaEqFld
import Derived.Test.YthhhlaoiampinaaCtlP
namespace Go.Proofs.Ythhhlaoiampinaa
set_option maxRecDepth 20000
open Go.RowKit
namespace Vy
def nVary : ByteArray := ⟨#[86, 97, 114, 121]⟩
def txt (l : List Fld) (n : ByteArray) : ByteArray := joinS (selF l n) sep2
def isR (l : List Fld) (n : ByteArray) : Bool := decide (0 < (selF l n).length)
def isStar (p : ByteArray) : Bool := p.toList == [42]
def lowsOf (ps : List ByteArray) : List ByteArray := (ps.filter (fun p => !isStar p)).map lowS
/-- Names, star and code. -/
def nmF (s : ByteArray) : List ByteArray × Bool × Int :=
  match Tok.splitL (sl s) with
  | .error c => ([], false, c)
  | .ok ps => if (ps.map mkS).all Tok.isTok = true then (lowsOf (ps.map mkS), (ps.map mkS).any isStar, 0) else ([], false, 3)
def diff (a b : List Fld) (n : ByteArray) : Bool := decide (isR a n ≠ isR b n) || decide (txt a n ≠ txt b n)
def matF (s : ByteArray) (a b : List Fld) : Bool × Int :=
  if (nmF s).2.2 = 0 then (!((nmF s).2.1 || (nmF s).1.any (diff a b)), 0) else (false, (nmF s).2.2)
theorem split_code {l : List UInt8} {c : Int} (h : Tok.splitL l = .error c) : 2 ≤ c ∧ c ≤ 3 := by
  unfold Tok.splitL at h
  split at h
  · injection h with h; omega
  · split at h
    · injection h with h; omega
    · split at h
      · injection h with h; omega
      · cases h
theorem split_short {l : List UInt8} {ps : List (List UInt8)} (h : Tok.splitL l = .ok ps) : (∀ p ∈ ps, p.length ≤ 1000) ∧ ps.length ≤ 20 := by
  obtain ⟨h1, h2, -⟩ := Tok.split_short h
  exact ⟨h1, h2⟩
theorem nmF_code (s : ByteArray) : 0 ≤ (nmF s).2.2 ∧ (nmF s).2.2 ≤ 3 := by
  unfold nmF
  split
  · rename_i c h; have := split_code h; dsimp only; omega
  · split <;> dsimp only <;> omega
theorem nmF_bad {s : ByteArray} (h : (nmF s).2.2 ≠ 0) : (nmF s).1 = [] ∧ (nmF s).2.1 = false := by
  unfold nmF at h ⊢
  split
  · exact ⟨rfl, rfl⟩
  · rename_i hs
    rw [hs] at h
    dsimp only at h
    split
    · rename_i h2; rw [if_pos h2] at h; exact absurd rfl h
    · exact ⟨rfl, rfl⟩
theorem lowsOf_low {ps : List ByteArray} {x : ByteArray} (h : x ∈ lowsOf ps) : lowS x = x := by
  obtain ⟨p, -, rfl⟩ := List.mem_map.1 h
  exact lowS_lowS p
theorem nmF_low {s x : ByteArray} (h : x ∈ (nmF s).1) : lowS x = x := by
  unfold nmF at h
  split at h
  · cases h
  · split at h
    · exact lowsOf_low h
    · cases h
theorem nmF_small (s : ByteArray) : (nmF s).1.length ≤ 20 ∧ ∀ x ∈ (nmF s).1, x.size ≤ 1000 := by
  unfold nmF
  split
  · exact ⟨Nat.zero_le _, fun x h => by cases h⟩
  · rename_i ps hs
    obtain ⟨h1, h2⟩ := split_short hs
    split
    · refine ⟨Nat.le_trans (by unfold lowsOf; rw [List.length_map]; exact List.length_filter_le _ _) (by rw [List.length_map]; exact h2), fun x hx => ?_⟩
      obtain ⟨p, hp, rfl⟩ := List.mem_map.1 hx
      obtain ⟨q, hq, rfl⟩ := List.mem_map.1 (List.mem_filter.1 hp).1
      rw [lowS_size, mkS_size]; exact h1 q hq
    · exact ⟨Nat.zero_le _, fun x h => by cases h⟩
/-! ### VarySame. -/
theorem diff_self (a : List Fld) (n : ByteArray) : diff a a n = false := by unfold diff; simp
theorem diff_comm (a b : List Fld) (n : ByteArray) : diff a b n = diff b a n := by
  unfold diff
  congr 1
  · exact decide_eq_decide.2 ⟨Ne.symm, Ne.symm⟩
  · exact decide_eq_decide.2 ⟨Ne.symm, Ne.symm⟩
theorem any_diff_self (l : List ByteArray) (a : List Fld) : l.any (diff a a) = false := by
  rw [List.any_eq_false]; intro x _; rw [diff_self]; simp
theorem matF_comm (s : ByteArray) (a b : List Fld) : matF s a b = matF s b a := by
  unfold matF
  have : diff a b = diff b a := funext (diff_comm a b)
  rw [this]
/-! ### VaryMore. -/
theorem cut_open : ∀ (n : Nat) (d cur : List UInt8), d.length ≤ n → (d.all fun c => !(c == 34)) = true → Tok.cutL 44 true cur d = none
  | _, [], cur, _, _ => by unfold Tok.cutL; rfl
  | 0, c :: d, cur, h, _ => by simp at h
  | n + 1, c :: d, cur, h, ha => by
    rw [List.all_cons, Bool.and_eq_true] at ha
    have h34 : (c == 34) = false := by simpa using ha.1
    simp only [List.length_cons] at h
    unfold Tok.cutL
    rw [h34, if_neg (by simp)]
    by_cases hc : c == 92
    · rw [if_pos (by simp [hc])]
      cases d with
      | nil => rfl
      | cons e d =>
        rw [List.all_cons, Bool.and_eq_true] at ha
        simp only [List.length_cons] at h
        exact cut_open n d _ (by omega) ha.2.2
    · rw [if_neg (by simp [hc]), if_neg (by simp)]
      exact cut_open n d _ (by omega) ha.2
theorem cut_app (d : List UInt8) (hd : (d.all fun c => !(c == 34)) = true) (h1 : Tok.cutL 44 false [] d = some [d]) : ∀ (n : Nat) (s : List UInt8) (q : Bool) (cur : List UInt8) (ps : List (List UInt8)), s.length ≤ n → Tok.cutL 44 q cur (s ++ 44 :: d) = some ps → ∃ qs, Tok.cutL 44 q cur s = some qs ∧ ps = qs ++ [d]
  | _, [], q, cur, ps, _, h => by
    have hd' : ((44 :: d).all fun c => !(c == 34)) = true := by rw [List.all_cons, hd]; rfl
    cases q
    · rw [List.nil_append, Tok.cutL_sign _ _ _ _ rfl rfl, h1] at h
      simp only [Option.map_some, Option.some.injEq] at h
      exact ⟨[cur], by unfold Tok.cutL; rfl, by rw [← h]; rfl⟩
    · rw [List.nil_append, cut_open _ _ _ (Nat.le_refl _) hd'] at h; cases h
  | 0, c :: s, q, cur, ps, hn, _ => by simp at hn
  | n + 1, c :: s, q, cur, ps, hn, h => by
    simp only [List.length_cons] at hn
    rw [List.cons_append] at h
    unfold Tok.cutL at h ⊢
    by_cases c1 : (c == 34) = true
    · rw [if_pos c1] at h ⊢
      exact cut_app d hd h1 n s _ _ _ (by omega) h
    · rw [if_neg c1] at h ⊢
      by_cases c2 : (q && c == 92) = true
      · rw [if_pos c2] at h ⊢
        have hq : q = true := by cases q <;> simp_all
        subst hq
        cases s with
        | nil =>
          simp only [List.nil_append] at h
          rw [cut_open _ _ _ (Nat.le_refl _) hd] at h; cases h
        | cons e s =>
          simp only [List.cons_append] at h
          simp only [List.length_cons] at hn
          exact cut_app d hd h1 n s _ _ _ (by omega) h
      · rw [if_neg c2] at h ⊢
        by_cases c3 : (!q && c == 44) = true
        · rw [if_pos c3] at h ⊢
          cases hc : Tok.cutL 44 false [] (s ++ 44 :: d) with
          | none => rw [hc] at h; cases h
          | some rs =>
            rw [hc] at h
            simp only [Option.map_some, Option.some.injEq] at h
            obtain ⟨qs, e1, e2⟩ := cut_app d hd h1 n s _ _ _ (by omega) hc
            exact ⟨cur :: qs, by rw [e1]; rfl, by rw [← h, e2]; rfl⟩
        · rw [if_neg c3] at h ⊢
          exact cut_app d hd h1 n s _ _ _ (by omega) h
theorem tok_34 {n : ByteArray} (h : Tok.isTok n = true) : ((sl n).all fun c => !(c == 34)) = true ∧ (34 : UInt8) ∉ sl n ∧ (44 : UInt8) ∉ sl n := by
  unfold Tok.isTok at h
  rw [Bool.and_eq_true] at h
  have h34 : (34 : UInt8) ∉ sl n := fun hm => (Tok.tok_blank (List.all_eq_true.1 h.1 34 hm)).2.2 rfl
  refine ⟨?_, h34, fun hm => (Tok.tok_blank (List.all_eq_true.1 h.1 44 hm)).2.1 rfl⟩
  rw [List.all_eq_true]
  intro c hc
  have : c ≠ 34 := fun e => h34 (e ▸ hc)
  simp [this]
theorem cut_tok {n : ByteArray} (h : Tok.isTok n = true) : Tok.cutL 44 false [] (sl n) = some [sl n] := by
  obtain ⟨-, h1, h2⟩ := tok_34 h
  rw [Tok.cutL_seg _ _ h1]
  have := Tok.seg_plain (sl n) [] [] h2
  rw [List.append_nil, List.nil_append] at this
  rw [this]; rfl
theorem tok_ne {n : ByteArray} (h : Tok.isTok n = true) : Tok.tokOk (sl n) := by
  unfold Tok.isTok at h
  rw [Bool.and_eq_true] at h
  refine ⟨h.1, fun e => ?_⟩
  have := of_decide_eq_true h.2
  rw [← sl_len, e] at this
  exact absurd this (by decide)
/-- A name at the end. -/
theorem nm_app {s n : ByteArray} (hn : Tok.isTok n = true) (hs0 : (nmF s).2.2 = 0) (h : (nmF (s ++ ⟨#[44]⟩ ++ n)).2.2 = 0) : (∀ x ∈ (nmF s).1, x ∈ (nmF (s ++ ⟨#[44]⟩ ++ n)).1) ∧ ((nmF s).2.1 = true → (nmF (s ++ ⟨#[44]⟩ ++ n)).2.1 = true) := by
  have e : sl (s ++ ⟨#[44]⟩ ++ n) = sl s ++ 44 :: sl n := by rw [sl_append, sl_append]; simp [sl]
  have htrim : Tok.trimL (sl n) = sl n := by
    have := Tok.trimL_tok (b := []) (tok_ne hn) rfl
    rwa [List.append_nil] at this
  unfold nmF at hs0 h ⊢
  rw [e] at h ⊢
  cases hsp : Tok.splitL (sl s ++ 44 :: sl n) with
  | error c => rw [hsp] at h; dsimp only at h; have := split_code hsp; omega
  | ok ps =>
    rw [hsp] at h
    dsimp only at h ⊢
    have hall : (ps.map mkS).all Tok.isTok = true := by
      cases ha : (ps.map mkS).all Tok.isTok with
      | true => rfl
      | false => rw [ha, if_neg (by simp)] at h; exact absurd h (by decide)
    rw [if_pos hall]
    have hps : ∃ Q, Tok.splitL (sl s) = .ok Q ∧ ps = Q ++ [sl n] := by
      unfold Tok.splitL at hsp
      split at hsp
      · cases hsp
      · rename_i hlen
        cases hc : Tok.cutL 44 false [] (sl s ++ 44 :: sl n) with
        | none => rw [hc] at hsp; cases hsp
        | some rs =>
          rw [hc] at hsp
          dsimp only at hsp
          split at hsp
          · cases hsp
          · rename_i h20
            injection hsp with hsp
            obtain ⟨qs, e1, e2⟩ := cut_app (sl n) (tok_34 hn).1 (cut_tok hn) _ _ _ _ _ (Nat.le_refl _) hc
            have hne : (!(sl n).isEmpty) = true := by
              cases hx : sl n with
              | nil => exact absurd hx (tok_ne hn).2
              | cons a b => rfl
            have e3 : (rs.map Tok.trimL).filter (fun p => !p.isEmpty) = (qs.map Tok.trimL).filter (fun p => !p.isEmpty) ++ [sl n] := by
              rw [e2, List.map_append, List.filter_append, List.map_cons, List.map_nil, htrim, List.filter_cons, hne]; rfl
            rw [e3] at hsp h20
            refine ⟨_, ?_, hsp.symm⟩
            unfold Tok.splitL
            rw [if_neg (by rw [List.length_append] at hlen; omega), e1]
            dsimp only
            rw [if_neg (by rw [List.length_append] at h20; omega)]
    obtain ⟨Q, hq, rfl⟩ := hps
    rw [hq] at hs0 ⊢
    dsimp only at hs0 ⊢
    have hallq : (Q.map mkS).all Tok.isTok = true := by
      rw [List.map_append, List.all_append, Bool.and_eq_true] at hall
      exact hall.1
    rw [if_pos hallq]
    dsimp only
    refine ⟨fun x hx => ?_, fun hx => ?_⟩
    · unfold lowsOf at *
      rw [List.map_append, List.filter_append, List.map_append]
      exact List.mem_append_left _ hx
    · rw [List.map_append, List.any_append, hx]; rfl
theorem mat_more {s t : ByteArray} {a b : List Fld} (h0 : (nmF s).2.2 = 0) (hm : ∀ x ∈ (nmF s).1, x ∈ (nmF t).1) (hst : (nmF s).2.1 = true → (nmF t).2.1 = true) (ht : (nmF t).2.2 = 0) (h : (matF t a b).1 = true) : (matF s a b).1 = true := by
  unfold matF at *
  rw [if_pos ht] at h
  rw [if_pos h0]
  dsimp only at *
  cases hs1 : (nmF s).2.1 with
  | true => rw [hst hs1] at h; exact absurd h (by simp)
  | false =>
    cases hs2 : (nmF s).1.any (diff a b) with
    | false => rfl
    | true =>
      obtain ⟨x, hx, hd⟩ := List.any_eq_true.1 hs2
      have : (nmF t).1.any (diff a b) = true := List.any_eq_true.2 ⟨x, hm x hx, hd⟩
      rw [this] at h
      exact absurd h (by simp)
theorem mat_code (s : ByteArray) (a b : List Fld) : (matF s a b).2 = (nmF s).2.2 := by
  unfold matF
  split
  · rename_i h; rw [h]
  · rfl
theorem txt_set_other (l : List Fld) {n m : ByteArray} (a : ByteArray) (h : lowS m ≠ lowS n) : txt (setF l n a) m = txt l m ∧ isR (setF l n a) m = isR l m := by
  unfold txt isR; rw [selF_set_other l a h]; exact ⟨rfl, rfl⟩
theorem mat_other {s name value : ByteArray} {a b : List Fld} (h : lowS name ∉ (nmF s).1) : matF s (setF a name value) b = matF s a b := by
  unfold matF
  have : (nmF s).1.any (diff (setF a name value) b) = (nmF s).1.any (diff a b) := by
    have : ∀ (L : List ByteArray), (∀ x ∈ L, x ∈ (nmF s).1) → L.any (diff (setF a name value) b) = L.any (diff a b) := by
      intro L
      induction L with
      | nil => intro _; rfl
      | cons x L ih =>
        intro hL
        rw [List.any_cons, List.any_cons, ih (fun y hy => hL y (List.mem_cons_of_mem _ hy))]
        have hx := hL x (List.mem_cons_self ..)
        have hne : lowS x ≠ lowS name := fun e => h (by rw [← e, nmF_low hx]; exact hx)
        congr 1
        unfold diff
        rw [(txt_set_other a value hne).1, (txt_set_other a value hne).2]
    exact this _ (fun _ h => h)
  rw [this]
theorem nm_empty : nmF ByteArray.empty = ([], false, 0) := by kernel_rfl
theorem mat_empty (a b : List Fld) : matF ByteArray.empty a b = (true, 0) := by unfold matF; rw [nm_empty]; rfl
theorem txt_no {l : List Fld} {n : ByteArray} (h : isR l n = false) : txt l n = ByteArray.empty := by
  unfold isR at h
  have := of_decide_eq_false h
  have e : selF l n = [] := List.length_eq_zero_iff.1 (by omega)
  unfold txt; rw [e]; rfl
end Vy
end Go.Proofs.Ythhhlaoiampinaa
