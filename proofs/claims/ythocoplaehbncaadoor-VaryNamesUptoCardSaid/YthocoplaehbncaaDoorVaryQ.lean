/- VaryNames: the plain law: names written in capitals, and twice, are the same. -/
import Derived.Test.YthocoplaehbncaaDoorVaryP
import Derived.Lib.Case
namespace Go.Proofs.YthocoplaehbncaaDoor
set_option maxRecDepth 20000
open Go.RowKit
namespace Vy
theorem u8_all {p : UInt8 → Bool} (h : ((List.range 256).all fun n => p (UInt8.ofNat n)) = true) (c : UInt8) : p c = true := by
  have := List.all_eq_true.1 h c.toNat (List.mem_range.2 c.toNat_lt)
  simpa using this
theorem up_lit (c : UInt8) : ((Lib.upperB c == 34) == (c == 34) && (Lib.upperB c == 44) == (c == 44) && (Lib.upperB c == 42) == (c == 42) && Tok.blankB (Lib.upperB c) == Tok.blankB c && Tok.lowB (Lib.upperB c) == Tok.lowB c && (!Tok.tokB c || decide (c.toNat < 128))) = true := u8_all (p := fun c => (Lib.upperB c == 34) == (c == 34) && (Lib.upperB c == 44) == (c == 44) && (Lib.upperB c == 42) == (c == 42) && Tok.blankB (Lib.upperB c) == Tok.blankB c && Tok.lowB (Lib.upperB c) == Tok.lowB c && (!Tok.tokB c || decide (c.toNat < 128))) (by kernel_rfl) c
theorem up34 (c : UInt8) : (Lib.upperB c == 34) = (c == 34) := by have := up_lit c; simp only [Bool.and_eq_true, beq_iff_eq] at this; exact this.1.1.1.1.1
theorem up44 (c : UInt8) : (Lib.upperB c == 44) = (c == 44) := by have := up_lit c; simp only [Bool.and_eq_true, beq_iff_eq] at this; exact this.1.1.1.1.2
theorem up42 (c : UInt8) : (Lib.upperB c == 42) = (c == 42) := by have := up_lit c; simp only [Bool.and_eq_true, beq_iff_eq] at this; exact this.1.1.1.2
theorem upBlank (c : UInt8) : Tok.blankB (Lib.upperB c) = Tok.blankB c := by have := up_lit c; simp only [Bool.and_eq_true, beq_iff_eq] at this; exact this.1.1.2
theorem upLow (c : UInt8) : Tok.lowB (Lib.upperB c) = Tok.lowB c := by have := up_lit c; simp only [Bool.and_eq_true, beq_iff_eq] at this; exact this.1.2
theorem tok128 {c : UInt8} (h : Tok.tokB c = true) : c.toNat < 128 := by have := up_lit c; rw [h] at this; simp only [Bool.and_eq_true, beq_iff_eq] at this; simpa using this.2
/-! ### Quotes stay within the parts. -/
theorem cut_34 : ∀ (n : Nat) (l : List UInt8) (q : Bool) (cur : List UInt8) (ps : List (List UInt8)), l.length ≤ n → Tok.cutL 44 q cur l = some ps → ((34 : UInt8) ∈ cur ∨ (34 : UInt8) ∈ l) → ∃ p ∈ ps, (34 : UInt8) ∈ p
  | _, [], q, cur, ps, _, h, hm => by
    unfold Tok.cutL at h
    cases q
    · rw [if_neg (by simp)] at h
      injection h with h
      subst h
      exact ⟨cur, by simp, hm.resolve_right (by simp)⟩
    · rw [if_pos rfl] at h; cases h
  | 0, c :: r, q, cur, ps, hl, _, _ => by simp at hl
  | n + 1, c :: r, q, cur, ps, hl, h, hm => by
    simp only [List.length_cons] at hl
    unfold Tok.cutL at h
    by_cases c1 : (c == 34) = true
    · rw [if_pos c1] at h
      exact cut_34 n r _ _ _ (by omega) h (.inl (by rw [List.mem_append]; exact .inr (by simp [(beq_iff_eq.1 c1)])))
    · rw [if_neg c1] at h
      have c1' : (34 : UInt8) ≠ c := fun e => c1 (by simp [← e])
      by_cases c2 : (q && c == 92) = true
      · rw [if_pos c2] at h
        cases r with
        | nil => cases h
        | cons d r =>
          simp only [List.length_cons] at hl
          refine cut_34 n r _ _ _ (by omega) h ?_
          rcases hm with hm | hm
          · exact .inl (List.mem_append_left _ hm)
          · simp only [List.mem_cons, c1', false_or] at hm
            rcases hm with hm | hm
            · exact .inl (by simp [hm])
            · exact .inr hm
      · rw [if_neg c2] at h
        by_cases c3 : (!q && c == 44) = true
        · rw [if_pos c3] at h
          cases hc : Tok.cutL 44 false [] r with
          | none => rw [hc] at h; cases h
          | some rs =>
            rw [hc] at h
            injection h with h
            subst h
            rcases hm with hm | hm
            · exact ⟨cur, by simp, hm⟩
            · simp only [List.mem_cons, c1', false_or] at hm
              obtain ⟨p, hp, h34⟩ := cut_34 n r _ _ _ (by omega) hc (.inr hm)
              exact ⟨p, List.mem_cons_of_mem _ hp, h34⟩
        · rw [if_neg c3] at h
          refine cut_34 n r _ _ _ (by omega) h ?_
          rcases hm with hm | hm
          · exact .inl (List.mem_append_left _ hm)
          · simp only [List.mem_cons, c1', false_or] at hm
            exact .inr hm
theorem mem_dw {p : UInt8 → Bool} {c : UInt8} (hc : p c = false) : ∀ {l : List UInt8}, c ∈ l → c ∈ l.dropWhile p
  | x :: l, h => by
    rw [List.dropWhile_cons]
    split
    · rename_i hx
      rcases List.mem_cons.1 h with rfl | h
      · rw [hc] at hx; cases hx
      · exact mem_dw hc h
    · exact h
theorem mem_trim {c : UInt8} (hc : Tok.blankB c = false) {l : List UInt8} (h : c ∈ l) : c ∈ Tok.trimL l := by
  unfold Tok.trimL
  rw [List.mem_reverse]
  exact mem_dw hc (List.mem_reverse.2 (mem_dw hc h))
theorem mem_seg {c : UInt8} (h44 : c ≠ 44) : ∀ {l cur : List UInt8}, (c ∈ cur ∨ c ∈ l) → ∃ p ∈ Tok.seg cur l, c ∈ p
  | [], cur, h => ⟨cur, by simp [Tok.seg], h.resolve_right (by simp)⟩
  | x :: l, cur, h => by
    unfold Tok.seg
    split
    · rename_i hx
      rcases h with h | h
      · exact ⟨cur, by simp, h⟩
      · have : c ∈ l := by
          rcases List.mem_cons.1 h with rfl | h
          · exact absurd (beq_iff_eq.1 hx) h44
          · exact h
        obtain ⟨p, hp, hc⟩ := mem_seg h44 (cur := []) (.inr this)
        exact ⟨p, List.mem_cons_of_mem _ hp, hc⟩
    · refine mem_seg h44 ?_
      rcases h with h | h
      · exact .inl (List.mem_append_left _ h)
      · rcases List.mem_cons.1 h with rfl | h
        · exact .inl (by simp)
        · exact .inr h
/-- What a good text of names is. -/
theorem nm_good {s : ByteArray} (h : (nmF s).2.2 = 0) : (34 : UInt8) ∉ sl s ∧ (∀ c ∈ sl s, c.toNat < 128) ∧ (sl s).length ≤ 1000 ∧ Tok.splitL (sl s) = .ok (Tok.parts [] (sl s)) ∧ nmF s = (lowsOf ((Tok.parts [] (sl s)).map mkS), ((Tok.parts [] (sl s)).map mkS).any isStar, 0) := by
  cases hsp : Tok.splitL (sl s) with
  | error c => unfold nmF at h; rw [hsp] at h; dsimp only at h; have := split_code hsp; omega
  | ok ps =>
    have hall : (ps.map mkS).all Tok.isTok = true := by
      cases ha : (ps.map mkS).all Tok.isTok with
      | true => rfl
      | false => unfold nmF at h; rw [hsp] at h; dsimp only at h; rw [ha, if_neg (by simp)] at h; exact absurd h (by decide)
    have hlen := (Tok.split_short hsp).2.2
    have hraw : ∃ rs, Tok.cutL 44 false [] (sl s) = some rs ∧ ps = (rs.map Tok.trimL).filter (fun p => !p.isEmpty) := by
      unfold Tok.splitL at hsp
      split at hsp
      · cases hsp
      · cases hc : Tok.cutL 44 false [] (sl s) with
        | none => rw [hc] at hsp; cases hsp
        | some rs =>
          rw [hc] at hsp
          dsimp only at hsp
          split at hsp
          · cases hsp
          · injection hsp with hsp; exact ⟨rs, rfl, hsp.symm⟩
    obtain ⟨rs, hc, hps⟩ := hraw
    have tokp : ∀ p ∈ rs, ∀ c ∈ p, Tok.blankB c = false → Tok.tokB c = true := by
      intro p hp c hcp hb
      have hct := mem_trim hb hcp
      have hin : Tok.trimL p ∈ ps := by
        rw [hps, List.mem_filter]
        refine ⟨List.mem_map_of_mem hp, ?_⟩
        cases ht : Tok.trimL p with
        | nil => rw [ht] at hct; cases hct
        | cons a b => rfl
      have := List.all_eq_true.1 hall _ (List.mem_map_of_mem hin)
      unfold Tok.isTok at this
      rw [sl_mkS, Bool.and_eq_true] at this
      exact List.all_eq_true.1 this.1 c hct
    have h34 : (34 : UInt8) ∉ sl s := by
      intro hm
      obtain ⟨p, hp, h⟩ := cut_34 _ _ _ _ _ (Nat.le_refl _) hc (.inr hm)
      exact absurd (tokp p hp 34 h (by decide)) (by decide)
    have hseg : rs = Tok.seg [] (sl s) := by
      rw [Tok.cutL_seg _ _ h34] at hc
      injection hc with hc; exact hc.symm
    subst hseg
    have hps' : ps = Tok.parts [] (sl s) := hps
    subst hps'
    refine ⟨h34, fun c hcs => ?_, hlen, rfl, ?_⟩
    · by_cases hb : Tok.blankB c = true
      · have : c = 32 ∨ c = 9 := by simpa [Tok.blankB] using hb
        rcases this with rfl | rfl <;> decide
      · by_cases h44 : c = 44
        · subst h44; decide
        · obtain ⟨p, hp, hcp⟩ := mem_seg h44 (cur := []) (.inr hcs)
          exact tok128 (tokp p hp c hcp (by simpa using hb))
    · unfold nmF; rw [hsp]; dsimp only; rw [if_pos hall]
/-! ### In capitals. -/
def upL (l : List UInt8) : List UInt8 := l.map Lib.upperB
theorem seg_up : ∀ (l cur : List UInt8), Tok.seg (upL cur) (upL l) = (Tok.seg cur l).map upL
  | [], cur => rfl
  | c :: l, cur => by
    show Tok.seg (upL cur) (Lib.upperB c :: upL l) = _
    unfold Tok.seg
    rw [up44]
    split
    · rw [List.map_cons, ← seg_up l []]; rfl
    · rw [← seg_up l (cur ++ [c])]; unfold upL; rw [List.map_append]; rfl
theorem dw_up (l : List UInt8) : (upL l).dropWhile Tok.blankB = upL (l.dropWhile Tok.blankB) := by
  induction l with
  | nil => rfl
  | cons c l ih =>
    show (Lib.upperB c :: upL l).dropWhile _ = _
    rw [List.dropWhile_cons, List.dropWhile_cons, upBlank, ih]
    split <;> rfl
theorem trim_up (l : List UInt8) : Tok.trimL (upL l) = upL (Tok.trimL l) := by
  unfold Tok.trimL
  rw [dw_up]
  have e : ∀ m : List UInt8, (upL m).reverse = upL m.reverse := fun m => by unfold upL; rw [List.map_reverse]
  rw [e, dw_up, e]
theorem parts_up (l : List UInt8) : Tok.parts [] (upL l) = (Tok.parts [] l).map upL := by
  unfold Tok.parts
  have := seg_up l []
  rw [show upL [] = [] from rfl] at this
  rw [this, List.map_map]
  have e : (Tok.trimL ∘ upL) = (upL ∘ Tok.trimL) := funext trim_up
  rw [e, ← List.map_map, List.filter_map]
  congr 1
  refine List.filter_congr fun p _ => ?_
  cases p <;> rfl
theorem trim_end (x : List UInt8) : Tok.trimL (x ++ [32]) = Tok.trimL x := by
  unfold Tok.trimL
  rw [List.dropWhile_append]
  split
  · rename_i h
    have : x.dropWhile Tok.blankB = [] := List.isEmpty_iff.1 h
    rw [this]; rfl
  · rw [List.reverse_append]
    show (List.dropWhile Tok.blankB (32 :: (List.dropWhile Tok.blankB x).reverse)).reverse = _
    rw [Tok.dw_cons_true (by decide)]
theorem seg_c (cur : List UInt8) (c : UInt8) (r : List UInt8) : Tok.seg cur (c :: r) = if c == 44 then cur :: Tok.seg [] r else Tok.seg (cur ++ [c]) r := rfl
theorem seg_app (b : List UInt8) : ∀ (a cur : List UInt8), Tok.seg cur (a ++ 44 :: b) = Tok.seg cur a ++ Tok.seg [] b
  | [], cur => by rw [List.nil_append, seg_c, if_pos (by decide)]; rfl
  | c :: a, cur => by
    rw [List.cons_append, seg_c, seg_c]
    split
    · rw [seg_app b a []]; rfl
    · rw [seg_app b a _]
theorem seg_end : ∀ (a cur : List UInt8), (Tok.seg cur (a ++ [32])).map Tok.trimL = (Tok.seg cur a).map Tok.trimL
  | [], cur => by
    rw [List.nil_append, seg_c, if_neg (by decide)]
    show [Tok.trimL (cur ++ [32])] = [Tok.trimL cur]
    rw [trim_end]
  | c :: a, cur => by
    rw [List.cons_append, seg_c, seg_c]
    split
    · rw [List.map_cons, List.map_cons, seg_end a []]
    · exact seg_end a _
theorem parts_two (a b : List UInt8) : Tok.parts [] (a ++ 32 :: 44 :: b) = Tok.parts [] a ++ Tok.parts [] b := by
  have e : a ++ 32 :: 44 :: b = (a ++ [32]) ++ 44 :: b := by simp
  unfold Tok.parts
  rw [e, seg_app, List.map_append, seg_end, List.filter_append]
theorem low_up (p : List UInt8) : lowS (mkS (upL p)) = lowS (mkS p) := by
  unfold lowS
  rw [sl_mkS, sl_mkS]
  unfold Tok.low upL
  rw [List.map_map]
  congr 1
  exact List.map_congr_left (fun c _ => upLow c)
theorem star_up (p : List UInt8) : isStar (mkS (upL p)) = isStar (mkS p) := by
  unfold isStar
  rw [ba_toList, ba_toList, sl_mkS, sl_mkS]
  match p with
  | [] => rfl
  | [c] => show ([Lib.upperB c] == [42]) = ([c] == [42]); have := up42 c; simpa [List.cons_beq_cons] using this
  | a :: b :: r => 
    have h1 : (upL (a :: b :: r) == [42]) = false := by
      rw [beq_eq_false_iff_ne]; intro e; have := congrArg List.length e; simp [upL] at this
    have h2 : ((a :: b :: r) == [42]) = false := by
      rw [beq_eq_false_iff_ne]; intro e; have := congrArg List.length e; simp at this
    rw [h1, h2]
def upS (s : ByteArray) : ByteArray := mkS (upL (sl s))
def twoS (s : ByteArray) : ByteArray := upS s ++ ⟨#[32, 44]⟩ ++ s
theorem names_up {s : ByteArray} (h : (nmF s).2.2 = 0) (h2 : (nmF (twoS s)).2.2 = 0) : (nmF (twoS s)).2.1 = (nmF s).2.1 ∧ ∀ x, x ∈ (nmF (twoS s)).1 ↔ x ∈ (nmF s).1 := by
  obtain ⟨-, -, -, -, e1⟩ := nm_good h
  obtain ⟨-, -, -, -, e2⟩ := nm_good h2
  have es : sl (twoS s) = upL (sl s) ++ 32 :: 44 :: sl s := by unfold twoS upS; rw [sl_append, sl_append, sl_mkS]; simp [sl]
  rw [e1, e2, es, parts_two, parts_up]
  generalize Tok.parts [] (sl s) = P
  dsimp only
  have a1 : ((P.map upL).map mkS).any isStar = (P.map mkS).any isStar := by
    rw [List.map_map, List.any_map, List.any_map]
    congr 1
    exact funext star_up
  have a2 : lowsOf ((P.map upL).map mkS) = lowsOf (P.map mkS) := by
    unfold lowsOf
    rw [List.map_map, List.filter_map, List.filter_map, List.map_map, List.map_map]
    have e1 : ((fun p => !isStar p) ∘ (mkS ∘ upL)) = ((fun p => !isStar p) ∘ mkS) := funext fun p => by show (!isStar (mkS (upL p))) = _; rw [star_up]; rfl
    rw [e1]
    exact List.map_congr_left (fun p _ => low_up p)
  constructor
  · rw [List.map_append, List.any_append, a1]; simp
  · intro x
    have : lowsOf ((P.map upL ++ P).map mkS) = lowsOf ((P.map upL).map mkS) ++ lowsOf (P.map mkS) := by
      unfold lowsOf; rw [List.map_append, List.filter_append, List.map_append]
    rw [this, a2, List.mem_append, or_self]
theorem upS_size (s : ByteArray) : (upS s).size = s.size := by unfold upS upL; rw [mkS_size, List.length_map, sl_len]
theorem twoS_size (s : ByteArray) : (twoS s).size = 2 * s.size + 2 := by
  have e : (⟨#[32, 44]⟩ : ByteArray).size = 2 := rfl
  unfold twoS
  rw [ByteArray.size_append, ByteArray.size_append, upS_size, e]; omega
end Vy
end Go.Proofs.YthocoplaehbncaaDoor
