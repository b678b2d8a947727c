/- What Split computes. -/
import Derived.Test.YthhhlaoiampinaaTokC
import Derived.Test.YthhhlaoiampinaaTokL1
namespace Go.Proofs.Ythhhlaoiampinaa
set_option maxRecDepth 20000
open Go.RowKit
namespace Tok
/-- Is a text not empty? In the walk's own form. -/
def ne (s : ByteArray) : Bool := !s.toList.isEmpty
theorem ne_mkS (l : List UInt8) : ne (mkS l) = !l.isEmpty := by unfold ne; rw [ba_toList, sl_mkS]
def splitL (l : List UInt8) : Except Int (List (List UInt8)) :=
  if 1000 < l.length then .error 2
  else match cutL 44 false [] l with
    | none => .error 3
    | some ps => if 20 < ((ps.map trimL).filter (fun p => !p.isEmpty)).length then .error 2 else .ok ((ps.map trimL).filter (fun p => !p.isEmpty))
theorem filter_parts (ps : List (List UInt8)) : (ps.map partS).filter ne = ((ps.map trimL).filter (fun p => !p.isEmpty)).map mkS := by
  induction ps with
  | nil => rfl
  | cons p ps ih =>
    simp only [List.map_cons, List.filter_cons]
    have e : ne (partS p) = !(trimL p).isEmpty := ne_mkS _
    rw [e]
    cases (trimL p).isEmpty
    · simp [ih, partS]
    · simp [ih]
end Tok

def SplitAns (T : TypeId) (base : Nat) (l : List UInt8) (e : Ending) (w' : World) : Prop :=
  match Tok.splitL l with
  | .error c => e = .returned (.tuple #[.slice none 0 0, .int .i64 c])
  | .ok out => ∃ v, e = .returned (.tuple #[v, .int .i64 0]) ∧ Owns w' base T 1 es v (out.map mkS)

theorem Owns.base_le {α : Type} {w : World} {base base' : Nat} {e : TypeId} {size : Nat} {enc : α → List Value} {v : Value} {xs : List α} (h : Owns w base e size enc v xs) (hb : base' ≤ base) : Owns w base' e size enc v xs := h.mono hb

set_option maxHeartbeats 1600000 in
theorem split_any (s : ByteArray) (w : World) (hs : s.size ≤ 140737488351232) :
    Calls Try.prog 72 #[.string s] w fun e w' => SplitAns 9 w.heap.size (sl s) e w' ∧ Below w.heap.size w w' := by
  by_cases h1000 : 1000 < s.size
  · have HF : Hid (Tok.splitL (sl s) = .error 2) := by show _ = _; unfold Tok.splitL; rw [sl_len, if_pos h1000]
    go_enter Try.func72, Try.ntmps72
    go_wp2_with fail
    go_ret2
    exact ⟨by unfold SplitAns; rw [HF.out]; rfl, Below.refl _ _⟩
  · have HS : Hid (Tok.splitL (sl s) = match Tok.cutL 44 false [] (sl s) with
        | none => .error 3
        | some ps => if 20 < ((ps.map Tok.trimL).filter (fun p => !p.isEmpty)).length then .error 2 else .ok ((ps.map Tok.trimL).filter (fun p => !p.isEmpty))) := by
      show _ = _; unfold Tok.splitL; rw [sl_len, if_neg h1000]
    go_enter Try.func72, Try.ntmps72
    go_wp2_with fail
    refine (cut_any s 44 _ (by omega)).mono ?_
    rintro e w1 ⟨ha, hb1⟩
    rcases ha with ⟨hc, rfl⟩ | ⟨ps, v, hc, hlen, rfl, hown⟩
    · have HC := Lib.hid hc
      clear hc
      go_wp2_with fail
      go_ret2
      exact ⟨by unfold SplitAns; rw [HS.out, HC.out]; rfl, hb1⟩
    · have HC := Lib.hid hc
      have hfp := Tok.filter_parts ps
      have hr := SlR.of_owns hown
      have hl2 : (ps.map Tok.partS).length ≤ 1001 := by rw [List.length_map]; rw [sl_len] at hlen; omega
      have HF := Lib.hid hfp
      clear hc hown hlen hfp
      generalize ps.map Tok.partS = xs at hr hl2 HF
      obtain ⟨A, c, rfl, hcap, hA⟩ := hr
      go_wp2_with fail
      go_loopw [6, 22] (fun o i wr => ∃ k : Nat, k ≤ xs.length ∧ i = .int .i64 k ∧ Owns wr w1.heap.size 9 1 es o ((xs.take k).filter Tok.ne) ∧ Below w1.heap.size w1 wr) (fun _ i _ => xs.length - (intOf i).toNat)
      case atStart => exact ⟨0, by omega, rfl, Owns.nil _ _ _ _ _, Below.refl _ _⟩
      case round =>
        obtain ⟨k, hk, rfl, hown, hbel⟩ := hrel
        have hfl : ((xs.take k).filter Tok.ne).length ≤ k := Nat.le_trans (List.length_filter_le _ _) (List.length_take_le _ _)
        by_cases hlt : k < xs.length
        · obtain ⟨b, off, rfl, hb, hcell⟩ := hA (by omega)
          have hc1 := (hbel.cell (p := ⟨b, off + k, none⟩) hb).trans (hcell k (.string xs[k]) (by rw [es_map]; simp [hlt]))
          have HT : Hid (xs.take (k + 1) = xs.take k ++ [xs[k]]) := by show _ = _; rw [List.take_add_one, List.getElem?_eq_getElem hlt]; rfl
          clear hA hcell
          cases hne : (!xs[k].toList.isEmpty)
          · have HN : Hid (Tok.ne xs[k] = false) := hne
            go_wp2_with fail
            go_roundw
            case rel => exact ⟨k + 1, by omega, by go_num, by rw [HT.out, List.filter_append, List.filter_cons, HN.out]; simpa using hown, hbel⟩
            case measure => simp [intOf]; omega
          · have HN : Hid (Tok.ne xs[k] = true) := hne
            go_wp2_with (at_builtin; go_must (refine wpList_append_owns rfl (.tmp 28) (.tmp 30) _ rfl w1.heap.size 9 (.string ByteArray.empty) 1 16 es Try.underlying42 stringInfo rfl (by decide) _ _ rfl (hown.alloc _) ⟨wr.heap.size, 0, none⟩ 1 1 [xs[k]] rfl rfl rfl (new_cells _ [.string xs[k]] _) (es_one [_]) (by simp only [maxLen]; omega) (by omega) (bel_size hbel (Nat.le_refl _) _) ?_); intro v2 w2 hown2 hg2)
            go_roundw
            case rel => exact ⟨k + 1, by omega, by go_num, by rw [HT.out, List.filter_append, List.filter_cons, HN.out]; exact hown2, bel_append hbel (Nat.le_refl _) hown hg2⟩
            case measure => simp [intOf]; omega
        · have ht : xs.take k = xs := List.take_of_length_le (by omega)
          rw [ht] at hown hfl
          rw [HF.out] at hown hfl
          clear ht hA
          obtain ⟨out, HW⟩ : ∃ out, Hid (((ps.map Tok.trimL).filter (fun p => !p.isEmpty)).map mkS = out) := ⟨_, rfl⟩
          have HM : Hid (out.length = ((ps.map Tok.trimL).filter (fun p => !p.isEmpty)).length) := by show _ = _; rw [← HW.out, List.length_map]
          rw [HW.out] at hown hfl
          have hbw : Below w.heap.size w wr := hb1.trans (hbel.mono hb1.size)
          have HO := Lib.hid hown
          by_cases h20 : 20 < out.length
          · have HE : Hid (Tok.splitL (sl s) = .error 2) := by
              show _ = _; rw [HS.out, HC.out]; show (if _ then _ else _) = _; rw [if_pos (by rw [← HM.out]; exact h20)]
            rcases hown.form with ⟨hv, ha⟩ | ⟨g, cap, hv⟩
            · rw [ha] at h20; simp at h20
            · clear hown
              subst hv
              go_wp2_with fail
              go_ret2
              exact ⟨by unfold SplitAns; rw [HE.out]; rfl, hbw⟩
          · have HE : Hid (Tok.splitL (sl s) = .ok ((ps.map Tok.trimL).filter (fun p => !p.isEmpty))) := by
              show _ = _; rw [HS.out, HC.out]; show (if _ then _ else _) = _; rw [if_neg (by rw [← HM.out]; exact h20)]
            rcases hown.form with ⟨hv, ha⟩ | ⟨g, cap, hv⟩
            all_goals
              clear hown
              try clear ha
              subst hv
              go_wp2_with fail
              go_ret2
              exact ⟨by unfold SplitAns; rw [HE.out]; exact ⟨_, rfl, by rw [HW.out]; exact HO.out.mono hb1.size⟩, hbw⟩

/-! ### TokenCommas -/
namespace Tok
theorem dw_all {p : UInt8 → Bool} : ∀ (a l : List UInt8), a.all p = true → (a ++ l).dropWhile p = l.dropWhile p
  | [], l, _ => rfl
  | c :: a, l, h => by
    simp only [List.all_cons, Bool.and_eq_true] at h
    rw [List.cons_append, dw_cons_true h.1]
    exact dw_all a l h.2
theorem all_reverse {p : UInt8 → Bool} (a : List UInt8) (h : a.all p = true) : a.reverse.all p = true := by
  rw [List.all_eq_true] at h ⊢
  intro x hx
  exact h x (List.mem_reverse.1 hx)
/-- What stands between blanks, and begins and ends with none. -/
theorem trimL_of (a b : List UInt8) (x y : UInt8) (m : List UInt8) (ha : a.all blankB = true) (hb : b.all blankB = true) (hx : blankB x = false) (hy : blankB y = false)
    (h0 : m.head? = some x) (h1 : m.getLast? = some y) : trimL (a ++ m ++ b) = m := by
  cases m with
  | nil => cases h0
  | cons c m =>
    simp only [List.head?_cons, Option.some.injEq] at h0
    subst h0
    unfold trimL
    rw [List.append_assoc, dw_all a _ ha, List.cons_append, dw_cons_false hx, ← List.cons_append, List.reverse_append, dw_all _ _ (all_reverse b hb)]
    obtain ⟨l, hl⟩ : ∃ l, (c :: m).reverse = y :: l := by
      have : (c :: m).reverse.head? = some y := by rw [List.head?_reverse]; exact h1
      cases hr : (c :: m).reverse with
      | nil => rw [hr] at this; cases this
      | cons z l => rw [hr] at this; simp at this; exact ⟨l, by rw [this]⟩
    rw [hl, dw_cons_false hy, ← hl, List.reverse_reverse]
theorem cutL_escs (sign : UInt8) : ∀ (l cur r : List UInt8), cutL sign true cur (escs l ++ r) = cutL sign true (cur ++ escs l) r
  | [], cur, r => by simp [escs]
  | c :: l, cur, r => by
    rw [escs_cons]
    by_cases hc : (c == 34 || c == 92) = true
    · have e : esc c = [92, c] := if_pos hc
      rw [e, List.append_assoc]
      show cutL sign true cur (92 :: c :: (escs l ++ r)) = _
      rw [cutL_esc _ _ _ _ _ rfl rfl, cutL_escs sign l]; simp
    · have e : esc c = [c] := if_neg hc
      simp only [Bool.or_eq_true, not_or, Bool.not_eq_true] at hc
      rw [e, List.append_assoc]
      show cutL sign true cur (c :: (escs l ++ r)) = _
      rw [cutL_q _ _ _ _ hc.1 hc.2, cutL_escs sign l]; simp
theorem cutL_quoted (sign : UInt8) (l cur r : List UInt8) : cutL sign false cur (quoteL l ++ r) = cutL sign false (cur ++ quoteL l) r := by
  unfold quoteL
  show cutL sign false cur (34 :: (escs l ++ [34] ++ r)) = _
  rw [cutL_quote _ _ _ _ _ rfl, List.append_assoc, Bool.not_false, cutL_escs]
  show cutL sign true _ (34 :: r) = _
  rw [cutL_quote _ _ _ _ _ rfl]; simp
theorem trimL_quoted (a b l : List UInt8) (ha : a.all blankB = true) (hb : b.all blankB = true) : trimL (a ++ quoteL l ++ b) = quoteL l :=
  trimL_of a b 34 34 (quoteL l) ha hb rfl rfl rfl (by unfold quoteL; rw [← List.cons_append, List.getLast?_concat])
theorem split_two (a b : List UInt8) (h : (quoteL a).length + (quoteL b).length ≤ 990) : splitL (quoteL a ++ [32, 44, 32] ++ quoteL b) = .ok [quoteL a, quoteL b] := by
  have hc : cutL 44 false [] (quoteL a ++ [32, 44, 32] ++ quoteL b) = some [quoteL a ++ [32], [32] ++ quoteL b] := by
    rw [List.append_assoc, cutL_quoted]
    show cutL 44 false _ (32 :: 44 :: 32 :: quoteL b) = _
    rw [cutL_n _ _ _ _ rfl rfl, cutL_sign _ _ _ _ rfl rfl, cutL_n _ _ _ _ rfl rfl, ← List.append_nil (quoteL b), cutL_quoted]
    simp [cutL]
  have t1 : trimL (quoteL a ++ [32]) = quoteL a := by have := trimL_quoted [] [32] a rfl rfl; simpa using this
  have t2 : trimL ([32] ++ quoteL b) = quoteL b := by have := trimL_quoted [32] [] b rfl rfl; simpa using this
  unfold splitL
  rw [if_neg (by simp; omega), hc]
  simp only [List.map_cons, List.map_nil, t1, t2]
  have e1 : (quoteL a).isEmpty = false := rfl
  have e2 : (quoteL b).isEmpty = false := rfl
  simp [e1, e2]
end Tok
end Go.Proofs.Ythhhlaoiampinaa
