import Derived.Test.YtgjfhgcjiglfkaaGreatDoorD1
import Derived.Test.YtgjfhgcjiglfkaaGreatDoorD0
import Derived.Lib.Bytealg
import Derived.Deep.QuietTactic
import Derived.BigQuiet
import Derived.IntWalk
import Derived.Test.YtgjfhgcjiglfkaaGreatDoorChecked
import Derived.Deep.RegionHeld
import Derived.Laws.CopyRow
set_option linter.unusedVariables false
set_option linter.unusedSimpArgs false
namespace Go.Proofs.YtgjfhgcjiglfkaaGreatDoor
set_option maxRecDepth 20000
open Go.RowKit
namespace Tok
theorem escs_cons (c : UInt8) (l : List UInt8) : escs (c :: l) = esc c ++ escs l := rfl
theorem unq_escs : ∀ (l : List UInt8), l.all plainB = true → unq (escs l) = some l
  | [], _ => rfl
  | c :: l, h => by
    simp only [List.all_cons, Bool.and_eq_true] at h
    have ih := unq_escs l h.2
    rw [escs_cons]
    by_cases hc : (c == 34 || c == 92) = true
    · have e : esc c = [92, c] := if_pos hc
      rw [e]
      show unq (92 :: c :: escs l) = _
      rw [unq_esc _ _ _ rfl, h.1, if_pos rfl, ih]; rfl
    · have e : esc c = [c] := if_neg hc
      rw [e]
      simp only [Bool.or_eq_true, not_or, Bool.not_eq_true] at hc
      show unq (c :: escs l) = _
      rw [unq_plain _ _ hc.2 hc.1 h.1, ih]; rfl
theorem escs_of_unq : ∀ (n : Nat) (l b : List UInt8), l.length ≤ n → unq l = some b → (escs b).length ≤ l.length ∧ b.all plainB = true
  | _, [], b, _, h => by simp only [unq] at h; obtain rfl := Option.some.inj h; simp [escs]
  | 0, c :: l, b, hn, h => by simp at hn
  | n + 1, c :: l, b, hn, h => by
    simp only [List.length_cons] at hn
    cases h92 : (c == 92)
    · cases h34 : (c == 34)
      · cases hp : plainB c
        · rw [unq_bad _ _ h92 (.inr hp)] at h; cases h
        · rw [unq_plain _ _ h92 h34 hp] at h
          obtain ⟨b', hb, rfl⟩ := Option.map_eq_some_iff.1 h
          obtain ⟨i1, i2⟩ := escs_of_unq n l b' (by omega) hb
          have e : esc c = [c] := by unfold esc; rw [h92, h34]; rfl
          refine ⟨?_, by simp [hp, i2]⟩
          rw [escs_cons, e]
          simp only [List.length_append, List.length_cons, List.length_nil]; omega
      · rw [unq_bad _ _ h92 (.inl h34)] at h; cases h
    · cases l with
      | nil => rw [unq_esc_end _ h92] at h; cases h
      | cons d l =>
        rw [unq_esc _ _ _ h92] at h
        cases hp : plainB d
        · rw [hp] at h; cases h
        · rw [hp, if_pos rfl] at h
          obtain ⟨b', hb, rfl⟩ := Option.map_eq_some_iff.1 h
          simp only [List.length_cons] at hn
          obtain ⟨i1, i2⟩ := escs_of_unq n l b' (by omega) hb
          have := esc_len d
          refine ⟨?_, by simp [hp, i2]⟩
          rw [escs_cons]
          simp only [List.length_append, List.length_cons]; omega
theorem unquote_some {l b : List UInt8} (h : unquoteL l = some b) : (quoteL b).length ≤ l.length ∧ b.all plainB = true := by
  unfold unquoteL at h
  split at h
  · cases h
  · rename_i hc
    simp only [Bool.or_eq_true, decide_eq_true_eq, not_or] at hc
    have hlen : ((l.drop 1).take (l.length - 2)).length ≤ l.length - 2 := by simp; omega
    obtain ⟨i1, i2⟩ := escs_of_unq _ _ b (Nat.le_refl _) h
    refine ⟨?_, i2⟩
    simp [quoteL] at i1 ⊢
    omega
end Tok
def QuoteAns (l : List UInt8) (e : Ending) : Prop :=
  (l.length ≤ 1000 ∧ l.all Tok.plainB = true ∧ e = .returned (.tuple #[.string (mkS (Tok.quoteL l)), .int .i64 0])) ∨
  (¬ (l.length ≤ 1000 ∧ l.all Tok.plainB = true) ∧ ∃ c : Int, 1 ≤ c ∧ c ≤ 3 ∧ e = .returned (.tuple #[.string ByteArray.empty, .int .i64 c]))
theorem quote_any (s : ByteArray) (w : World) (hs : s.size ≤ 140737488351232) :
    Calls Tryz.prog 126 #[.string s] w fun e w' => QuoteAns (sl s) e ∧ Below w.heap.size w w' := by
  by_cases h : s.size ≤ 1000
  · refine (quote_walk s w h).mono fun e w' ⟨hq, hb⟩ => ⟨?_, hb⟩
    rcases hq with ⟨h1, rfl⟩ | ⟨h1, rfl⟩
    · exact .inl ⟨by rw [sl_len]; exact h, h1, rfl⟩
    · exact .inr ⟨by rw [h1]; simp, 3, by omega, by omega, rfl⟩
  · refine (quote_large s w (by omega) hs).mono fun e w' ⟨he, hw⟩ => ?_
    subst he hw
    exact ⟨.inr ⟨by rw [sl_len]; omega, 2, by omega, by omega, rfl⟩, Below.refl _ _⟩
set_option maxRecDepth 20000
namespace Tok
def trimL (l : List UInt8) : List UInt8 := ((l.dropWhile blankB).reverse.dropWhile blankB).reverse
def cutL (sign : UInt8) : Bool → List UInt8 → List UInt8 → Option (List (List UInt8))
  | q, cur, [] => if q then none else some [cur]
  | q, cur, c :: r =>
    if c == 34 then cutL sign (!q) (cur ++ [c]) r
    else if q && c == 92 then (match r with | [] => none | d :: r' => cutL sign q (cur ++ [c, d]) r')
    else if !q && c == sign then (cutL sign false [] r).map (cur :: ·)
    else cutL sign q (cur ++ [c]) r
theorem dw_cons_true {p : UInt8 → Bool} {c : UInt8} {l : List UInt8} (h : p c = true) : (c :: l).dropWhile p = l.dropWhile p := by simp [h]
theorem dw_cons_false {p : UInt8 → Bool} {c : UInt8} {l : List UInt8} (h : p c = false) : (c :: l).dropWhile p = c :: l := by simp [h]
end Tok
theorem sl_snoc (r : ByteArray) (h : 0 < r.size) : sl r = sl (r.extract 0 (r.size - 1)) ++ [r[r.size - 1]] := by
  have hl : (sl r).length = r.size := sl_len r
  rw [sl_extract, List.drop_zero, Nat.sub_zero, ← sl_getElem r (r.size - 1) (by omega)]
  have h2 := List.take_append_getElem (by omega : r.size - 1 < (sl r).length)
  rw [h2, List.take_of_length_le (by omega)]
set_option maxHeartbeats 800000 in
theorem trim_any (s : ByteArray) (w : World) (hs : s.size ≤ 140737488351232) :
    Calls Tryz.prog 181 #[.string s] w fun e w' => e = .returned (.string (mkS (Tok.trimL (sl s)))) ∧ w = w' := by
  go_enter Tryz.func181, Tryz.ntmps181
  go_wp2_with fail
  go_loop [0] (fun t => ∃ r : ByteArray, t = .string r ∧ r.size ≤ s.size ∧ Tok.trimL (sl s) = (((sl r).dropWhile Tok.blankB).reverse.dropWhile Tok.blankB).reverse) (fun t => strLen t)
  case atStart => exact ⟨s, rfl, Nat.le_refl _, rfl⟩
  case round =>
    obtain ⟨r, rfl, hrs, heq⟩ := hrel
    have HQ := Lib.hid heq
    clear heq
    have hcs : (r.size = 0 ∧ (!r.toList.isEmpty) = false ∧ Hid ((sl r).dropWhile Tok.blankB = sl r)) ∨ (0 < r.size ∧ ∃ h : 0 < r.size, (!r.toList.isEmpty) = true ∧ Tok.blankB r[0] = false ∧ Hid ((sl r).dropWhile Tok.blankB = sl r)) ∨ (0 < r.size ∧ ∃ h : 0 < r.size, (!r.toList.isEmpty) = true ∧ Tok.blankB r[0] = true) := by
      by_cases hr : r.size = 0
      · obtain rfl := empty_of_size r hr
        exact .inl ⟨rfl, by rw [ba_toList]; rfl, rfl⟩
      · have hr0 : 0 < r.size := by omega
        have hE : (!r.toList.isEmpty) = true := by rw [isEmpty_no r hr0]; rfl
        cases hb : Tok.blankB r[0]
        · exact .inr (.inl ⟨hr0, hr0, hE, hb, by show _ = _; rw [sl_cons r hr0, Tok.dw_cons_false hb]⟩)
        · exact .inr (.inr ⟨hr0, hr0, hE, hb⟩)
    rcases hcs with ⟨hr, hE, HD⟩ | ⟨hr0, h0, hE, hb, HD⟩ | ⟨hr0, h0, hE, hb⟩
    case inr.inr =>
      have HC := Lib.hid (sl_cons r hr0)
      go_wp2_with (go_at_call 231; refine (isBlank_any _ _).mono ?_; rintro e w' ⟨rfl, rfl⟩)
      go_round
      case rel => exact ⟨_, rfl, by rw [ext_size _ _ _ (Nat.le_refl _)]; omega, by rw [HQ.out, HC.out, Tok.dw_cons_true hb]⟩
      case measure => simp only [strLen]; rw [ext_size _ _ _ (Nat.le_refl _)]; omega
    all_goals
      have HR : Hid (Tok.trimL (sl s) = ((sl r).reverse.dropWhile Tok.blankB).reverse) := by show _ = _; rw [HQ.out, HD.out]
      clear HQ HD
      go_wp2_with (go_at_call 231; refine (isBlank_any _ _).mono ?_; rintro e w' ⟨rfl, rfl⟩)
      go_loop [0] (fun t => ∃ q : ByteArray, t = .string q ∧ q.size ≤ s.size ∧ Tok.trimL (sl s) = ((sl q).reverse.dropWhile Tok.blankB).reverse) (fun t => strLen t)
      case atStart => exact ⟨r, rfl, hrs, HR.out⟩
      case round =>
        clear hE HR
        try clear hb
        obtain ⟨q, rfl, hqs, heq⟩ := hrel
        have HQ := Lib.hid heq
        clear heq
        by_cases hq : q.size = 0
        · obtain rfl := empty_of_size q hq
          have hE : (!ByteArray.empty.toList.isEmpty) = false := by rw [ba_toList]; rfl
          have HF : Hid (mkS (Tok.trimL (sl s)) = ByteArray.empty) := by show _ = _; rw [HQ.out]; rfl
          go_wp2_with fail
          go_ret
          exact ⟨ret_str HF.out.symm, rfl⟩
        · have hq0 : 0 < q.size := by omega
          have hE : (!q.toList.isEmpty) = true := by rw [isEmpty_no q hq0]; rfl
          have HC := Lib.hid (sl_snoc q hq0)
          cases hb : Tok.blankB q[q.size - 1]
          · have HF : Hid (mkS (Tok.trimL (sl s)) = q) := by
              show _ = _
              rw [HQ.out, HC.out, List.reverse_append, List.reverse_singleton, List.singleton_append, Tok.dw_cons_false hb, ← List.singleton_append, List.reverse_append, List.reverse_reverse, List.reverse_singleton, ← HC.out, mkS_sl]
            go_wp2_with (go_at_call 231; refine (isBlank_any _ _).mono ?_; rintro e w' ⟨rfl, rfl⟩)
            go_ret
            exact ⟨ret_str HF.out.symm, rfl⟩
          · go_wp2_with (go_at_call 231; refine (isBlank_any _ _).mono ?_; rintro e w' ⟨rfl, rfl⟩)
            go_round
            case rel => exact ⟨_, rfl, by rw [ext_size _ _ _ (by omega)]; omega, by rw [HQ.out, HC.out, List.reverse_append, List.reverse_singleton, List.singleton_append, Tok.dw_cons_true hb]⟩
            case measure => simp only [strLen]; rw [ext_size _ _ _ (by omega)]; omega
namespace Tok
def partS (p : List UInt8) : ByteArray := mkS (trimL p)
theorem seg_succ {l : List UInt8} {f i : Nat} {c : UInt8} (hf : f ≤ i) (hc : l[i]? = some c) : (l.drop f).take (i + 1 - f) = (l.drop f).take (i - f) ++ [c] := by
  rw [show i + 1 - f = (i - f) + 1 from by omega, List.take_add_one, List.getElem?_drop, show f + (i - f) = i from by omega, hc]; rfl
theorem cutL_quote (sign c : UInt8) (q : Bool) (cur r : List UInt8) (h : (c == 34) = true) : cutL sign q cur (c :: r) = cutL sign (!q) (cur ++ [c]) r := by
  rw [cutL.eq_def]; simp only [h, if_true]
theorem cutL_esc (sign c d : UInt8) (cur r : List UInt8) (h : (c == 34) = false) (h2 : (c == 92) = true) : cutL sign true cur (c :: d :: r) = cutL sign true (cur ++ [c, d]) r := by
  rw [cutL.eq_def]; simp only [h, h2, Bool.true_and, if_true, Bool.false_eq_true, if_false]
theorem cutL_esc_end (sign c : UInt8) (cur : List UInt8) (h : (c == 34) = false) (h2 : (c == 92) = true) : cutL sign true cur [c] = none := by
  rw [cutL.eq_def]; simp only [h, h2, Bool.true_and, if_true, Bool.false_eq_true, if_false]
theorem cutL_sign (sign c : UInt8) (cur r : List UInt8) (h : (c == 34) = false) (h2 : (c == sign) = true) : cutL sign false cur (c :: r) = (cutL sign false [] r).map (cur :: ·) := by
  rw [cutL.eq_def]; simp only [h, h2, Bool.false_and, Bool.not_false, Bool.true_and, if_true, Bool.false_eq_true, if_false]
theorem cutL_q (sign c : UInt8) (cur r : List UInt8) (h : (c == 34) = false) (h2 : (c == 92) = false) : cutL sign true cur (c :: r) = cutL sign true (cur ++ [c]) r := by
  rw [cutL.eq_def]; simp only [h, h2, Bool.true_and, Bool.not_true, Bool.false_and, Bool.false_eq_true, if_false]
theorem cutL_n (sign c : UInt8) (cur r : List UInt8) (h : (c == 34) = false) (h2 : (c == sign) = false) : cutL sign false cur (c :: r) = cutL sign false (cur ++ [c]) r := by
  rw [cutL.eq_def]; simp only [h, h2, Bool.false_and, Bool.not_false, Bool.true_and, Bool.false_eq_true, if_false]
theorem map_cons_snoc {o : Option (List (List UInt8))} {parts : List (List UInt8)} {cur : List UInt8} : (o.map (cur :: ·)).map (parts ++ ·) = o.map ((parts ++ [cur]) ++ ·) := by
  cases o <;> simp
end Tok
def CutAns (T : TypeId) (base : Nat) (sign : UInt8) (l : List UInt8) (e : Ending) (w' : World) : Prop :=
  (Tok.cutL sign false [] l = none ∧ e = .returned (.tuple #[.slice none 0 0, .int .i64 3])) ∨
  ∃ ps v, Tok.cutL sign false [] l = some ps ∧ ps.length ≤ l.length + 1 ∧ e = .returned (.tuple #[v, .int .i64 0]) ∧ Owns w' base T 1 es v (ps.map Tok.partS)
set_option maxHeartbeats 1600000 in
theorem cut_any (s : ByteArray) (sign : UInt8) (w : World) (hs : s.size ≤ 1000) :
    Calls Tryz.prog 108 #[.string s, .int .u8 (sign.toNat : Int)] w fun e w' => CutAns 9 w.heap.size sign (sl s) e w' ∧ Below w.heap.size w w' := by
  go_enter Tryz.func108, Tryz.ntmps108
  go_wp2_with fail
  go_loopw [6, 7, 8, 9] (fun v t q i wr => ∃ (f k : Nat) (b : Bool) (parts : List (List UInt8)), f ≤ k ∧ f ≤ s.size ∧ k ≤ s.size + 1 ∧ (b = false → k ≤ s.size) ∧ parts.length ≤ f ∧ t = .int .i64 f ∧ q = .bool b ∧ i = .int .i64 k ∧
    Owns wr w.heap.size 9 1 es v (parts.map Tok.partS) ∧ Tok.cutL sign false [] (sl s) = (Tok.cutL sign b (((sl s).drop f).take (k - f)) ((sl s).drop k)).map (parts ++ ·) ∧ Below w.heap.size w wr) (fun _ _ _ i _ => s.size + 1 - (intOf i).toNat)
  case atStart => exact ⟨0, 0, false, [], Nat.le_refl _, by omega, by omega, by simp, by simp, rfl, rfl, rfl, Owns.nil _ _ _ _ _, by simp, Below.refl _ _⟩
  case round =>
    obtain ⟨f, k, b, parts, hfk, hfs, hks, hbk, hpl, rfl, rfl, rfl, hown, heq, hbel⟩ := hrel
    have HQ := Lib.hid heq
    have HB := Lib.hid hbk
    clear heq hbk
    by_cases hlt : k < s.size
    · have HC := Lib.hid (sl_getElem? s k hlt)
      have HD : Hid ((sl s).drop k = s[k] :: (sl s).drop (k + 1)) := by
        show _ = _
        rw [← sl_getElem s k hlt]; exact List.drop_eq_getElem_cons (by rw [sl_len]; exact hlt)
      cases c34 : ((s[k].toNat : Int) == 34)
      · have k34 : Hid ((s[k] == 34) = false) := (u8_beq s[k] 34).symm.trans c34
        cases b
        · cases csg : ((s[k].toNat : Int) == (sign.toNat : Int))
          · have ksg : Hid ((s[k] == sign) = false) := (u8_beq s[k] sign).symm.trans csg
            go_wp2_with fail
            go_roundw
            case rel => exact ⟨f, k + 1, false, parts, by omega, hfs, by omega, by omega, hpl, rfl, rfl, by go_num, hown, by rw [HQ.out, HD.out, Tok.cutL_n _ _ _ _ k34.out ksg.out, Tok.seg_succ hfk HC.out], hbel⟩
            case measure => simp [intOf]; omega
          · have ksg : Hid ((s[k] == sign) = true) := (u8_beq s[k] sign).symm.trans csg
            have hx : (s.extract f k).size ≤ 140737488351232 := by rw [ext_size _ _ _ (by omega)]; omega
            have hex := Lib.hid (sl_extract s f k)
            go_wp2_with (first | (go_at_call 181; refine (trim_any _ _ hx).mono ?_; rintro e w' ⟨rfl, rfl⟩) | (at_builtin; go_must (refine wpList_append_owns rfl (.tmp 43) (.tmp 49) _ rfl w.heap.size 9 (.string ByteArray.empty) 1 16 es Tryz.underlying69 stringInfo rfl (by decide) _ _ rfl (hown.alloc _) ⟨wr.heap.size, 0, none⟩ 1 1 [Tok.partS (sl (s.extract f k))] rfl rfl rfl (new_cells _ [.string (Tok.partS (sl (s.extract f k)))] _) (es_one [_]) (by simp only [List.length_map, maxLen]; omega) (by simp only [List.length_map]; omega) (bel_size hbel (Nat.le_refl _) _) ?_); intro v1 w1 hown1 hg1))
            go_roundw
            case rel => exact ⟨k + 1, k + 1, false, parts ++ [((sl s).drop f).take (k - f)], by omega, by omega, by omega, by omega, by simp; omega, by go_num, rfl, by go_num, by rw [hex.out] at hown1; simpa using hown1, by rw [HQ.out, HD.out, Tok.cutL_sign _ _ _ _ k34.out ksg.out, Tok.map_cons_snoc]; simp, bel_append hbel (Nat.le_refl _) hown hg1⟩
            case measure => simp [intOf]; omega
        · cases c92 : ((s[k].toNat : Int) == 92)
          · have k92 : Hid ((s[k] == 92) = false) := (u8_beq s[k] 92).symm.trans c92
            go_wp2_with fail
            go_roundw
            case rel => exact ⟨f, k + 1, true, parts, by omega, hfs, by omega, by simp, hpl, rfl, rfl, by go_num, hown, by rw [HQ.out, HD.out, Tok.cutL_q _ _ _ _ k34.out k92.out, Tok.seg_succ hfk HC.out], hbel⟩
            case measure => simp [intOf]; omega
          · have k92 : Hid ((s[k] == 92) = true) := (u8_beq s[k] 92).symm.trans c92
            go_wp2_with fail
            go_roundw
            case rel =>
              refine ⟨f, k + 2, true, parts, by omega, hfs, by omega, by simp, hpl, rfl, rfl, by go_num, hown, ?_, hbel⟩
              rw [HQ.out, HD.out]
              by_cases h1 : k + 1 < s.size
              · have e1 := sl_getElem? s (k + 1) h1
                have e2 : (sl s).drop (k + 1) = s[k + 1] :: (sl s).drop (k + 2) := by
                  rw [← sl_getElem s (k + 1) h1]; exact List.drop_eq_getElem_cons (by rw [sl_len]; exact h1)
                rw [e2, Tok.cutL_esc _ _ _ _ _ k34.out k92.out, show k + 2 = (k + 1) + 1 from rfl, Tok.seg_succ (by omega) e1, Tok.seg_succ hfk HC.out]
                simp
              · have e2 : (sl s).drop (k + 1) = [] := List.drop_eq_nil_of_le (by rw [sl_len]; omega)
                have e3 : (sl s).drop (k + 2) = [] := List.drop_eq_nil_of_le (by rw [sl_len]; omega)
                rw [e2, e3, Tok.cutL_esc_end _ _ _ k34.out k92.out]
                rfl
            case measure => simp [intOf]; omega
      · have k34 : Hid ((s[k] == 34) = true) := (u8_beq s[k] 34).symm.trans c34
        go_wp2_with fail
        go_roundw
        case rel => exact ⟨f, k + 1, !b, parts, by omega, hfs, by omega, by omega, hpl, rfl, rfl, by go_num, hown, by rw [HQ.out, HD.out, Tok.cutL_quote _ _ _ _ _ k34.out, Tok.seg_succ hfk HC.out], hbel⟩
        case measure => simp [intOf]; omega
    · have HE : Hid ((sl s).drop k = []) := by show _ = _; exact List.drop_eq_nil_of_le (by rw [sl_len]; omega)
      cases b
      · have hk := HB.out rfl
        have HF : Hid (Tok.cutL sign false [] (sl s) = some (parts ++ [(sl s).drop f])) := by
          show _ = _
          have e : ((sl s).drop f).take (k - f) = (sl s).drop f := List.take_of_length_le (by rw [List.length_drop, sl_len]; omega)
          rw [HQ.out, HE.out, e]; rfl
        have hx : (s.extract f s.size).size ≤ 140737488351232 := by rw [ext_size _ _ _ (by omega)]; omega
        have hex := Lib.hid (sl_extract_end s f)
        go_wp2_with (first | (go_at_call 181; refine (trim_any _ _ hx).mono ?_; rintro e w' ⟨rfl, rfl⟩) | (at_builtin; go_must (refine wpList_append_owns rfl (.tmp 54) (.tmp 59) _ rfl w.heap.size 9 (.string ByteArray.empty) 1 16 es Tryz.underlying69 stringInfo rfl (by decide) _ _ rfl (hown.alloc _) ⟨wr.heap.size, 0, none⟩ 1 1 [Tok.partS (sl (s.extract f s.size))] rfl rfl rfl (new_cells _ [.string (Tok.partS (sl (s.extract f s.size)))] _) (es_one [_]) (by simp only [List.length_map, maxLen]; omega) (by simp only [List.length_map]; omega) (bel_size hbel (Nat.le_refl _) _) ?_); intro v1 w1 hown1 hg1))
        go_ret2
        exact ⟨.inr ⟨_, _, HF.out, by simp [sl_len]; omega, rfl, by rw [hex.out] at hown1; simpa using hown1⟩, bel_append hbel (Nat.le_refl _) hown hg1⟩
      · go_wp2_with fail
        go_ret2
        exact ⟨.inl ⟨by rw [HQ.out, HE.out]; rfl, rfl⟩, hbel⟩
set_option maxRecDepth 20000
namespace Tok
def ne (s : ByteArray) : Bool := !s.toList.isEmpty
theorem ne_mkS (l : List UInt8) : ne (mkS l) = !l.isEmpty := by unfold ne; rw [ba_toList, sl_mkS]
def splitL (l : List UInt8) : Except Int (List (List UInt8)) :=
  if 1000 < l.length then .error 2
  else match cutL 44 false [] l with
    | none => .error 3
    | some ps => if 20 < ((ps.map trimL).filter (fun p => !p.isEmpty)).length then .error 2 else .ok ((ps.map trimL).filter (fun p => !p.isEmpty))
theorem filter_parts (ps : List (List UInt8)) : (ps.map partS).filter ne = ((ps.map trimL).filter (fun p => !p.isEmpty)).map mkS := by
  induction ps with
  | nil => rfl
  | cons p ps ih =>
    simp only [List.map_cons, List.filter_cons]
    have e : ne (partS p) = !(trimL p).isEmpty := ne_mkS _
    rw [e]
    cases (trimL p).isEmpty
    · simp [ih, partS]
    · simp [ih]
end Tok
def SplitAns (T : TypeId) (base : Nat) (l : List UInt8) (e : Ending) (w' : World) : Prop :=
  match Tok.splitL l with
  | .error c => e = .returned (.tuple #[.slice none 0 0, .int .i64 c])
  | .ok out => ∃ v, e = .returned (.tuple #[v, .int .i64 0]) ∧ Owns w' base T 1 es v (out.map mkS)
set_option maxHeartbeats 1600000 in
theorem split_any (s : ByteArray) (w : World) (hs : s.size ≤ 140737488351232) :
    Calls Tryz.prog 59 #[.string s] w fun e w' => SplitAns 9 w.heap.size (sl s) e w' ∧ Below w.heap.size w w' := by
  by_cases h1000 : 1000 < s.size
  · have HF : Hid (Tok.splitL (sl s) = .error 2) := by show _ = _; unfold Tok.splitL; rw [sl_len, if_pos h1000]
    go_enter Tryz.func59, Tryz.ntmps59
    go_wp2_with fail
    go_ret2
    exact ⟨by unfold SplitAns; rw [HF.out]; rfl, Below.refl _ _⟩
  · have HS : Hid (Tok.splitL (sl s) = match Tok.cutL 44 false [] (sl s) with
        | none => .error 3
        | some ps => if 20 < ((ps.map Tok.trimL).filter (fun p => !p.isEmpty)).length then .error 2 else .ok ((ps.map Tok.trimL).filter (fun p => !p.isEmpty))) := by
      show _ = _; unfold Tok.splitL; rw [sl_len, if_neg h1000]
    go_enter Tryz.func59, Tryz.ntmps59
    go_wp2_with fail
    refine (cut_any s 44 _ (by omega)).mono ?_
    rintro e w1 ⟨ha, hb1⟩
    rcases ha with ⟨hc, rfl⟩ | ⟨ps, v, hc, hlen, rfl, hown⟩
    · have HC := Lib.hid hc
      clear hc
      go_wp2_with fail
      go_ret2
      exact ⟨by unfold SplitAns; rw [HS.out, HC.out]; rfl, hb1⟩
    · have HC := Lib.hid hc
      have hfp := Tok.filter_parts ps
      have hr := SlR.of_owns hown
      have hl2 : (ps.map Tok.partS).length ≤ 1001 := by rw [List.length_map]; rw [sl_len] at hlen; omega
      have HF := Lib.hid hfp
      clear hc hown hlen hfp
      generalize ps.map Tok.partS = xs at hr hl2 HF
      obtain ⟨A, c, rfl, hcap, hA⟩ := hr
      go_wp2_with fail
      go_loopw [6, 22] (fun o i wr => ∃ k : Nat, k ≤ xs.length ∧ i = .int .i64 k ∧ Owns wr w1.heap.size 9 1 es o ((xs.take k).filter Tok.ne) ∧ Below w1.heap.size w1 wr) (fun _ i _ => xs.length - (intOf i).toNat)
      case atStart => exact ⟨0, by omega, rfl, Owns.nil _ _ _ _ _, Below.refl _ _⟩
      case round =>
        obtain ⟨k, hk, rfl, hown, hbel⟩ := hrel
        have hfl : ((xs.take k).filter Tok.ne).length ≤ k := Nat.le_trans (List.length_filter_le _ _) (List.length_take_le _ _)
        by_cases hlt : k < xs.length
        · obtain ⟨b, off, rfl, hb, hcell⟩ := hA (by omega)
          have hc1 := (hbel.cell (p := ⟨b, off + k, none⟩) hb).trans (hcell k (.string xs[k]) (by rw [es_map]; simp [hlt]))
          have HT : Hid (xs.take (k + 1) = xs.take k ++ [xs[k]]) := by show _ = _; rw [List.take_add_one, List.getElem?_eq_getElem hlt]; rfl
          clear hA hcell
          cases hne : (!xs[k].toList.isEmpty)
          · have HN : Hid (Tok.ne xs[k] = false) := hne
            go_wp2_with fail
            go_roundw
            case rel => exact ⟨k + 1, by omega, by go_num, by rw [HT.out, List.filter_append, List.filter_cons, HN.out]; simpa using hown, hbel⟩
            case measure => simp [intOf]; omega
          · have HN : Hid (Tok.ne xs[k] = true) := hne
            go_wp2_with (at_builtin; go_must (refine wpList_append_owns rfl (.tmp 28) (.tmp 30) _ rfl w1.heap.size 9 (.string ByteArray.empty) 1 16 es Tryz.underlying69 stringInfo rfl (by decide) _ _ rfl (hown.alloc _) ⟨wr.heap.size, 0, none⟩ 1 1 [xs[k]] rfl rfl rfl (new_cells _ [.string xs[k]] _) (es_one [_]) (by simp only [maxLen]; omega) (by omega) (bel_size hbel (Nat.le_refl _) _) ?_); intro v2 w2 hown2 hg2)
            go_roundw
            case rel => exact ⟨k + 1, by omega, by go_num, by rw [HT.out, List.filter_append, List.filter_cons, HN.out]; exact hown2, bel_append hbel (Nat.le_refl _) hown hg2⟩
            case measure => simp [intOf]; omega
        · have ht : xs.take k = xs := List.take_of_length_le (by omega)
          rw [ht] at hown hfl
          rw [HF.out] at hown hfl
          clear ht hA
          obtain ⟨out, HW⟩ : ∃ out, Hid (((ps.map Tok.trimL).filter (fun p => !p.isEmpty)).map mkS = out) := ⟨_, rfl⟩
          have HM : Hid (out.length = ((ps.map Tok.trimL).filter (fun p => !p.isEmpty)).length) := by show _ = _; rw [← HW.out, List.length_map]
          rw [HW.out] at hown hfl
          have hbw : Below w.heap.size w wr := hb1.trans (hbel.mono hb1.size)
          have HO := Lib.hid hown
          by_cases h20 : 20 < out.length
          · have HE : Hid (Tok.splitL (sl s) = .error 2) := by
              show _ = _; rw [HS.out, HC.out]; show (if _ then _ else _) = _; rw [if_pos (by rw [← HM.out]; exact h20)]
            rcases hown.form with ⟨hv, ha⟩ | ⟨g, cap, hv⟩
            · rw [ha] at h20; simp at h20
            · clear hown
              subst hv
              go_wp2_with fail
              go_ret2
              exact ⟨by unfold SplitAns; rw [HE.out]; rfl, hbw⟩
          · have HE : Hid (Tok.splitL (sl s) = .ok ((ps.map Tok.trimL).filter (fun p => !p.isEmpty))) := by
              show _ = _; rw [HS.out, HC.out]; show (if _ then _ else _) = _; rw [if_neg (by rw [← HM.out]; exact h20)]
            rcases hown.form with ⟨hv, ha⟩ | ⟨g, cap, hv⟩
            all_goals
              clear hown
              try clear ha
              subst hv
              go_wp2_with fail
              go_ret2
              exact ⟨by unfold SplitAns; rw [HE.out]; exact ⟨_, rfl, by rw [HW.out]; exact HO.out.mono hb1.size⟩, hbw⟩
namespace Tok
end Tok
theorem indexByte_case (l : List UInt8) (c : UInt8) : (∃ k : Nat, ∃ hk : k < l.length, Lib.indexByte l c = (k : Int) ∧ l[k] = c ∧ c ∉ l.take k) ∨ (Lib.indexByte l c = -1 ∧ c ∉ l) := by
  induction l with
  | nil => exact .inr ⟨rfl, by simp⟩
  | cons b l ih =>
    by_cases hb : b = c
    · refine .inl ⟨0, by simp, ?_, hb, by simp⟩
      simp [Lib.indexByte, hb]
    · have hb' : (b == c) = false := by simpa using hb
      rcases ih with ⟨k, hk, h1, h2, h3⟩ | ⟨h1, h2⟩
      · refine .inl ⟨k + 1, by simpa using hk, ?_, by simpa using h2, ?_⟩
        · have : ((k : Int) == -1) = false := by rw [beq_eq_false_iff_ne]; omega
          simp only [Lib.indexByte, hb', h1, this, Bool.false_eq_true, if_false]
          omega
        · simp only [List.take_succ_cons, List.mem_cons, not_or]
          exact ⟨fun e => hb e.symm, h3⟩
      · refine .inr ⟨?_, by simp only [List.mem_cons, not_or]; exact ⟨fun e => hb e.symm, h2⟩⟩
        simp [Lib.indexByte, hb', h1]
theorem indexByte_nn (l : List UInt8) (c : UInt8) : decide (0 ≤ Lib.indexByte l c) = l.contains c := by
  rcases indexByte_case l c with ⟨k, hk, h1, h2, _⟩ | ⟨h1, h2⟩
  · rw [h1, List.contains_iff_mem.2 (by rw [← h2]; exact List.getElem_mem hk)]; simp
  · rw [h1]
    have : l.contains c = false := by rw [← Bool.not_eq_true, List.contains_iff_mem]; exact h2
    rw [this]; rfl
namespace Tok
def signs : List UInt8 := [33, 35, 36, 37, 38, 39, 42, 43, 45, 46, 94, 95, 96, 124, 126]
def alnum (c : UInt8) : Bool := (97 ≤ c && c ≤ 122) || (65 ≤ c && c ≤ 90) || (48 ≤ c && c ≤ 57)
def tokB (c : UInt8) : Bool := alnum c || signs.contains c
def isTok (s : ByteArray) : Bool := (sl s).all tokB && decide (0 < s.size)
end Tok
theorem alnum_iff (c : UInt8) : Tok.alnum c = true ↔ (97 ≤ (c.toNat : Int) ∧ (c.toNat : Int) ≤ 122) ∨ (65 ≤ (c.toNat : Int) ∧ (c.toNat : Int) ≤ 90) ∨ (48 ≤ (c.toNat : Int) ∧ (c.toNat : Int) ≤ 57) := by
  simp [Tok.alnum, u8_le]
  omega
set_option maxHeartbeats 800000 in
theorem isTokenByte_any (c : UInt8) (w : World) :
    Calls Tryz.prog 109 #[.int .u8 c.toNat] w fun e w' => e = .returned (.bool (Tok.tokB c)) ∧ w = w' := by
  have hb := c.toNat_lt
  cases ha : Tok.alnum c
  · have hn : ¬ _ := fun h => by have := (alnum_iff c).2 h; rw [ha] at this; cases this
    have hi : decide (0 ≤ Lib.indexByte Tok.signs c) = Tok.tokB c := by rw [indexByte_nn]; unfold Tok.tokB; rw [ha, Bool.false_or]
    have hc : (c.toNat : Int).toNat.toUInt8 = c := by simp
    have HI := Lib.hid (Tryz.strings_IndexByte ⟨Tok.signs.toArray⟩ (c.toNat : Int))
    rw [hc] at HI
    have HD := Lib.hid hi
    clear hc hi ha
    simp only [not_or, not_and, Int.not_le] at hn
    obtain ⟨n1, n2, n3⟩ := hn
    go_enter Tryz.func109, Tryz.ntmps109
    go_wp2_with ((go_at_call 158; refine (HI.out _).mono ?_); rintro e w' ⟨rfl, rfl⟩)
    all_goals
      first
        | (exfalso; omega)
        | (go_ret
           exact ⟨ret_bool HD.out, rfl⟩)
  · have hy := (alnum_iff c).1 ha
    have HT : Hid (Tok.tokB c = true) := by show _ = _; unfold Tok.tokB; rw [ha]; rfl
    clear ha
    go_enter Tryz.func109, Tryz.ntmps109
    go_wp2_with fail
    all_goals
      first
        | (exfalso; omega)
        | (go_ret
           exact ⟨ret_bool HT.out.symm, rfl⟩)
set_option maxHeartbeats 800000 in
theorem isToken_any (s : ByteArray) (w : World) (hs : s.size ≤ 9223372036854775807) :
    Calls Tryz.prog 60 #[.string s] w fun e w' => e = .returned (.bool (Tok.isTok s)) ∧ w = w' := by
  go_enter Tryz.func60, Tryz.ntmps60
  go_wp2_with fail
  go_loop [6] (fun i => ∃ k : Nat, k ≤ s.size ∧ i = .int .i64 k ∧ ((sl s).take k).all Tok.tokB = true) (fun i => s.size - (intOf i).toNat)
  case atStart => exact ⟨0, by omega, rfl, by simp⟩
  case round =>
    obtain ⟨k, hk, rfl, hall⟩ := hrel
    have HA := Lib.hid hall
    clear hall
    by_cases hlt : k < s.size
    · have HC := Lib.hid (sl_getElem? s k hlt)
      cases hq : Tok.tokB s[k]
      all_goals
        have HQ := Lib.hid hq
        have HI := Lib.hid (isTokenByte_any s[k])
        rw [hq] at HI
        clear hq
        go_wp2_with fail
        refine (HI.out _).mono ?_
        rintro e w' ⟨rfl, rfl⟩
        go_wp2_with fail
      · go_ret
        exact ⟨ret_bool (by unfold Tok.isTok; rw [all_false HC.out HQ.out]; rfl), rfl⟩
      · go_round
        case rel => exact ⟨k + 1, by omega, by go_num, all_take_succ HC.out HA.out HQ.out⟩
        case measure => simp [intOf]; omega
    · have HF : Hid ((!s.toList.isEmpty) = Tok.isTok s) := by
        show _ = _
        unfold Tok.isTok
        have := HA.out
        rw [List.take_of_length_le (by rw [sl_len]; omega)] at this
        rw [this, Bool.true_and, ba_toList]
        rcases Nat.eq_zero_or_pos s.size with h | h
        · rw [empty_of_size s h]; rfl
        · rw [sl_cons s h, decide_eq_true h]; rfl
      go_wp2_with fail
      go_ret
      exact ⟨ret_bool HF.out, rfl⟩
namespace Tok
def seg : List UInt8 → List UInt8 → List (List UInt8)
  | cur, [] => [cur]
  | cur, c :: r => if c == 44 then cur :: seg [] r else seg (cur ++ [c]) r
def parts (cur l : List UInt8) : List (List UInt8) := ((seg cur l).map trimL).filter (fun p => !p.isEmpty)
end Tok
def Buf (w : World) (g : Nat) (l : List UInt8) : Prop := g < w.heap.size ∧ ∀ j (hj : j < l.length), w.cell? ⟨g, j, none⟩ = some (bv l[j]) ∧ w.frozen? ⟨g, j, none⟩ = false
theorem Buf.cell {w : World} {g : Nat} {l : List UInt8} (h : Buf w g l) (j : Nat) (hj : j < l.length) : w.cell? ⟨g, j, none⟩ = some (bv l[j]) := (h.2 j hj).1
theorem Buf.free {w : World} {g : Nat} {l : List UInt8} (h : Buf w g l) (j : Nat) (hj : j < l.length) : w.frozen? ⟨g, j, none⟩ = false := (h.2 j hj).2
theorem Buf.put {w : World} {g : Nat} {l : List UInt8} (h : Buf w g l) (i : Nat) (hi : i < l.length) (c : UInt8) : Buf (w.setCell ⟨g, i, none⟩ (bv c)) g (l.set i c) := by
  refine ⟨by simpa using h.1, fun j hj => ?_⟩
  rw [List.length_set] at hj
  refine ⟨?_, by rw [World.frozen?_setCell]; exact h.free j hj⟩
  by_cases e : i = j
  · subst e
    rw [World.cell?_setCell_same _ _ _ (h.cell i hi)]
    simp
  · rw [World.cell?_setCell_other _ _ _ _ (by intro h; injection h with _ h2 _; exact e h2), h.cell j hj]
    simp [e]
section
variable {P : Program}
theorem buf_new (w : World) (e : TypeId) (s : ByteArray) (cap : Nat) (fr : Nat × Nat) (h0 : s.size ≤ fr.1) : Buf (w.drew.alloc (.cells (bytesRow s cap) e fr)) w.heap.size (sl s) := by
  refine ⟨by simp, fun j hj => ?_⟩
  have hj' : j < s.size := by rwa [sl_len] at hj
  have hh : (w.drew.alloc (.cells (bytesRow s cap) e fr)).heap[w.heap.size]? = some (.cells (bytesRow s cap) e fr) := heap_alloc_new w.drew _
  constructor
  · rw [cell_of_row _ _ j _ _ _ hh]
    simp [bytesRow, sl, bv, Array.getElem?_append, hj']
  · simp only [World.frozen?, hh]
    simp
    omega
theorem wpList_to_bytes {ops : Array Oper} {rest : List Oper} {o : Oper} {a : Act} {Q : Exit → Act → World → Prop} {w : World} (hgd : o.guard = none) (x : Operand) (src dst e : TypeId)
    (ho : o.op = .convert src dst x) (hs : P.underlying src = some .string) (hd : P.underlying dst = some (.slice e)) (he : P.underlying e = some (.int .u8)) (s : ByteArray) (hx : a.eval x = .string s)
    (h : ∀ c w1, s.size ≤ c → Buf w1 w.heap.size (sl s) → Below w.heap.size w w1 → w1.heap.size = w.heap.size + 1 → wpList P ops Q rest (a.put o.dst (.slice (some ⟨w.heap.size, 0, none⟩) s.size c)) w1) : wpList P ops Q (o :: rest) a w := by
  refine wpList_plain hgd fun K hK => ?_
  unfold Oper.wp execOp
  simp only [ho, hx, Sem.run_bind, Result.andThen_ok, run_bytes_of_string w src dst e s hs hd he]
  have hc : s.size ≤ grownCap w s.size 0 e := grownCap_ge _ _ _ _
  refine hK _ _ (h _ _ hc (buf_new w e s _ _ ?_) ((Below.refl _ _).drew.alloc (by simp) _) (by simp))
  simp [bytesRow]
theorem run_string_buf {src dst e : TypeId} (hs : P.underlying src = some (.slice e)) (he : P.underlying e = some (.int .u8)) (hd : P.underlying dst = some .string) {w : World} {g : Nat} {l : List UInt8} (h : Buf w g l) (cap : Nat) :
    (convert src dst (.slice (some ⟨g, 0, none⟩) l.length cap)).run P w = .ok (.string (mkS l)) w := by
  refine run_convert_bytes_back w src dst e ⟨g, 0, none⟩ cap l hs he hd (fun j hj => ?_)
  have e : ((⟨g, 0, none⟩ : Addr).add j) = ⟨g, j, none⟩ := by unfold Addr.add; split <;> simp_all
  rw [e]; exact h.cell j hj
end
namespace Tok
def lowB (c : UInt8) : UInt8 := if 65 ≤ c ∧ c ≤ 90 then c + 32 else c
def low (l : List UInt8) : List UInt8 := l.map lowB
theorem lowB_up {c : UInt8} (h0 : 65 ≤ (c.toNat : Int)) (h1 : (c.toNat : Int) ≤ 90) : ((lowB c).toNat : Int) = (c.toNat : Int) + 32 := by
  unfold lowB
  rw [if_pos ⟨by rw [u8_le]; exact h0, by rw [u8_le]; exact h1⟩, UInt8.toNat_add]
  have : (32 : UInt8).toNat = 32 := rfl
  rw [this]; omega
theorem lowB_no {c : UInt8} (h : (c.toNat : Int) < 65 ∨ 90 < (c.toNat : Int)) : lowB c = c := by
  unfold lowB
  rw [if_neg]
  rw [u8_le, u8_le]
  have : ((65 : UInt8).toNat : Int) = 65 := rfl
  have : ((90 : UInt8).toNat : Int) = 90 := rfl
  omega
theorem lowB_low (c : UInt8) : lowB (lowB c) = lowB c := by
  by_cases h : 65 ≤ (c.toNat : Int) ∧ (c.toNat : Int) ≤ 90
  · apply lowB_no; rw [lowB_up h.1 h.2]; omega
  · rw [lowB_no (c := c) (by omega), lowB_no (c := c) (by omega)]
theorem low_low (l : List UInt8) : low (low l) = low l := by
  unfold low; rw [List.map_map]; exact List.map_congr_left (fun a _ => lowB_low a)
theorem low_len (l : List UInt8) : (low l).length = l.length := List.length_map ..
def lowTo (l : List UInt8) (k : Nat) : List UInt8 := low (l.take k) ++ l.drop k
theorem lowTo_len (l : List UInt8) (k : Nat) : (lowTo l k).length = l.length := by simp [lowTo, low]; omega
theorem lowTo_at {l : List UInt8} {k : Nat} (h : k < l.length) : (lowTo l k)[k]'(by rw [lowTo_len]; exact h) = l[k] := by
  unfold lowTo
  rw [List.getElem_append_right (by simp [low]; omega)]
  simp only [List.getElem_drop]
  congr 1
  simp [low]; omega
theorem lowTo_set {l : List UInt8} {k : Nat} (h : k < l.length) : (lowTo l k).set k (lowB l[k]) = lowTo l (k + 1) := by
  unfold lowTo
  have hl : (low (l.take k)).length = k := by simp [low]; omega
  rw [List.set_append_right _ _ (by omega), hl, Nat.sub_self, List.drop_eq_getElem_cons h, List.set_cons_zero, List.take_add_one, List.getElem?_eq_getElem h]
  unfold low
  rw [List.map_append, List.append_assoc]
  rfl
theorem lowTo_keep {l : List UInt8} {k : Nat} (h : k < l.length) (he : lowB l[k] = l[k]) : lowTo l (k + 1) = lowTo l k := by
  rw [← lowTo_set h, he]
  have := lowTo_at h
  rw [← this, List.set_getElem_self]
end Tok
set_option maxHeartbeats 800000 in
theorem lower_any (s : ByteArray) (w : World) (hs : s.size ≤ 140737488351232) :
    Calls Tryz.prog 61 #[.string s] w fun e w' => e = .returned (.string (mkS (Tok.low (sl s)))) ∧ Below w.heap.size w w' := by
  go_enter Tryz.func61, Tryz.ntmps61
  go_wp2_with ((refine wpList_to_bytes rfl (.tmp 6) 9 135 5 rfl Tryz.underlying9 Tryz.underlying135 Tryz.underlying5 s rfl ?_); intro cp w2 hcp hbuf b2 hsz2)
  go_loopw [10] (fun i wr => ∃ k : Nat, k ≤ s.size ∧ i = .int .i64 k ∧ Buf wr w.heap.size (Tok.lowTo (sl s) k) ∧ Below w.heap.size w wr) (fun i _ => s.size - (intOf i).toNat)
  case atStart => exact ⟨0, by omega, rfl, hbuf, b2⟩
  case round =>
    obtain ⟨k, hk, rfl, hb, hbel⟩ := hrel
    have hgl := hb.1
    by_cases hlt : k < s.size
    · have hkl : k < (sl s).length := by rw [sl_len]; exact hlt
      have hkl' : k < (Tok.lowTo (sl s) k).length := by rw [Tok.lowTo_len]; exact hkl
      have c0 := hb.cell k hkl'
      have f0 := hb.free k hkl'
      rw [Tok.lowTo_at hkl] at c0
      have HP := Lib.hid (hb.put k hkl' (Tok.lowB (sl s)[k]))
      have HS : Hid ((Tok.lowTo (sl s) k).set k (Tok.lowB (sl s)[k]) = Tok.lowTo (sl s) (k + 1)) := Tok.lowTo_set hkl
      have HK : Hid (Tok.lowB (sl s)[k] = (sl s)[k] → Tok.lowTo (sl s) (k + 1) = Tok.lowTo (sl s) k) := fun h => Tok.lowTo_keep hkl h
      generalize (sl s)[k] = c at c0 HP HS HK
      have HB := Lib.hid hb
      have hcb := c.toNat_lt
      simp only [bv] at c0
      clear hb hkl hkl'
      by_cases hup : 65 ≤ (c.toNat : Int) ∧ (c.toNat : Int) ≤ 90
      · obtain ⟨u1, u2⟩ := hup
        have HL := Lib.hid (Tok.lowB_up u1 u2)
        go_wp2
        go_roundw
        case rel =>
          refine ⟨k + 1, by omega, by go_num, ?_, hbel.setCell (p := ⟨w.heap.size, k, none⟩) (Nat.le_refl _) _⟩
          rw [← HS.out, show Value.int IntKind.u8 ((c.toNat : Int) + 97 - 65) = bv (Tok.lowB c) from by unfold bv; rw [HL.out]; congr 1; omega]
          exact HP.out
        case measure => simp [intOf]; omega
      · have HN := Lib.hid (Tok.lowB_no (c := c) (by omega))
        go_wp2
        all_goals
          go_roundw
          case rel => exact ⟨k + 1, by omega, by go_num, by rw [HK.out HN.out]; exact HB.out, hbel⟩
          case measure => simp [intOf]; omega
    · obtain rfl : k = s.size := by omega
      have hE : Tok.lowTo (sl s) s.size = Tok.low (sl s) := by
        unfold Tok.lowTo; rw [List.take_of_length_le (by rw [sl_len]; omega), List.drop_eq_nil_of_le (by rw [sl_len]; omega), List.append_nil]
      rw [hE] at hb
      have hrs := run_string_buf (dst := 9) Tryz.underlying135 Tryz.underlying5 Tryz.underlying9 hb cp
      rw [Tok.low_len, sl_len] at hrs
      clear hE hb
      go_wp2
      go_ret
      exact ⟨rfl, hbel⟩
def CutOne (s : ByteArray) (c : UInt8) (e : Ending) : Prop :=
  (∃ a b, sl s = a ++ c :: b ∧ c ∉ a ∧ e = .returned (.tuple #[.string (mkS a), .string (mkS b), .bool true])) ∨ (c ∉ sl s ∧ e = .returned (.tuple #[.string s, .string ByteArray.empty, .bool false]))
theorem slite_cut_any (s : ByteArray) (c : UInt8) (w : World) (hs : s.size ≤ 140737488351232) :
    Calls Tryz.prog 159 #[.string s, .string ⟨#[c]⟩] w fun e w' => CutOne s c e ∧ ∃ n, w' = w.drewN n := by
  have HI := Lib.hid (Tryz.stringslite_Index_one s c)
  have hcs := indexByte_case (sl s) c
  rcases hcs with ⟨k, hk, h1, h2, h3⟩ | ⟨h1, h2⟩
  · rw [sl_len] at hk
    rw [show Lib.indexByte s.data.toList c = (k : Int) from h1] at HI
    have HS : Hid (sl s = (sl s).take k ++ c :: (sl s).drop (k + 1) ∧ c ∉ (sl s).take k) := by
      refine ⟨?_, h3⟩
      conv => lhs; rw [← List.take_append_drop k (sl s), List.drop_eq_getElem_cons (by rw [sl_len]; exact hk), h2]
    have e1 : s.extract 0 k = mkS ((sl s).take k) := sl_inj (by rw [sl_extract, sl_mkS, Nat.sub_zero, List.drop_zero])
    have e2 : s.extract (k + 1) s.size = mkS ((sl s).drop (k + 1)) := sl_inj (by rw [sl_extract_end, sl_mkS])
    have i1 : (k : Int) + 1 ≤ (s.size : Int) := by omega
    have i2 : (k : Int) ≤ (s.size : Int) := by omega
    have htn : ((k : Int) + 1).toNat = k + 1 := by omega
    have hnn : 0 ≤ (k : Int) + 1 := by omega
    have hwr : IntKind.i64.wrap ((k : Int) + 1) = (k : Int) + 1 := IntWalk.i64_in _ (by omega)
    clear h1 h2 h3
    generalize (sl s).take k = a at *
    generalize (sl s).drop (k + 1) = b at *
    go_enter Tryz.func159, Tryz.ntmps159
    go_wp2_with fail
    refine (HI.out _).mono ?_
    rintro e w' ⟨rfl, rfl⟩
    go_wp2_with fail
    go_quiet (fail)
    go_wp2_with fail
    refine bodyPost_ret (v := .tuple #[.string (mkS a), .string (mkS b), .bool true]) (by simp [results, Tryz.results159, go_sem]) rfl ⟨.inl ⟨a, b, HS.out.1, HS.out.2, rfl⟩, _, rfl⟩
  · rw [show Lib.indexByte s.data.toList c = -1 from h1] at HI
    have H2 := Lib.hid h2
    clear h1 h2
    go_enter Tryz.func159, Tryz.ntmps159
    go_wp2_with fail
    refine (HI.out _).mono ?_
    rintro e w' ⟨rfl, rfl⟩
    go_wp2_with fail
    refine bodyPost_ret (v := .tuple #[.string s, .string ByteArray.empty, .bool false]) (by simp [results, Tryz.results159, go_sem]; rfl) rfl ⟨.inr ⟨H2.out, rfl⟩, 0, rfl⟩
theorem cut_one (s : ByteArray) (c : UInt8) (w : World) (hs : s.size ≤ 140737488351232) :
    Calls Tryz.prog 86 #[.string s, .string ⟨#[c]⟩] w fun e w' => CutOne s c e ∧ Below w.heap.size w w' := by
  go_enter Tryz.func86, Tryz.ntmps86
  go_wp2_with fail
  refine (slite_cut_any s c _ hs).mono ?_
  rintro e w' ⟨h, n, rfl⟩
  rcases h with ⟨a, b, h1, h2, rfl⟩ | ⟨h1, rfl⟩
  · have HR := Lib.hid (And.intro h1 h2)
    clear h1 h2
    go_wp2_with fail
    refine bodyPost_ret (v := .tuple #[.string (mkS a), .string (mkS b), .bool true]) (by simp [results, Tryz.results86, go_sem]) rfl ⟨.inl ⟨a, b, HR.out.1, HR.out.2, rfl⟩, Go.below_drewN (Below.refl _ _) _⟩
  · have HR := Lib.hid h1
    clear h1
    go_wp2_with fail
    refine bodyPost_ret (v := .tuple #[.string s, .string ByteArray.empty, .bool false]) (by simp [results, Tryz.results86, go_sem]) rfl ⟨.inr ⟨HR.out, rfl⟩, Go.below_drewN (Below.refl _ _) _⟩
theorem flat2 {α : Type} {en : α → List Value} (hen : ∀ x, (en x).length = 2) : ∀ (xs : List α) (k i : Nat) (x : α) (u : Value), xs[k]? = some x → i < 2 → (en x)[i]? = some u → (xs.flatMap en)[k * 2 + i]? = some u
  | [], k, i, x, u, h, _, _ => by simp at h
  | y :: ys, 0, i, x, u, h, hi, hu => by
    simp at h; subst h
    rw [List.flatMap_cons, Nat.zero_mul, Nat.zero_add, List.getElem?_append_left (by rw [hen]; exact hi)]; exact hu
  | y :: ys, k + 1, i, x, u, h, hi, hu => by
    rw [List.flatMap_cons, List.getElem?_append_right (by rw [hen]; omega), hen, show (k + 1) * 2 + i - 2 = k * 2 + i from by omega]
    exact flat2 hen ys k i x u (by simpa using h) hi hu
theorem SlR.two {α : Type} {en : α → List Value} {w : World} {v : Value} {xs : List α} (hen : ∀ x, (en x).length = 2) (h : SlR w en v xs) (hn : 0 < xs.length) :
    ∃ b off c, v = .slice (some ⟨b, off, none⟩) xs.length c ∧ b < w.heap.size ∧ ∀ k (hk : k < xs.length) (u0 u1 : Value), (en xs[k])[0]? = some u0 → (en xs[k])[1]? = some u1 → w.cell? ⟨b, off + k * 2, none⟩ = some u0 ∧ w.cell? ⟨b, off + k * 2 + 1, none⟩ = some u1 := by
  obtain ⟨A, c, hv, hc, hx⟩ := h
  obtain ⟨b, off, rfl, hb, hcell⟩ := hx hn
  exact ⟨b, off, c, hv, hb, fun k hk u0 u1 h0 h1 => ⟨hcell (k * 2 + 0) u0 (flat2 hen xs k 0 _ u0 (List.getElem?_eq_getElem hk) (by omega) h0), hcell (k * 2 + 1) u1 (flat2 hen xs k 1 _ u1 (List.getElem?_eq_getElem hk) (by omega) h1)⟩⟩
section
variable {α : Type} {w : World} {base : Nat} {e : TypeId} {en : α → List Value} {g cap n : Nat} {xs : List α}
theorem Owns.row {size : Nat} (h : Owns w base e size en (.slice (some ⟨g, 0, none⟩) n cap) xs) : base ≤ g ∧ n = xs.length ∧ n ≤ cap ∧ cap ≤ maxLen ∧ ∃ cur, Blk w g e cur ∧ cur.size = cap * size ∧ cur.toList.take (n * size) = xs.flatMap en := by
  obtain ⟨h1, h2⟩ := h
  rcases h2 with ⟨h3, _⟩ | ⟨g', cap', cur, hv, hb, hh, hn, hm, hs, ht⟩
  · cases h3
  · injection hv with e1 e2 e3
    injection e1 with e1
    injection e1 with e1
    subst e1 e2 e3
    exact ⟨hb, rfl, hn, hm, cur, hh, hs, ht⟩
theorem Owns.of_row {size : Nat} {cur : Array Value} (hen : ∀ x, (en x).length = size) (hb : base ≤ g) (hn : xs.length ≤ cap) (hm : cap ≤ maxLen) (hh : Blk w g e cur) (hs : cur.size = cap * size) (ht : cur.toList.take (xs.length * size) = xs.flatMap en) :
    Owns w base e size en (.slice (some ⟨g, 0, none⟩) xs.length cap) xs :=
  ⟨flat_len hen xs, .inr ⟨g, cap, cur, rfl, hb, hh, hn, hm, hs, ht⟩⟩
theorem Owns.pre {size : Nat} (hen : ∀ x, (en x).length = size) (h : Owns w base e size en (.slice (some ⟨g, 0, none⟩) n cap) xs) (k : Nat) (hk : k ≤ xs.length) : Owns w base e size en (.slice (some ⟨g, 0, none⟩) k cap) (xs.take k) := by
  obtain ⟨hb, rfl, hn, hm, cur, hh, hs, ht⟩ := h.row
  have hl : (xs.take k).length = k := by simp; omega
  have := Owns.of_row (w := w) (e := e) (xs := xs.take k) (cap := cap) hen hb (by omega) hm hh hs (by
    have h1 : cur.toList.take (k * size) = (xs.flatMap en).take (k * size) := by
      rw [← ht, List.take_take, Nat.min_eq_left (Nat.mul_le_mul_right _ hk)]
    rw [hl, h1]
    conv => lhs; rw [← List.take_append_drop k xs, List.flatMap_append]
    rw [List.take_append_of_le_length (by rw [flat_len hen, hl]; exact Nat.le_refl _), List.take_of_length_le (by rw [flat_len hen, hl]; exact Nat.le_refl _)])
  rwa [hl] at this
end
theorem Owns.ne_blk {α : Type} {w : World} {base : Nat} {e t : TypeId} {size g : Nat} {en : α → List Value} {v : Value} {xs : List α} {cs : Array Value} (h : Owns w base e size en v xs) (hb : Blk w g t cs) (ht : t ≠ e) : v.ownBlock ≠ some g := by
  intro hv
  rcases h.form with ⟨rfl, _⟩ | ⟨g', cc, rfl⟩
  · cases hv
  · obtain rfl : g' = g := by simpa [Value.ownBlock] using hv
    obtain ⟨_, _, _, _, cur, hh, _, _⟩ := h.row
    have := hh.symm.trans hb
    injection this with this
    injection this with _ h2
    exact ht h2.symm
theorem Owns.setFar {α : Type} {w : World} {base : Nat} {e : TypeId} {size : Nat} {en : α → List Value} {v : Value} {xs : List α} (h : Owns w base e size en v xs) (p : Addr) (u : Value) (hne : v.ownBlock ≠ some p.block) : Owns (w.setCell p u) base e size en v xs := by
  refine World.ownsRow.kept h (row := some p.block) ⟨rfl, rfl, rfl, by simp, fun k hk hr => Below.heap_setCell w p u k (fun e => hr (by rw [e]))⟩ ?_
  cases hv : v.ownBlock with
  | none => exact .inl rfl
  | some k => exact .inr (by rw [← hv]; exact hne)
def lowT (n : ByteArray) : ByteArray := mkS (Tok.low (sl n))
namespace Tok
end Tok
end Go.Proofs.YtgjfhgcjiglfkaaGreatDoor
