/- What trim, cut, Split and Eq[string] compute. -/
import Derived.Test.YthhhlaoiampinaaTokB
namespace Go.Proofs.Ythhhlaoiampinaa
set_option maxRecDepth 20000
open Go.RowKit
namespace Tok
def trimL (l : List UInt8) : List UInt8 := ((l.dropWhile blankB).reverse.dropWhile blankB).reverse
/-- The parts between signs that are not within quotes, not trimmed yet (none: quotes do not end). 'cur': what has been read of the part. -/
def cutL (sign : UInt8) : Bool → List UInt8 → List UInt8 → Option (List (List UInt8))
  | q, cur, [] => if q then none else some [cur]
  | q, cur, c :: r =>
    if c == 34 then cutL sign (!q) (cur ++ [c]) r
    else if q && c == 92 then (match r with | [] => none | d :: r' => cutL sign q (cur ++ [c, d]) r')
    else if !q && c == sign then (cutL sign false [] r).map (cur :: ·)
    else cutL sign q (cur ++ [c]) r
theorem dw_cons_true {p : UInt8 → Bool} {c : UInt8} {l : List UInt8} (h : p c = true) : (c :: l).dropWhile p = l.dropWhile p := by simp [h]
theorem dw_cons_false {p : UInt8 → Bool} {c : UInt8} {l : List UInt8} (h : p c = false) : (c :: l).dropWhile p = c :: l := by simp [h]
end Tok

/-- A text's last byte apart. -/
theorem sl_snoc (r : ByteArray) (h : 0 < r.size) : sl r = sl (r.extract 0 (r.size - 1)) ++ [r[r.size - 1]] := by
  have hl : (sl r).length = r.size := sl_len r
  rw [sl_extract, List.drop_zero, Nat.sub_zero, ← sl_getElem r (r.size - 1) (by omega)]
  have h2 := List.take_append_getElem (by omega : r.size - 1 < (sl r).length)
  rw [h2, List.take_of_length_le (by omega)]

set_option maxHeartbeats 800000 in
theorem trim_any (s : ByteArray) (w : World) (hs : s.size ≤ 140737488351232) :
    Calls Try.prog 118 #[.string s] w fun e w' => e = .returned (.string (mkS (Tok.trimL (sl s)))) ∧ w = w' := by
  go_enter Try.func118, Try.ntmps118
  go_wp2_with fail
  go_loop [0] (fun t => ∃ r : ByteArray, t = .string r ∧ r.size ≤ s.size ∧ Tok.trimL (sl s) = (((sl r).dropWhile Tok.blankB).reverse.dropWhile Tok.blankB).reverse) (fun t => strLen t)
  case atStart => exact ⟨s, rfl, Nat.le_refl _, rfl⟩
  case round =>
    obtain ⟨r, rfl, hrs, heq⟩ := hrel
    have HQ := Lib.hid heq
    clear heq
    have hcs : (r.size = 0 ∧ (!r.toList.isEmpty) = false ∧ Hid ((sl r).dropWhile Tok.blankB = sl r)) ∨ (0 < r.size ∧ ∃ h : 0 < r.size, (!r.toList.isEmpty) = true ∧ Tok.blankB r[0] = false ∧ Hid ((sl r).dropWhile Tok.blankB = sl r)) ∨ (0 < r.size ∧ ∃ h : 0 < r.size, (!r.toList.isEmpty) = true ∧ Tok.blankB r[0] = true) := by
      by_cases hr : r.size = 0
      · obtain rfl := empty_of_size r hr
        exact .inl ⟨rfl, by rw [ba_toList]; rfl, rfl⟩
      · have hr0 : 0 < r.size := by omega
        have hE : (!r.toList.isEmpty) = true := by rw [isEmpty_no r hr0]; rfl
        cases hb : Tok.blankB r[0]
        · exact .inr (.inl ⟨hr0, hr0, hE, hb, by show _ = _; rw [sl_cons r hr0, Tok.dw_cons_false hb]⟩)
        · exact .inr (.inr ⟨hr0, hr0, hE, hb⟩)
    rcases hcs with ⟨hr, hE, HD⟩ | ⟨hr0, h0, hE, hb, HD⟩ | ⟨hr0, h0, hE, hb⟩
    case inr.inr =>
      have HC := Lib.hid (sl_cons r hr0)
      go_wp2_with (go_at_call 135; refine (isBlank_any _ _).mono ?_; rintro e w' ⟨rfl, rfl⟩)
      go_round
      case rel => exact ⟨_, rfl, by rw [ext_size _ _ _ (Nat.le_refl _)]; omega, by rw [HQ.out, HC.out, Tok.dw_cons_true hb]⟩
      case measure => simp only [strLen]; rw [ext_size _ _ _ (Nat.le_refl _)]; omega
    all_goals
      have HR : Hid (Tok.trimL (sl s) = ((sl r).reverse.dropWhile Tok.blankB).reverse) := by show _ = _; rw [HQ.out, HD.out]
      clear HQ HD
      go_wp2_with (go_at_call 135; refine (isBlank_any _ _).mono ?_; rintro e w' ⟨rfl, rfl⟩)
      go_loop [0] (fun t => ∃ q : ByteArray, t = .string q ∧ q.size ≤ s.size ∧ Tok.trimL (sl s) = ((sl q).reverse.dropWhile Tok.blankB).reverse) (fun t => strLen t)
      case atStart => exact ⟨r, rfl, hrs, HR.out⟩
      case round =>
        clear hE HR
        try clear hb
        obtain ⟨q, rfl, hqs, heq⟩ := hrel
        have HQ := Lib.hid heq
        clear heq
        by_cases hq : q.size = 0
        · obtain rfl := empty_of_size q hq
          have hE : (!ByteArray.empty.toList.isEmpty) = false := by rw [ba_toList]; rfl
          have HF : Hid (mkS (Tok.trimL (sl s)) = ByteArray.empty) := by show _ = _; rw [HQ.out]; rfl
          go_wp2_with fail
          go_ret
          exact ⟨ret_str HF.out.symm, rfl⟩
        · have hq0 : 0 < q.size := by omega
          have hE : (!q.toList.isEmpty) = true := by rw [isEmpty_no q hq0]; rfl
          have HC := Lib.hid (sl_snoc q hq0)
          cases hb : Tok.blankB q[q.size - 1]
          · have HF : Hid (mkS (Tok.trimL (sl s)) = q) := by
              show _ = _
              rw [HQ.out, HC.out, List.reverse_append, List.reverse_singleton, List.singleton_append, Tok.dw_cons_false hb, ← List.singleton_append, List.reverse_append, List.reverse_reverse, List.reverse_singleton, ← HC.out, mkS_sl]
            go_wp2_with (go_at_call 135; refine (isBlank_any _ _).mono ?_; rintro e w' ⟨rfl, rfl⟩)
            go_ret
            exact ⟨ret_str HF.out.symm, rfl⟩
          · go_wp2_with (go_at_call 135; refine (isBlank_any _ _).mono ?_; rintro e w' ⟨rfl, rfl⟩)
            go_round
            case rel => exact ⟨_, rfl, by rw [ext_size _ _ _ (by omega)]; omega, by rw [HQ.out, HC.out, List.reverse_append, List.reverse_singleton, List.singleton_append, Tok.dw_cons_true hb]⟩
            case measure => simp only [strLen]; rw [ext_size _ _ _ (by omega)]; omega

namespace Tok
def partS (p : List UInt8) : ByteArray := mkS (trimL p)
theorem seg_succ {l : List UInt8} {f i : Nat} {c : UInt8} (hf : f ≤ i) (hc : l[i]? = some c) : (l.drop f).take (i + 1 - f) = (l.drop f).take (i - f) ++ [c] := by
  rw [show i + 1 - f = (i - f) + 1 from by omega, List.take_add_one, List.getElem?_drop, show f + (i - f) = i from by omega, hc]; rfl
theorem cutL_quote (sign c : UInt8) (q : Bool) (cur r : List UInt8) (h : (c == 34) = true) : cutL sign q cur (c :: r) = cutL sign (!q) (cur ++ [c]) r := by
  rw [cutL.eq_def]; simp only [h, if_true]
theorem cutL_esc (sign c d : UInt8) (cur r : List UInt8) (h : (c == 34) = false) (h2 : (c == 92) = true) : cutL sign true cur (c :: d :: r) = cutL sign true (cur ++ [c, d]) r := by
  rw [cutL.eq_def]; simp only [h, h2, Bool.true_and, if_true, Bool.false_eq_true, if_false]
theorem cutL_esc_end (sign c : UInt8) (cur : List UInt8) (h : (c == 34) = false) (h2 : (c == 92) = true) : cutL sign true cur [c] = none := by
  rw [cutL.eq_def]; simp only [h, h2, Bool.true_and, if_true, Bool.false_eq_true, if_false]
theorem cutL_sign (sign c : UInt8) (cur r : List UInt8) (h : (c == 34) = false) (h2 : (c == sign) = true) : cutL sign false cur (c :: r) = (cutL sign false [] r).map (cur :: ·) := by
  rw [cutL.eq_def]; simp only [h, h2, Bool.false_and, Bool.not_false, Bool.true_and, if_true, Bool.false_eq_true, if_false]
theorem cutL_q (sign c : UInt8) (cur r : List UInt8) (h : (c == 34) = false) (h2 : (c == 92) = false) : cutL sign true cur (c :: r) = cutL sign true (cur ++ [c]) r := by
  rw [cutL.eq_def]; simp only [h, h2, Bool.true_and, Bool.not_true, Bool.false_and, Bool.false_eq_true, if_false]
theorem cutL_n (sign c : UInt8) (cur r : List UInt8) (h : (c == 34) = false) (h2 : (c == sign) = false) : cutL sign false cur (c :: r) = cutL sign false (cur ++ [c]) r := by
  rw [cutL.eq_def]; simp only [h, h2, Bool.false_and, Bool.not_false, Bool.true_and, Bool.false_eq_true, if_false]
theorem map_cons_snoc {o : Option (List (List UInt8))} {parts : List (List UInt8)} {cur : List UInt8} : (o.map (cur :: ·)).map (parts ++ ·) = o.map ((parts ++ [cur]) ++ ·) := by
  cases o <;> simp
end Tok

/-- What cut answers. -/
def CutAns (T : TypeId) (base : Nat) (sign : UInt8) (l : List UInt8) (e : Ending) (w' : World) : Prop :=
  (Tok.cutL sign false [] l = none ∧ e = .returned (.tuple #[.slice none 0 0, .int .i64 3])) ∨
  ∃ ps v, Tok.cutL sign false [] l = some ps ∧ ps.length ≤ l.length + 1 ∧ e = .returned (.tuple #[v, .int .i64 0]) ∧ Owns w' base T 1 es v (ps.map Tok.partS)

set_option maxHeartbeats 1600000 in
theorem cut_any (s : ByteArray) (sign : UInt8) (w : World) (hs : s.size ≤ 1000) :
    Calls Try.prog 101 #[.string s, .int .u8 (sign.toNat : Int)] w fun e w' => CutAns 9 w.heap.size sign (sl s) e w' ∧ Below w.heap.size w w' := by
  go_enter Try.func101, Try.ntmps101
  go_wp2_with fail
  go_loopw [6, 7, 8, 9] (fun v t q i wr => ∃ (f k : Nat) (b : Bool) (parts : List (List UInt8)), f ≤ k ∧ f ≤ s.size ∧ k ≤ s.size + 1 ∧ (b = false → k ≤ s.size) ∧ parts.length ≤ f ∧ t = .int .i64 f ∧ q = .bool b ∧ i = .int .i64 k ∧
    Owns wr w.heap.size 9 1 es v (parts.map Tok.partS) ∧ Tok.cutL sign false [] (sl s) = (Tok.cutL sign b (((sl s).drop f).take (k - f)) ((sl s).drop k)).map (parts ++ ·) ∧ Below w.heap.size w wr) (fun _ _ _ i _ => s.size + 1 - (intOf i).toNat)
  case atStart => exact ⟨0, 0, false, [], Nat.le_refl _, by omega, by omega, by simp, by simp, rfl, rfl, rfl, Owns.nil _ _ _ _ _, by simp, Below.refl _ _⟩
  case round =>
    obtain ⟨f, k, b, parts, hfk, hfs, hks, hbk, hpl, rfl, rfl, rfl, hown, heq, hbel⟩ := hrel
    have HQ := Lib.hid heq
    have HB := Lib.hid hbk
    clear heq hbk
    by_cases hlt : k < s.size
    · have HC := Lib.hid (sl_getElem? s k hlt)
      have HD : Hid ((sl s).drop k = s[k] :: (sl s).drop (k + 1)) := by
        show _ = _
        rw [← sl_getElem s k hlt]; exact List.drop_eq_getElem_cons (by rw [sl_len]; exact hlt)
      cases c34 : ((s[k].toNat : Int) == 34)
      · have k34 : Hid ((s[k] == 34) = false) := (u8_beq s[k] 34).symm.trans c34
        cases b
        · cases csg : ((s[k].toNat : Int) == (sign.toNat : Int))
          · have ksg : Hid ((s[k] == sign) = false) := (u8_beq s[k] sign).symm.trans csg
            go_wp2_with fail
            go_roundw
            case rel => exact ⟨f, k + 1, false, parts, by omega, hfs, by omega, by omega, hpl, rfl, rfl, by go_num, hown, by rw [HQ.out, HD.out, Tok.cutL_n _ _ _ _ k34.out ksg.out, Tok.seg_succ hfk HC.out], hbel⟩
            case measure => simp [intOf]; omega
          · have ksg : Hid ((s[k] == sign) = true) := (u8_beq s[k] sign).symm.trans csg
            have hx : (s.extract f k).size ≤ 140737488351232 := by rw [ext_size _ _ _ (by omega)]; omega
            have hex := Lib.hid (sl_extract s f k)
            go_wp2_with (first | (go_at_call 118; refine (trim_any _ _ hx).mono ?_; rintro e w' ⟨rfl, rfl⟩) | (at_builtin; go_must (refine wpList_append_owns rfl (.tmp 43) (.tmp 49) _ rfl w.heap.size 9 (.string ByteArray.empty) 1 16 es Try.underlying42 stringInfo rfl (by decide) _ _ rfl (hown.alloc _) ⟨wr.heap.size, 0, none⟩ 1 1 [Tok.partS (sl (s.extract f k))] rfl rfl rfl (new_cells _ [.string (Tok.partS (sl (s.extract f k)))] _) (es_one [_]) (by simp only [List.length_map, maxLen]; omega) (by simp only [List.length_map]; omega) (bel_size hbel (Nat.le_refl _) _) ?_); intro v1 w1 hown1 hg1))
            go_roundw
            case rel => exact ⟨k + 1, k + 1, false, parts ++ [((sl s).drop f).take (k - f)], by omega, by omega, by omega, by omega, by simp; omega, by go_num, rfl, by go_num, by rw [hex.out] at hown1; simpa using hown1, by rw [HQ.out, HD.out, Tok.cutL_sign _ _ _ _ k34.out ksg.out, Tok.map_cons_snoc]; simp, bel_append hbel (Nat.le_refl _) hown hg1⟩
            case measure => simp [intOf]; omega
        · cases c92 : ((s[k].toNat : Int) == 92)
          · have k92 : Hid ((s[k] == 92) = false) := (u8_beq s[k] 92).symm.trans c92
            go_wp2_with fail
            go_roundw
            case rel => exact ⟨f, k + 1, true, parts, by omega, hfs, by omega, by simp, hpl, rfl, rfl, by go_num, hown, by rw [HQ.out, HD.out, Tok.cutL_q _ _ _ _ k34.out k92.out, Tok.seg_succ hfk HC.out], hbel⟩
            case measure => simp [intOf]; omega
          · have k92 : Hid ((s[k] == 92) = true) := (u8_beq s[k] 92).symm.trans c92
            go_wp2_with fail
            go_roundw
            case rel =>
              refine ⟨f, k + 2, true, parts, by omega, hfs, by omega, by simp, hpl, rfl, rfl, by go_num, hown, ?_, hbel⟩
              rw [HQ.out, HD.out]
              by_cases h1 : k + 1 < s.size
              · have e1 := sl_getElem? s (k + 1) h1
                have e2 : (sl s).drop (k + 1) = s[k + 1] :: (sl s).drop (k + 2) := by
                  rw [← sl_getElem s (k + 1) h1]; exact List.drop_eq_getElem_cons (by rw [sl_len]; exact h1)
                rw [e2, Tok.cutL_esc _ _ _ _ _ k34.out k92.out, show k + 2 = (k + 1) + 1 from rfl, Tok.seg_succ (by omega) e1, Tok.seg_succ hfk HC.out]
                simp
              · have e2 : (sl s).drop (k + 1) = [] := List.drop_eq_nil_of_le (by rw [sl_len]; omega)
                have e3 : (sl s).drop (k + 2) = [] := List.drop_eq_nil_of_le (by rw [sl_len]; omega)
                rw [e2, e3, Tok.cutL_esc_end _ _ _ k34.out k92.out]
                rfl
            case measure => simp [intOf]; omega
      · have k34 : Hid ((s[k] == 34) = true) := (u8_beq s[k] 34).symm.trans c34
        go_wp2_with fail
        go_roundw
        case rel => exact ⟨f, k + 1, !b, parts, by omega, hfs, by omega, by omega, hpl, rfl, rfl, by go_num, hown, by rw [HQ.out, HD.out, Tok.cutL_quote _ _ _ _ _ k34.out, Tok.seg_succ hfk HC.out], hbel⟩
        case measure => simp [intOf]; omega
    · have HE : Hid ((sl s).drop k = []) := by show _ = _; exact List.drop_eq_nil_of_le (by rw [sl_len]; omega)
      cases b
      · have hk := HB.out rfl
        have HF : Hid (Tok.cutL sign false [] (sl s) = some (parts ++ [(sl s).drop f])) := by
          show _ = _
          have e : ((sl s).drop f).take (k - f) = (sl s).drop f := List.take_of_length_le (by rw [List.length_drop, sl_len]; omega)
          rw [HQ.out, HE.out, e]; rfl
        have hx : (s.extract f s.size).size ≤ 140737488351232 := by rw [ext_size _ _ _ (by omega)]; omega
        have hex := Lib.hid (sl_extract_end s f)
        go_wp2_with (first | (go_at_call 118; refine (trim_any _ _ hx).mono ?_; rintro e w' ⟨rfl, rfl⟩) | (at_builtin; go_must (refine wpList_append_owns rfl (.tmp 54) (.tmp 59) _ rfl w.heap.size 9 (.string ByteArray.empty) 1 16 es Try.underlying42 stringInfo rfl (by decide) _ _ rfl (hown.alloc _) ⟨wr.heap.size, 0, none⟩ 1 1 [Tok.partS (sl (s.extract f s.size))] rfl rfl rfl (new_cells _ [.string (Tok.partS (sl (s.extract f s.size)))] _) (es_one [_]) (by simp only [List.length_map, maxLen]; omega) (by simp only [List.length_map]; omega) (bel_size hbel (Nat.le_refl _) _) ?_); intro v1 w1 hown1 hg1))
        go_ret2
        exact ⟨.inr ⟨_, _, HF.out, by simp [sl_len]; omega, rfl, by rw [hex.out] at hown1; simpa using hown1⟩, bel_append hbel (Nat.le_refl _) hown hg1⟩
      · go_wp2_with fail
        go_ret2
        exact ⟨.inl ⟨by rw [HQ.out, HE.out]; rfl, rfl⟩, hbel⟩
end Go.Proofs.Ythhhlaoiampinaa
