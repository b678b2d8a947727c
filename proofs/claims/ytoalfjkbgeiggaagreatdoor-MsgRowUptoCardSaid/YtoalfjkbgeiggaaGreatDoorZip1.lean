/- What token's byte tests and Quote compute. -/
import Derived.Test.YtoalfjkbgeiggaaGreatDoorChecked
import Derived.Test.YtoalfjkbgeiggaaGreatDoorZip0
import Derived.Lib.Bytealg
import Derived.Test.YtoalfjkbgeiggaaGreatDoorZShelf
import Derived.Lib.Join
namespace Go.Proofs.YtoalfjkbgeiggaaGreatDoor
set_option maxRecDepth 20000
open Go.RowKit
namespace Tok
def plainB (c : UInt8) : Bool := (32 ≤ c && c ≤ 126) || c == 9
def blankB (c : UInt8) : Bool := c == 32 || c == 9
def esc (c : UInt8) : List UInt8 := if c == 34 || c == 92 then [92, c] else [c]
def escs (l : List UInt8) : List UInt8 := l.flatMap esc
def quoteL (l : List UInt8) : List UInt8 := 34 :: (escs l ++ [34])
theorem escs_snoc (l : List UInt8) (c : UInt8) : escs (l ++ [c]) = escs l ++ esc c := by simp [escs]
theorem esc_len (c : UInt8) : (esc c).length ≤ 2 := by unfold esc; split <;> simp
theorem escs_len (l : List UInt8) : (escs l).length ≤ 2 * l.length := by
  induction l with
  | nil => simp [escs]
  | cons c l ih => have := esc_len c; simp only [escs, List.flatMap_cons, List.length_append, List.length_cons] at ih ⊢; omega
end Tok

theorem plainB_iff (c : UInt8) : Tok.plainB c = true ↔ (32 ≤ (c.toNat : Int) ∧ (c.toNat : Int) ≤ 126) ∨ (c.toNat : Int) = 9 := by
  simp [Tok.plainB, u8_le, u8_eq]
theorem blankB_iff (c : UInt8) : Tok.blankB c = true ↔ (c.toNat : Int) = 32 ∨ (c.toNat : Int) = 9 := by
  simp [Tok.blankB, u8_eq]

theorem isBlank_any (c : UInt8) (w : World) :
    Calls Tryz.prog 110 #[.int .u8 (c.toNat : Int)] w fun e w' => e = .returned (.bool (Tok.blankB c)) ∧ w = w' := by
  have H := Lib.hid (blankB_iff c)
  go_enter Tryz.func110, Tryz.ntmps110
  go_wp2
  all_goals
    go_ret
    exact ⟨ret_bool (by rw [Bool.eq_iff_iff, H.out]; simp; try omega), rfl⟩

/-- What Quote answers to a text that is not too long. -/
def QuoteEnd (l : List UInt8) (e : Ending) : Prop :=
  (l.all Tok.plainB = true ∧ e = .returned (.tuple #[.string (mkS (Tok.quoteL l)), .int .i64 0])) ∨ (l.all Tok.plainB = false ∧ e = .returned (.tuple #[.string ByteArray.empty, .int .i64 3]))

end Go.Proofs.YtoalfjkbgeiggaaGreatDoor
namespace Go.Proofs.YtoalfjkbgeiggaaGreatDoor
set_option maxRecDepth 20000
open Go.RowKit
namespace Tok
def unq : List UInt8 → Option (List UInt8)
  | [] => some []
  | c :: r => if c == 92 then (match r with | [] => none | d :: r' => if plainB d then (unq r').map (d :: ·) else none)
    else if c == 34 then none else if plainB c then (unq r).map (c :: ·) else none
def unquoteL (l : List UInt8) : Option (List UInt8) := if l.length < 2 || l[0]? != some 34 || l[l.length - 1]? != some 34 then none else unq ((l.drop 1).take (l.length - 2))
end Tok
/-- What Unquote answers. -/
def UnqEnd (l : List UInt8) (e : Ending) : Prop :=
  (Tok.unquoteL l = none ∧ e = .returned (.tuple #[.string ByteArray.empty, .int .i64 3])) ∨
  ∃ b, Tok.unquoteL l = some b ∧ ((1000 < b.length ∧ e = .returned (.tuple #[.string ByteArray.empty, .int .i64 2])) ∨ (b.length ≤ 1000 ∧ e = .returned (.tuple #[.string (mkS b), .int .i64 0])))
theorem unq_plain (c : UInt8) (l : List UInt8) (h1 : (c == 92) = false) (h2 : (c == 34) = false) (h3 : Tok.plainB c = true) : Tok.unq (c :: l) = (Tok.unq l).map (c :: ·) := by
  rw [Tok.unq.eq_def]; simp [h1, h2, h3]
theorem unq_bad (c : UInt8) (l : List UInt8) (h1 : (c == 92) = false) (h : (c == 34) = true ∨ Tok.plainB c = false) : Tok.unq (c :: l) = none := by
  rw [Tok.unq.eq_def]; simp only [h1, Bool.false_eq_true, if_false]
  rcases h with h | h <;> simp [h]
theorem unq_esc (c d : UInt8) (l : List UInt8) (h1 : (c == 92) = true) : Tok.unq (c :: d :: l) = if Tok.plainB d then (Tok.unq l).map (d :: ·) else none := by
  rw [Tok.unq.eq_def]; simp only [h1, if_true]
theorem unq_esc_end (c : UInt8) (h1 : (c == 92) = true) : Tok.unq [c] = none := by
  rw [Tok.unq.eq_def]; simp only [h1, if_true]
theorem map_snoc {o : Option (List UInt8)} {acc : List UInt8} {d : UInt8} : (o.map (d :: ·)).map (acc ++ ·) = o.map ((acc ++ [d]) ++ ·) := by
  cases o <;> simp
end Go.Proofs.YtoalfjkbgeiggaaGreatDoor
namespace Go.Proofs.YtoalfjkbgeiggaaGreatDoor
set_option maxRecDepth 20000
open Go.RowKit
namespace Tok
theorem escs_cons (c : UInt8) (l : List UInt8) : escs (c :: l) = esc c ++ escs l := rfl
theorem unq_escs : ∀ (l : List UInt8), l.all plainB = true → unq (escs l) = some l
  | [], _ => rfl
  | c :: l, h => by
    simp only [List.all_cons, Bool.and_eq_true] at h
    have ih := unq_escs l h.2
    rw [escs_cons]
    by_cases hc : (c == 34 || c == 92) = true
    · have e : esc c = [92, c] := if_pos hc
      rw [e]
      show unq (92 :: c :: escs l) = _
      rw [unq_esc _ _ _ rfl, h.1, if_pos rfl, ih]; rfl
    · have e : esc c = [c] := if_neg hc
      rw [e]
      simp only [Bool.or_eq_true, not_or, Bool.not_eq_true] at hc
      show unq (c :: escs l) = _
      rw [unq_plain _ _ hc.2 hc.1 h.1, ih]; rfl
theorem unquote_quote (l : List UInt8) (h : l.all plainB = true) : unquoteL (quoteL l) = some l := by
  have hl : (quoteL l).length = (escs l).length + 2 := by simp [quoteL]
  have h0 : (quoteL l)[0]? = some 34 := rfl
  have h1 : (quoteL l)[(quoteL l).length - 1]? = some 34 := by
    rw [hl]
    unfold quoteL
    simp
  unfold unquoteL
  rw [h0, h1, if_neg (by simp; omega), hl, ← unq_escs l h]
  congr 1
  unfold quoteL
  simp
/-- What unquotes to something is no shorter than it quoted anew. -/
theorem escs_of_unq : ∀ (n : Nat) (l b : List UInt8), l.length ≤ n → unq l = some b → (escs b).length ≤ l.length ∧ b.all plainB = true
  | _, [], b, _, h => by simp only [unq] at h; obtain rfl := Option.some.inj h; simp [escs]
  | 0, c :: l, b, hn, h => by simp at hn
  | n + 1, c :: l, b, hn, h => by
    simp only [List.length_cons] at hn
    cases h92 : (c == 92)
    · cases h34 : (c == 34)
      · cases hp : plainB c
        · rw [unq_bad _ _ h92 (.inr hp)] at h; cases h
        · rw [unq_plain _ _ h92 h34 hp] at h
          obtain ⟨b', hb, rfl⟩ := Option.map_eq_some_iff.1 h
          obtain ⟨i1, i2⟩ := escs_of_unq n l b' (by omega) hb
          have e : esc c = [c] := by unfold esc; rw [h92, h34]; rfl
          refine ⟨?_, by simp [hp, i2]⟩
          rw [escs_cons, e]
          simp only [List.length_append, List.length_cons, List.length_nil]; omega
      · rw [unq_bad _ _ h92 (.inl h34)] at h; cases h
    · cases l with
      | nil => rw [unq_esc_end _ h92] at h; cases h
      | cons d l =>
        rw [unq_esc _ _ _ h92] at h
        cases hp : plainB d
        · rw [hp] at h; cases h
        · rw [hp, if_pos rfl] at h
          obtain ⟨b', hb, rfl⟩ := Option.map_eq_some_iff.1 h
          simp only [List.length_cons] at hn
          obtain ⟨i1, i2⟩ := escs_of_unq n l b' (by omega) hb
          have := esc_len d
          refine ⟨?_, by simp [hp, i2]⟩
          rw [escs_cons]
          simp only [List.length_append, List.length_cons]; omega
theorem unquote_some {l b : List UInt8} (h : unquoteL l = some b) : (quoteL b).length ≤ l.length ∧ b.all plainB = true := by
  unfold unquoteL at h
  split at h
  · cases h
  · rename_i hc
    simp only [Bool.or_eq_true, decide_eq_true_eq, not_or] at hc
    have hlen : ((l.drop 1).take (l.length - 2)).length ≤ l.length - 2 := by simp; omega
    obtain ⟨i1, i2⟩ := escs_of_unq _ _ b (Nat.le_refl _) h
    refine ⟨?_, i2⟩
    simp [quoteL] at i1 ⊢
    omega
end Tok

/-- What Quote answers, whatever it is given. -/
def QuoteAns (l : List UInt8) (e : Ending) : Prop :=
  (l.length ≤ 1000 ∧ l.all Tok.plainB = true ∧ e = .returned (.tuple #[.string (mkS (Tok.quoteL l)), .int .i64 0])) ∨
  (¬ (l.length ≤ 1000 ∧ l.all Tok.plainB = true) ∧ ∃ c : Int, 1 ≤ c ∧ c ≤ 3 ∧ e = .returned (.tuple #[.string ByteArray.empty, .int .i64 c]))
end Go.Proofs.YtoalfjkbgeiggaaGreatDoor
namespace Go.Proofs.YtoalfjkbgeiggaaGreatDoor
set_option maxRecDepth 20000
open Go.RowKit
namespace Tok
def trimL (l : List UInt8) : List UInt8 := ((l.dropWhile blankB).reverse.dropWhile blankB).reverse
/-- The parts between signs that are not within quotes, not trimmed yet (none: quotes do not end). 'cur': what has been read of the part. -/
def cutL (sign : UInt8) : Bool → List UInt8 → List UInt8 → Option (List (List UInt8))
  | q, cur, [] => if q then none else some [cur]
  | q, cur, c :: r =>
    if c == 34 then cutL sign (!q) (cur ++ [c]) r
    else if q && c == 92 then (match r with | [] => none | d :: r' => cutL sign q (cur ++ [c, d]) r')
    else if !q && c == sign then (cutL sign false [] r).map (cur :: ·)
    else cutL sign q (cur ++ [c]) r
theorem dw_cons_true {p : UInt8 → Bool} {c : UInt8} {l : List UInt8} (h : p c = true) : (c :: l).dropWhile p = l.dropWhile p := by simp [h]
theorem dw_cons_false {p : UInt8 → Bool} {c : UInt8} {l : List UInt8} (h : p c = false) : (c :: l).dropWhile p = c :: l := by simp [h]
end Tok

/-- A text's last byte apart. -/
theorem sl_snoc (r : ByteArray) (h : 0 < r.size) : sl r = sl (r.extract 0 (r.size - 1)) ++ [r[r.size - 1]] := by
  have hl : (sl r).length = r.size := sl_len r
  rw [sl_extract, List.drop_zero, Nat.sub_zero, ← sl_getElem r (r.size - 1) (by omega)]
  have h2 := List.take_append_getElem (by omega : r.size - 1 < (sl r).length)
  rw [h2, List.take_of_length_le (by omega)]

set_option maxHeartbeats 800000 in
theorem trim_any (s : ByteArray) (w : World) (hs : s.size ≤ 140737488351232) :
    Calls Tryz.prog 86 #[.string s] w fun e w' => e = .returned (.string (mkS (Tok.trimL (sl s)))) ∧ w = w' := by
  go_enter Tryz.func86, Tryz.ntmps86
  go_wp2_with fail
  go_loop [0] (fun t => ∃ r : ByteArray, t = .string r ∧ r.size ≤ s.size ∧ Tok.trimL (sl s) = (((sl r).dropWhile Tok.blankB).reverse.dropWhile Tok.blankB).reverse) (fun t => strLen t)
  case atStart => exact ⟨s, rfl, Nat.le_refl _, rfl⟩
  case round =>
    obtain ⟨r, rfl, hrs, heq⟩ := hrel
    have HQ := Lib.hid heq
    clear heq
    have hcs : (r.size = 0 ∧ (!r.toList.isEmpty) = false ∧ Hid ((sl r).dropWhile Tok.blankB = sl r)) ∨ (0 < r.size ∧ ∃ h : 0 < r.size, (!r.toList.isEmpty) = true ∧ Tok.blankB r[0] = false ∧ Hid ((sl r).dropWhile Tok.blankB = sl r)) ∨ (0 < r.size ∧ ∃ h : 0 < r.size, (!r.toList.isEmpty) = true ∧ Tok.blankB r[0] = true) := by
      by_cases hr : r.size = 0
      · obtain rfl := empty_of_size r hr
        exact .inl ⟨rfl, by rw [ba_toList]; rfl, rfl⟩
      · have hr0 : 0 < r.size := by omega
        have hE : (!r.toList.isEmpty) = true := by rw [isEmpty_no r hr0]; rfl
        cases hb : Tok.blankB r[0]
        · exact .inr (.inl ⟨hr0, hr0, hE, hb, by show _ = _; rw [sl_cons r hr0, Tok.dw_cons_false hb]⟩)
        · exact .inr (.inr ⟨hr0, hr0, hE, hb⟩)
    rcases hcs with ⟨hr, hE, HD⟩ | ⟨hr0, h0, hE, hb, HD⟩ | ⟨hr0, h0, hE, hb⟩
    case inr.inr =>
      have HC := Lib.hid (sl_cons r hr0)
      go_wp2_with (go_at_call 110; refine (isBlank_any _ _).mono ?_; rintro e w' ⟨rfl, rfl⟩)
      go_round
      case rel => exact ⟨_, rfl, by rw [ext_size _ _ _ (Nat.le_refl _)]; omega, by rw [HQ.out, HC.out, Tok.dw_cons_true hb]⟩
      case measure => simp only [strLen]; rw [ext_size _ _ _ (Nat.le_refl _)]; omega
    all_goals
      have HR : Hid (Tok.trimL (sl s) = ((sl r).reverse.dropWhile Tok.blankB).reverse) := by show _ = _; rw [HQ.out, HD.out]
      clear HQ HD
      go_wp2_with (go_at_call 110; refine (isBlank_any _ _).mono ?_; rintro e w' ⟨rfl, rfl⟩)
      go_loop [0] (fun t => ∃ q : ByteArray, t = .string q ∧ q.size ≤ s.size ∧ Tok.trimL (sl s) = ((sl q).reverse.dropWhile Tok.blankB).reverse) (fun t => strLen t)
      case atStart => exact ⟨r, rfl, hrs, HR.out⟩
      case round =>
        clear hE HR
        try clear hb
        obtain ⟨q, rfl, hqs, heq⟩ := hrel
        have HQ := Lib.hid heq
        clear heq
        by_cases hq : q.size = 0
        · obtain rfl := empty_of_size q hq
          have hE : (!ByteArray.empty.toList.isEmpty) = false := by rw [ba_toList]; rfl
          have HF : Hid (mkS (Tok.trimL (sl s)) = ByteArray.empty) := by show _ = _; rw [HQ.out]; rfl
          go_wp2_with fail
          go_ret
          exact ⟨ret_str HF.out.symm, rfl⟩
        · have hq0 : 0 < q.size := by omega
          have hE : (!q.toList.isEmpty) = true := by rw [isEmpty_no q hq0]; rfl
          have HC := Lib.hid (sl_snoc q hq0)
          cases hb : Tok.blankB q[q.size - 1]
          · have HF : Hid (mkS (Tok.trimL (sl s)) = q) := by
              show _ = _
              rw [HQ.out, HC.out, List.reverse_append, List.reverse_singleton, List.singleton_append, Tok.dw_cons_false hb, ← List.singleton_append, List.reverse_append, List.reverse_reverse, List.reverse_singleton, ← HC.out, mkS_sl]
            go_wp2_with (go_at_call 110; refine (isBlank_any _ _).mono ?_; rintro e w' ⟨rfl, rfl⟩)
            go_ret
            exact ⟨ret_str HF.out.symm, rfl⟩
          · go_wp2_with (go_at_call 110; refine (isBlank_any _ _).mono ?_; rintro e w' ⟨rfl, rfl⟩)
            go_round
            case rel => exact ⟨_, rfl, by rw [ext_size _ _ _ (by omega)]; omega, by rw [HQ.out, HC.out, List.reverse_append, List.reverse_singleton, List.singleton_append, Tok.dw_cons_true hb]⟩
            case measure => simp only [strLen]; rw [ext_size _ _ _ (by omega)]; omega

namespace Tok
def partS (p : List UInt8) : ByteArray := mkS (trimL p)
theorem seg_succ {l : List UInt8} {f i : Nat} {c : UInt8} (hf : f ≤ i) (hc : l[i]? = some c) : (l.drop f).take (i + 1 - f) = (l.drop f).take (i - f) ++ [c] := by
  rw [show i + 1 - f = (i - f) + 1 from by omega, List.take_add_one, List.getElem?_drop, show f + (i - f) = i from by omega, hc]; rfl
theorem cutL_quote (sign c : UInt8) (q : Bool) (cur r : List UInt8) (h : (c == 34) = true) : cutL sign q cur (c :: r) = cutL sign (!q) (cur ++ [c]) r := by
  rw [cutL.eq_def]; simp only [h, if_true]
theorem cutL_esc (sign c d : UInt8) (cur r : List UInt8) (h : (c == 34) = false) (h2 : (c == 92) = true) : cutL sign true cur (c :: d :: r) = cutL sign true (cur ++ [c, d]) r := by
  rw [cutL.eq_def]; simp only [h, h2, Bool.true_and, if_true, Bool.false_eq_true, if_false]
theorem cutL_esc_end (sign c : UInt8) (cur : List UInt8) (h : (c == 34) = false) (h2 : (c == 92) = true) : cutL sign true cur [c] = none := by
  rw [cutL.eq_def]; simp only [h, h2, Bool.true_and, if_true, Bool.false_eq_true, if_false]
theorem cutL_sign (sign c : UInt8) (cur r : List UInt8) (h : (c == 34) = false) (h2 : (c == sign) = true) : cutL sign false cur (c :: r) = (cutL sign false [] r).map (cur :: ·) := by
  rw [cutL.eq_def]; simp only [h, h2, Bool.false_and, Bool.not_false, Bool.true_and, if_true, Bool.false_eq_true, if_false]
theorem cutL_q (sign c : UInt8) (cur r : List UInt8) (h : (c == 34) = false) (h2 : (c == 92) = false) : cutL sign true cur (c :: r) = cutL sign true (cur ++ [c]) r := by
  rw [cutL.eq_def]; simp only [h, h2, Bool.true_and, Bool.not_true, Bool.false_and, Bool.false_eq_true, if_false]
theorem cutL_n (sign c : UInt8) (cur r : List UInt8) (h : (c == 34) = false) (h2 : (c == sign) = false) : cutL sign false cur (c :: r) = cutL sign false (cur ++ [c]) r := by
  rw [cutL.eq_def]; simp only [h, h2, Bool.false_and, Bool.not_false, Bool.true_and, Bool.false_eq_true, if_false]
theorem map_cons_snoc {o : Option (List (List UInt8))} {parts : List (List UInt8)} {cur : List UInt8} : (o.map (cur :: ·)).map (parts ++ ·) = o.map ((parts ++ [cur]) ++ ·) := by
  cases o <;> simp
end Tok

/-- What cut answers. -/
def CutAns (T : TypeId) (base : Nat) (sign : UInt8) (l : List UInt8) (e : Ending) (w' : World) : Prop :=
  (Tok.cutL sign false [] l = none ∧ e = .returned (.tuple #[.slice none 0 0, .int .i64 3])) ∨
  ∃ ps v, Tok.cutL sign false [] l = some ps ∧ ps.length ≤ l.length + 1 ∧ e = .returned (.tuple #[v, .int .i64 0]) ∧ Owns w' base T 1 es v (ps.map Tok.partS)

set_option maxHeartbeats 1600000 in
theorem cut_any (s : ByteArray) (sign : UInt8) (w : World) (hs : s.size ≤ 1000) :
    Calls Tryz.prog 62 #[.string s, .int .u8 (sign.toNat : Int)] w fun e w' => CutAns 9 w.heap.size sign (sl s) e w' ∧ Below w.heap.size w w' := by
  go_enter Tryz.func62, Tryz.ntmps62
  go_wp2_with fail
  go_loopw [6, 7, 8, 9] (fun v t q i wr => ∃ (f k : Nat) (b : Bool) (parts : List (List UInt8)), f ≤ k ∧ f ≤ s.size ∧ k ≤ s.size + 1 ∧ (b = false → k ≤ s.size) ∧ parts.length ≤ f ∧ t = .int .i64 f ∧ q = .bool b ∧ i = .int .i64 k ∧
    Owns wr w.heap.size 9 1 es v (parts.map Tok.partS) ∧ Tok.cutL sign false [] (sl s) = (Tok.cutL sign b (((sl s).drop f).take (k - f)) ((sl s).drop k)).map (parts ++ ·) ∧ Below w.heap.size w wr) (fun _ _ _ i _ => s.size + 1 - (intOf i).toNat)
  case atStart => exact ⟨0, 0, false, [], Nat.le_refl _, by omega, by omega, by simp, by simp, rfl, rfl, rfl, Owns.nil _ _ _ _ _, by simp, Below.refl _ _⟩
  case round =>
    obtain ⟨f, k, b, parts, hfk, hfs, hks, hbk, hpl, rfl, rfl, rfl, hown, heq, hbel⟩ := hrel
    have HQ := Lib.hid heq
    have HB := Lib.hid hbk
    clear heq hbk
    by_cases hlt : k < s.size
    · have HC := Lib.hid (sl_getElem? s k hlt)
      have HD : Hid ((sl s).drop k = s[k] :: (sl s).drop (k + 1)) := by
        show _ = _
        rw [← sl_getElem s k hlt]; exact List.drop_eq_getElem_cons (by rw [sl_len]; exact hlt)
      cases c34 : ((s[k].toNat : Int) == 34)
      · have k34 : Hid ((s[k] == 34) = false) := (u8_beq s[k] 34).symm.trans c34
        cases b
        · cases csg : ((s[k].toNat : Int) == (sign.toNat : Int))
          · have ksg : Hid ((s[k] == sign) = false) := (u8_beq s[k] sign).symm.trans csg
            go_wp2_with fail
            go_roundw
            case rel => exact ⟨f, k + 1, false, parts, by omega, hfs, by omega, by omega, hpl, rfl, rfl, by go_num, hown, by rw [HQ.out, HD.out, Tok.cutL_n _ _ _ _ k34.out ksg.out, Tok.seg_succ hfk HC.out], hbel⟩
            case measure => simp [intOf]; omega
          · have ksg : Hid ((s[k] == sign) = true) := (u8_beq s[k] sign).symm.trans csg
            have hx : (s.extract f k).size ≤ 140737488351232 := by rw [ext_size _ _ _ (by omega)]; omega
            have hex := Lib.hid (sl_extract s f k)
            go_wp2_with (first | (go_at_call 86; refine (trim_any _ _ hx).mono ?_; rintro e w' ⟨rfl, rfl⟩) | (at_builtin; go_must (refine wpList_append_owns rfl (.tmp 43) (.tmp 49) _ rfl w.heap.size 9 (.string ByteArray.empty) 1 16 es Tryz.underlying69 stringInfo rfl (by decide) _ _ rfl (hown.alloc _) ⟨wr.heap.size, 0, none⟩ 1 1 [Tok.partS (sl (s.extract f k))] rfl rfl rfl (new_cells _ [.string (Tok.partS (sl (s.extract f k)))] _) (es_one [_]) (by simp only [List.length_map, maxLen]; omega) (by simp only [List.length_map]; omega) (bel_size hbel (Nat.le_refl _) _) ?_); intro v1 w1 hown1 hg1))
            go_roundw
            case rel => exact ⟨k + 1, k + 1, false, parts ++ [((sl s).drop f).take (k - f)], by omega, by omega, by omega, by omega, by simp; omega, by go_num, rfl, by go_num, by rw [hex.out] at hown1; simpa using hown1, by rw [HQ.out, HD.out, Tok.cutL_sign _ _ _ _ k34.out ksg.out, Tok.map_cons_snoc]; simp, bel_append hbel (Nat.le_refl _) hown hg1⟩
            case measure => simp [intOf]; omega
        · cases c92 : ((s[k].toNat : Int) == 92)
          · have k92 : Hid ((s[k] == 92) = false) := (u8_beq s[k] 92).symm.trans c92
            go_wp2_with fail
            go_roundw
            case rel => exact ⟨f, k + 1, true, parts, by omega, hfs, by omega, by simp, hpl, rfl, rfl, by go_num, hown, by rw [HQ.out, HD.out, Tok.cutL_q _ _ _ _ k34.out k92.out, Tok.seg_succ hfk HC.out], hbel⟩
            case measure => simp [intOf]; omega
          · have k92 : Hid ((s[k] == 92) = true) := (u8_beq s[k] 92).symm.trans c92
            go_wp2_with fail
            go_roundw
            case rel =>
              refine ⟨f, k + 2, true, parts, by omega, hfs, by omega, by simp, hpl, rfl, rfl, by go_num, hown, ?_, hbel⟩
              rw [HQ.out, HD.out]
              by_cases h1 : k + 1 < s.size
              · have e1 := sl_getElem? s (k + 1) h1
                have e2 : (sl s).drop (k + 1) = s[k + 1] :: (sl s).drop (k + 2) := by
                  rw [← sl_getElem s (k + 1) h1]; exact List.drop_eq_getElem_cons (by rw [sl_len]; exact h1)
                rw [e2, Tok.cutL_esc _ _ _ _ _ k34.out k92.out, show k + 2 = (k + 1) + 1 from rfl, Tok.seg_succ (by omega) e1, Tok.seg_succ hfk HC.out]
                simp
              · have e2 : (sl s).drop (k + 1) = [] := List.drop_eq_nil_of_le (by rw [sl_len]; omega)
                have e3 : (sl s).drop (k + 2) = [] := List.drop_eq_nil_of_le (by rw [sl_len]; omega)
                rw [e2, e3, Tok.cutL_esc_end _ _ _ k34.out k92.out]
                rfl
            case measure => simp [intOf]; omega
      · have k34 : Hid ((s[k] == 34) = true) := (u8_beq s[k] 34).symm.trans c34
        go_wp2_with fail
        go_roundw
        case rel => exact ⟨f, k + 1, !b, parts, by omega, hfs, by omega, by omega, hpl, rfl, rfl, by go_num, hown, by rw [HQ.out, HD.out, Tok.cutL_quote _ _ _ _ _ k34.out, Tok.seg_succ hfk HC.out], hbel⟩
        case measure => simp [intOf]; omega
    · have HE : Hid ((sl s).drop k = []) := by show _ = _; exact List.drop_eq_nil_of_le (by rw [sl_len]; omega)
      cases b
      · have hk := HB.out rfl
        have HF : Hid (Tok.cutL sign false [] (sl s) = some (parts ++ [(sl s).drop f])) := by
          show _ = _
          have e : ((sl s).drop f).take (k - f) = (sl s).drop f := List.take_of_length_le (by rw [List.length_drop, sl_len]; omega)
          rw [HQ.out, HE.out, e]; rfl
        have hx : (s.extract f s.size).size ≤ 140737488351232 := by rw [ext_size _ _ _ (by omega)]; omega
        have hex := Lib.hid (sl_extract_end s f)
        go_wp2_with (first | (go_at_call 86; refine (trim_any _ _ hx).mono ?_; rintro e w' ⟨rfl, rfl⟩) | (at_builtin; go_must (refine wpList_append_owns rfl (.tmp 54) (.tmp 59) _ rfl w.heap.size 9 (.string ByteArray.empty) 1 16 es Tryz.underlying69 stringInfo rfl (by decide) _ _ rfl (hown.alloc _) ⟨wr.heap.size, 0, none⟩ 1 1 [Tok.partS (sl (s.extract f s.size))] rfl rfl rfl (new_cells _ [.string (Tok.partS (sl (s.extract f s.size)))] _) (es_one [_]) (by simp only [List.length_map, maxLen]; omega) (by simp only [List.length_map]; omega) (bel_size hbel (Nat.le_refl _) _) ?_); intro v1 w1 hown1 hg1))
        go_ret2
        exact ⟨.inr ⟨_, _, HF.out, by simp [sl_len]; omega, rfl, by rw [hex.out] at hown1; simpa using hown1⟩, bel_append hbel (Nat.le_refl _) hown hg1⟩
      · go_wp2_with fail
        go_ret2
        exact ⟨.inl ⟨by rw [HQ.out, HE.out]; rfl, rfl⟩, hbel⟩
end Go.Proofs.YtoalfjkbgeiggaaGreatDoor
namespace Go.Proofs.YtoalfjkbgeiggaaGreatDoor
set_option maxRecDepth 20000
open Go.RowKit
namespace Tok
/-- Is a text not empty? In the walk's own form. -/
def ne (s : ByteArray) : Bool := !s.toList.isEmpty
theorem ne_mkS (l : List UInt8) : ne (mkS l) = !l.isEmpty := by unfold ne; rw [ba_toList, sl_mkS]
def splitL (l : List UInt8) : Except Int (List (List UInt8)) :=
  if 1000 < l.length then .error 2
  else match cutL 44 false [] l with
    | none => .error 3
    | some ps => if 20 < ((ps.map trimL).filter (fun p => !p.isEmpty)).length then .error 2 else .ok ((ps.map trimL).filter (fun p => !p.isEmpty))
theorem filter_parts (ps : List (List UInt8)) : (ps.map partS).filter ne = ((ps.map trimL).filter (fun p => !p.isEmpty)).map mkS := by
  induction ps with
  | nil => rfl
  | cons p ps ih =>
    simp only [List.map_cons, List.filter_cons]
    have e : ne (partS p) = !(trimL p).isEmpty := ne_mkS _
    rw [e]
    cases (trimL p).isEmpty
    · simp [ih, partS]
    · simp [ih]
end Tok

def SplitAns (T : TypeId) (base : Nat) (l : List UInt8) (e : Ending) (w' : World) : Prop :=
  match Tok.splitL l with
  | .error c => e = .returned (.tuple #[.slice none 0 0, .int .i64 c])
  | .ok out => ∃ v, e = .returned (.tuple #[v, .int .i64 0]) ∧ Owns w' base T 1 es v (out.map mkS)

theorem Owns.base_le {α : Type} {w : World} {base base' : Nat} {e : TypeId} {size : Nat} {enc : α → List Value} {v : Value} {xs : List α} (h : Owns w base e size enc v xs) (hb : base' ≤ base) : Owns w base' e size enc v xs := h.mono hb

set_option maxHeartbeats 1600000 in
theorem split_any (s : ByteArray) (w : World) (hs : s.size ≤ 140737488351232) :
    Calls Tryz.prog 41 #[.string s] w fun e w' => SplitAns 9 w.heap.size (sl s) e w' ∧ Below w.heap.size w w' := by
  by_cases h1000 : 1000 < s.size
  · have HF : Hid (Tok.splitL (sl s) = .error 2) := by show _ = _; unfold Tok.splitL; rw [sl_len, if_pos h1000]
    go_enter Tryz.func41, Tryz.ntmps41
    go_wp2_with fail
    go_ret2
    exact ⟨by unfold SplitAns; rw [HF.out]; rfl, Below.refl _ _⟩
  · have HS : Hid (Tok.splitL (sl s) = match Tok.cutL 44 false [] (sl s) with
        | none => .error 3
        | some ps => if 20 < ((ps.map Tok.trimL).filter (fun p => !p.isEmpty)).length then .error 2 else .ok ((ps.map Tok.trimL).filter (fun p => !p.isEmpty))) := by
      show _ = _; unfold Tok.splitL; rw [sl_len, if_neg h1000]
    go_enter Tryz.func41, Tryz.ntmps41
    go_wp2_with fail
    refine (cut_any s 44 _ (by omega)).mono ?_
    rintro e w1 ⟨ha, hb1⟩
    rcases ha with ⟨hc, rfl⟩ | ⟨ps, v, hc, hlen, rfl, hown⟩
    · have HC := Lib.hid hc
      clear hc
      go_wp2_with fail
      go_ret2
      exact ⟨by unfold SplitAns; rw [HS.out, HC.out]; rfl, hb1⟩
    · have HC := Lib.hid hc
      have hfp := Tok.filter_parts ps
      have hr := SlR.of_owns hown
      have hl2 : (ps.map Tok.partS).length ≤ 1001 := by rw [List.length_map]; rw [sl_len] at hlen; omega
      have HF := Lib.hid hfp
      clear hc hown hlen hfp
      generalize ps.map Tok.partS = xs at hr hl2 HF
      obtain ⟨A, c, rfl, hcap, hA⟩ := hr
      go_wp2_with fail
      go_loopw [6, 22] (fun o i wr => ∃ k : Nat, k ≤ xs.length ∧ i = .int .i64 k ∧ Owns wr w1.heap.size 9 1 es o ((xs.take k).filter Tok.ne) ∧ Below w1.heap.size w1 wr) (fun _ i _ => xs.length - (intOf i).toNat)
      case atStart => exact ⟨0, by omega, rfl, Owns.nil _ _ _ _ _, Below.refl _ _⟩
      case round =>
        obtain ⟨k, hk, rfl, hown, hbel⟩ := hrel
        have hfl : ((xs.take k).filter Tok.ne).length ≤ k := Nat.le_trans (List.length_filter_le _ _) (List.length_take_le _ _)
        by_cases hlt : k < xs.length
        · obtain ⟨b, off, rfl, hb, hcell⟩ := hA (by omega)
          have hc1 := (hbel.cell (p := ⟨b, off + k, none⟩) hb).trans (hcell k (.string xs[k]) (by rw [es_map]; simp [hlt]))
          have HT : Hid (xs.take (k + 1) = xs.take k ++ [xs[k]]) := by show _ = _; rw [List.take_add_one, List.getElem?_eq_getElem hlt]; rfl
          clear hA hcell
          cases hne : (!xs[k].toList.isEmpty)
          · have HN : Hid (Tok.ne xs[k] = false) := hne
            go_wp2_with fail
            go_roundw
            case rel => exact ⟨k + 1, by omega, by go_num, by rw [HT.out, List.filter_append, List.filter_cons, HN.out]; simpa using hown, hbel⟩
            case measure => simp [intOf]; omega
          · have HN : Hid (Tok.ne xs[k] = true) := hne
            go_wp2_with (at_builtin; go_must (refine wpList_append_owns rfl (.tmp 28) (.tmp 30) _ rfl w1.heap.size 9 (.string ByteArray.empty) 1 16 es Tryz.underlying69 stringInfo rfl (by decide) _ _ rfl (hown.alloc _) ⟨wr.heap.size, 0, none⟩ 1 1 [xs[k]] rfl rfl rfl (new_cells _ [.string xs[k]] _) (es_one [_]) (by simp only [maxLen]; omega) (by omega) (bel_size hbel (Nat.le_refl _) _) ?_); intro v2 w2 hown2 hg2)
            go_roundw
            case rel => exact ⟨k + 1, by omega, by go_num, by rw [HT.out, List.filter_append, List.filter_cons, HN.out]; exact hown2, bel_append hbel (Nat.le_refl _) hown hg2⟩
            case measure => simp [intOf]; omega
        · have ht : xs.take k = xs := List.take_of_length_le (by omega)
          rw [ht] at hown hfl
          rw [HF.out] at hown hfl
          clear ht hA
          obtain ⟨out, HW⟩ : ∃ out, Hid (((ps.map Tok.trimL).filter (fun p => !p.isEmpty)).map mkS = out) := ⟨_, rfl⟩
          have HM : Hid (out.length = ((ps.map Tok.trimL).filter (fun p => !p.isEmpty)).length) := by show _ = _; rw [← HW.out, List.length_map]
          rw [HW.out] at hown hfl
          have hbw : Below w.heap.size w wr := hb1.trans (hbel.mono hb1.size)
          have HO := Lib.hid hown
          by_cases h20 : 20 < out.length
          · have HE : Hid (Tok.splitL (sl s) = .error 2) := by
              show _ = _; rw [HS.out, HC.out]; show (if _ then _ else _) = _; rw [if_pos (by rw [← HM.out]; exact h20)]
            rcases hown.form with ⟨hv, ha⟩ | ⟨g, cap, hv⟩
            · rw [ha] at h20; simp at h20
            · clear hown
              subst hv
              go_wp2_with fail
              go_ret2
              exact ⟨by unfold SplitAns; rw [HE.out]; rfl, hbw⟩
          · have HE : Hid (Tok.splitL (sl s) = .ok ((ps.map Tok.trimL).filter (fun p => !p.isEmpty))) := by
              show _ = _; rw [HS.out, HC.out]; show (if _ then _ else _) = _; rw [if_neg (by rw [← HM.out]; exact h20)]
            rcases hown.form with ⟨hv, ha⟩ | ⟨g, cap, hv⟩
            all_goals
              clear hown
              try clear ha
              subst hv
              go_wp2_with fail
              go_ret2
              exact ⟨by unfold SplitAns; rw [HE.out]; exact ⟨_, rfl, by rw [HW.out]; exact HO.out.mono hb1.size⟩, hbw⟩

/-! ### TokenCommas -/
namespace Tok
theorem dw_all {p : UInt8 → Bool} : ∀ (a l : List UInt8), a.all p = true → (a ++ l).dropWhile p = l.dropWhile p
  | [], l, _ => rfl
  | c :: a, l, h => by
    simp only [List.all_cons, Bool.and_eq_true] at h
    rw [List.cons_append, dw_cons_true h.1]
    exact dw_all a l h.2
theorem all_reverse {p : UInt8 → Bool} (a : List UInt8) (h : a.all p = true) : a.reverse.all p = true := by
  rw [List.all_eq_true] at h ⊢
  intro x hx
  exact h x (List.mem_reverse.1 hx)
/-- What stands between blanks, and begins and ends with none. -/
theorem trimL_of (a b : List UInt8) (x y : UInt8) (m : List UInt8) (ha : a.all blankB = true) (hb : b.all blankB = true) (hx : blankB x = false) (hy : blankB y = false)
    (h0 : m.head? = some x) (h1 : m.getLast? = some y) : trimL (a ++ m ++ b) = m := by
  cases m with
  | nil => cases h0
  | cons c m =>
    simp only [List.head?_cons, Option.some.injEq] at h0
    subst h0
    unfold trimL
    rw [List.append_assoc, dw_all a _ ha, List.cons_append, dw_cons_false hx, ← List.cons_append, List.reverse_append, dw_all _ _ (all_reverse b hb)]
    obtain ⟨l, hl⟩ : ∃ l, (c :: m).reverse = y :: l := by
      have : (c :: m).reverse.head? = some y := by rw [List.head?_reverse]; exact h1
      cases hr : (c :: m).reverse with
      | nil => rw [hr] at this; cases this
      | cons z l => rw [hr] at this; simp at this; exact ⟨l, by rw [this]⟩
    rw [hl, dw_cons_false hy, ← hl, List.reverse_reverse]
theorem cutL_escs (sign : UInt8) : ∀ (l cur r : List UInt8), cutL sign true cur (escs l ++ r) = cutL sign true (cur ++ escs l) r
  | [], cur, r => by simp [escs]
  | c :: l, cur, r => by
    rw [escs_cons]
    by_cases hc : (c == 34 || c == 92) = true
    · have e : esc c = [92, c] := if_pos hc
      rw [e, List.append_assoc]
      show cutL sign true cur (92 :: c :: (escs l ++ r)) = _
      rw [cutL_esc _ _ _ _ _ rfl rfl, cutL_escs sign l]; simp
    · have e : esc c = [c] := if_neg hc
      simp only [Bool.or_eq_true, not_or, Bool.not_eq_true] at hc
      rw [e, List.append_assoc]
      show cutL sign true cur (c :: (escs l ++ r)) = _
      rw [cutL_q _ _ _ _ hc.1 hc.2, cutL_escs sign l]; simp
theorem cutL_quoted (sign : UInt8) (l cur r : List UInt8) : cutL sign false cur (quoteL l ++ r) = cutL sign false (cur ++ quoteL l) r := by
  unfold quoteL
  show cutL sign false cur (34 :: (escs l ++ [34] ++ r)) = _
  rw [cutL_quote _ _ _ _ _ rfl, List.append_assoc, Bool.not_false, cutL_escs]
  show cutL sign true _ (34 :: r) = _
  rw [cutL_quote _ _ _ _ _ rfl]; simp
theorem trimL_quoted (a b l : List UInt8) (ha : a.all blankB = true) (hb : b.all blankB = true) : trimL (a ++ quoteL l ++ b) = quoteL l :=
  trimL_of a b 34 34 (quoteL l) ha hb rfl rfl rfl (by unfold quoteL; rw [← List.cons_append, List.getLast?_concat])
theorem split_two (a b : List UInt8) (h : (quoteL a).length + (quoteL b).length ≤ 990) : splitL (quoteL a ++ [32, 44, 32] ++ quoteL b) = .ok [quoteL a, quoteL b] := by
  have hc : cutL 44 false [] (quoteL a ++ [32, 44, 32] ++ quoteL b) = some [quoteL a ++ [32], [32] ++ quoteL b] := by
    rw [List.append_assoc, cutL_quoted]
    show cutL 44 false _ (32 :: 44 :: 32 :: quoteL b) = _
    rw [cutL_n _ _ _ _ rfl rfl, cutL_sign _ _ _ _ rfl rfl, cutL_n _ _ _ _ rfl rfl, ← List.append_nil (quoteL b), cutL_quoted]
    simp [cutL]
  have t1 : trimL (quoteL a ++ [32]) = quoteL a := by have := trimL_quoted [] [32] a rfl rfl; simpa using this
  have t2 : trimL ([32] ++ quoteL b) = quoteL b := by have := trimL_quoted [32] [] b rfl rfl; simpa using this
  unfold splitL
  rw [if_neg (by simp; omega), hc]
  simp only [List.map_cons, List.map_nil, t1, t2]
  have e1 : (quoteL a).isEmpty = false := rfl
  have e2 : (quoteL b).isEmpty = false := rfl
  simp [e1, e2]
end Tok
end Go.Proofs.YtoalfjkbgeiggaaGreatDoor
namespace Go.Proofs.YtoalfjkbgeiggaaGreatDoor
open Go.RowKit
theorem indexByte_case (l : List UInt8) (c : UInt8) : (∃ k : Nat, ∃ hk : k < l.length, Lib.indexByte l c = (k : Int) ∧ l[k] = c ∧ c ∉ l.take k) ∨ (Lib.indexByte l c = -1 ∧ c ∉ l) := by
  induction l with
  | nil => exact .inr ⟨rfl, by simp⟩
  | cons b l ih =>
    by_cases hb : b = c
    · refine .inl ⟨0, by simp, ?_, hb, by simp⟩
      simp [Lib.indexByte, hb]
    · have hb' : (b == c) = false := by simpa using hb
      rcases ih with ⟨k, hk, h1, h2, h3⟩ | ⟨h1, h2⟩
      · refine .inl ⟨k + 1, by simpa using hk, ?_, by simpa using h2, ?_⟩
        · have : ((k : Int) == -1) = false := by rw [beq_eq_false_iff_ne]; omega
          simp only [Lib.indexByte, hb', h1, this, Bool.false_eq_true, if_false]
          omega
        · simp only [List.take_succ_cons, List.mem_cons, not_or]
          exact ⟨fun e => hb e.symm, h3⟩
      · refine .inr ⟨?_, by simp only [List.mem_cons, not_or]; exact ⟨fun e => hb e.symm, h2⟩⟩
        simp [Lib.indexByte, hb', h1]
theorem indexByte_nn (l : List UInt8) (c : UInt8) : decide (0 ≤ Lib.indexByte l c) = l.contains c := by
  rcases indexByte_case l c with ⟨k, hk, h1, h2, _⟩ | ⟨h1, h2⟩
  · rw [h1, List.contains_iff_mem.2 (by rw [← h2]; exact List.getElem_mem hk)]; simp
  · rw [h1]
    have : l.contains c = false := by rw [← Bool.not_eq_true, List.contains_iff_mem]; exact h2
    rw [this]; rfl
end Go.Proofs.YtoalfjkbgeiggaaGreatDoor
namespace Go.Proofs.YtoalfjkbgeiggaaGreatDoor
open Go.RowKit
namespace Tok
def signs : List UInt8 := [33, 35, 36, 37, 38, 39, 42, 43, 45, 46, 94, 95, 96, 124, 126]
def alnum (c : UInt8) : Bool := (97 ≤ c && c ≤ 122) || (65 ≤ c && c ≤ 90) || (48 ≤ c && c ≤ 57)
def tokB (c : UInt8) : Bool := alnum c || signs.contains c
def isTok (s : ByteArray) : Bool := (sl s).all tokB && decide (0 < s.size)
end Tok
theorem alnum_iff (c : UInt8) : Tok.alnum c = true ↔ (97 ≤ (c.toNat : Int) ∧ (c.toNat : Int) ≤ 122) ∨ (65 ≤ (c.toNat : Int) ∧ (c.toNat : Int) ≤ 90) ∨ (48 ≤ (c.toNat : Int) ∧ (c.toNat : Int) ≤ 57) := by
  simp [Tok.alnum, u8_le]
  omega
set_option maxHeartbeats 800000 in
theorem isTokenByte_any (c : UInt8) (w : World) :
    Calls Tryz.prog 63 #[.int .u8 c.toNat] w fun e w' => e = .returned (.bool (Tok.tokB c)) ∧ w = w' := by
  have hb := c.toNat_lt
  cases ha : Tok.alnum c
  · have hn : ¬ _ := fun h => by have := (alnum_iff c).2 h; rw [ha] at this; cases this
    have hi : decide (0 ≤ Lib.indexByte Tok.signs c) = Tok.tokB c := by rw [indexByte_nn]; unfold Tok.tokB; rw [ha, Bool.false_or]
    have hc : (c.toNat : Int).toNat.toUInt8 = c := by simp
    have HI := Lib.hid (Tryz.strings_IndexByte ⟨Tok.signs.toArray⟩ (c.toNat : Int))
    rw [hc] at HI
    have HD := Lib.hid hi
    clear hc hi ha
    simp only [not_or, not_and, Int.not_le] at hn
    obtain ⟨n1, n2, n3⟩ := hn
    go_enter Tryz.func63, Tryz.ntmps63
    go_wp2_with ((go_at_call 87; refine (HI.out _).mono ?_); rintro e w' ⟨rfl, rfl⟩)
    all_goals
      first
        | (exfalso; omega)
        | (go_ret
           exact ⟨ret_bool HD.out, rfl⟩)
  · have hy := (alnum_iff c).1 ha
    have HT : Hid (Tok.tokB c = true) := by show _ = _; unfold Tok.tokB; rw [ha]; rfl
    clear ha
    go_enter Tryz.func63, Tryz.ntmps63
    go_wp2_with fail
    all_goals
      first
        | (exfalso; omega)
        | (go_ret
           exact ⟨ret_bool HT.out.symm, rfl⟩)
set_option maxHeartbeats 800000 in
theorem isToken_any (s : ByteArray) (w : World) (hs : s.size ≤ 9223372036854775807) :
    Calls Tryz.prog 42 #[.string s] w fun e w' => e = .returned (.bool (Tok.isTok s)) ∧ w = w' := by
  go_enter Tryz.func42, Tryz.ntmps42
  go_wp2_with fail
  go_loop [6] (fun i => ∃ k : Nat, k ≤ s.size ∧ i = .int .i64 k ∧ ((sl s).take k).all Tok.tokB = true) (fun i => s.size - (intOf i).toNat)
  case atStart => exact ⟨0, by omega, rfl, by simp⟩
  case round =>
    obtain ⟨k, hk, rfl, hall⟩ := hrel
    have HA := Lib.hid hall
    clear hall
    by_cases hlt : k < s.size
    · have HC := Lib.hid (sl_getElem? s k hlt)
      cases hq : Tok.tokB s[k]
      all_goals
        have HQ := Lib.hid hq
        have HI := Lib.hid (isTokenByte_any s[k])
        rw [hq] at HI
        clear hq
        go_wp2_with fail
        refine (HI.out _).mono ?_
        rintro e w' ⟨rfl, rfl⟩
        go_wp2_with fail
      · go_ret
        exact ⟨ret_bool (by unfold Tok.isTok; rw [all_false HC.out HQ.out]; rfl), rfl⟩
      · go_round
        case rel => exact ⟨k + 1, by omega, by go_num, all_take_succ HC.out HA.out HQ.out⟩
        case measure => simp [intOf]; omega
    · have HF : Hid ((!s.toList.isEmpty) = Tok.isTok s) := by
        show _ = _
        unfold Tok.isTok
        have := HA.out
        rw [List.take_of_length_le (by rw [sl_len]; omega)] at this
        rw [this, Bool.true_and, ba_toList]
        rcases Nat.eq_zero_or_pos s.size with h | h
        · rw [empty_of_size s h]; rfl
        · rw [sl_cons s h, decide_eq_true h]; rfl
      go_wp2_with fail
      go_ret
      exact ⟨ret_bool HF.out, rfl⟩
end Go.Proofs.YtoalfjkbgeiggaaGreatDoor
namespace Go.Proofs.YtoalfjkbgeiggaaGreatDoor
open Go.RowKit
def joinL (xs : List ByteArray) (sep : ByteArray) : List UInt8 := Lib.join (xs.map sl) (sl sep)
def joinS (xs : List ByteArray) (sep : ByteArray) : ByteArray := mkS (joinL xs sep)
theorem joinS_nil (sep : ByteArray) : joinS [] sep = ByteArray.empty := rfl
theorem join_len : ∀ (xs : List (List UInt8)) (sep : List UInt8), (Lib.join xs sep).length ≤ (xs.map (fun x => x.length + sep.length)).sum
  | [], sep => by simp [Lib.join_nil]
  | x :: xs, sep => by
    have key : ∀ r : List (List UInt8), (Lib.joinTail sep r).length = (r.map (fun x => x.length + sep.length)).sum := by
      intro r
      induction r with
      | nil => rfl
      | cons y ys ih => simp only [Lib.joinTail, List.map_cons, List.flatten_cons, List.length_append, List.sum_cons] at ih ⊢; rw [ih]; omega
    rw [Lib.join_cons, List.length_append, key, List.map_cons, List.sum_cons]
    omega
theorem joinL_len (xs : List ByteArray) (sep : ByteArray) : (joinL xs sep).length ≤ (xs.map (fun x => x.size + sep.size)).sum := by
  refine Nat.le_trans (join_len _ _) (Nat.le_of_eq ?_)
  rw [List.map_map]
  exact congrArg List.sum (List.map_congr_left (fun x _ => by simp only [Function.comp, sl_len]))
theorem join_any (v : Value) (xs : List ByteArray) (sep : ByteArray) (w : World) (h : SlR w es v xs) (hx : xs.length ≤ 140737488351232) (hlen : (joinL xs sep).length ≤ 140737488351232) :
    Calls Tryz.prog 40 #[v, .string sep] w fun e w' => e = .returned (.string (joinS xs sep)) ∧ Below w.heap.size w w' := by
  by_cases hn : 0 < xs.length
  · obtain ⟨b, o, c, rfl, hc, hb, hcell⟩ := h.texts hn
    refine (Tryz.strings_Join b o c xs sep w (fun j x hj => ?_) hb (by omega) hc (by unfold joinL at hlen; exact Nat.le_trans hlen (by decide))).mono ?_
    · obtain ⟨hj1, rfl⟩ := List.getElem?_eq_some_iff.1 hj
      exact hcell j hj1
    · rintro e w' ⟨rfl, hb'⟩
      exact ⟨rfl, hb'⟩
  · have : xs = [] := List.eq_nil_of_length_eq_zero (by omega)
    subst this
    obtain ⟨A, c, rfl, hc, -⟩ := h
    refine (Tryz.strings_Join_none A c sep w).mono ?_
    rintro e w' ⟨rfl, rfl⟩
    exact ⟨rfl, Below.refl _ _⟩
end Go.Proofs.YtoalfjkbgeiggaaGreatDoor
namespace Go.Proofs.YtoalfjkbgeiggaaGreatDoor
open Go.RowKit
namespace Tok
/-- The parts between commas, where there are no quotes. -/
def seg : List UInt8 → List UInt8 → List (List UInt8)
  | cur, [] => [cur]
  | cur, c :: r => if c == 44 then cur :: seg [] r else seg (cur ++ [c]) r
theorem cutL_seg : ∀ (l cur : List UInt8), (34 : UInt8) ∉ l → cutL 44 false cur l = some (seg cur l)
  | [], cur, _ => rfl
  | c :: r, cur, h => by
    have hc : (c == 34) = false := by
      rw [beq_eq_false_iff_ne]; intro e; apply h; simp [e]
    have hr : (34 : UInt8) ∉ r := fun e => h (by simp [e])
    by_cases hs : (c == 44) = true
    · rw [cutL_sign 44 c cur r hc hs, cutL_seg r [] hr, seg, if_pos hs]; rfl
    · have hs' : (c == 44) = false := by simpa using hs
      rw [cutL_n 44 c cur r hc hs', cutL_seg r _ hr, seg, if_neg hs]
def parts (cur l : List UInt8) : List (List UInt8) := ((seg cur l).map trimL).filter (fun p => !p.isEmpty)
def gapB (c : UInt8) : Bool := blankB c || c == 44
theorem trimL_blank (b x : List UInt8) (h : b.all blankB = true) : trimL (b ++ x) = trimL x := by
  unfold trimL; rw [dw_all b x h]
theorem seg_blank : ∀ (l b cur : List UInt8), b.all blankB = true → (seg (b ++ cur) l).map trimL = (seg cur l).map trimL
  | [], b, cur, h => by simp [seg, trimL_blank b cur h]
  | c :: r, b, cur, h => by
    simp only [seg]
    split
    · simp [trimL_blank b cur h]
    · rw [List.append_assoc]; exact seg_blank r b (cur ++ [c]) h
theorem trimL_nil : trimL [] = [] := rfl
theorem parts_gap : ∀ (g l : List UInt8), g.all gapB = true → parts [] (g ++ l) = parts [] l
  | [], l, _ => rfl
  | c :: g, l, h => by
    simp only [List.all_cons, Bool.and_eq_true] at h
    have ih := parts_gap g l h.2
    by_cases hc : (c == 44) = true
    · unfold parts at ih ⊢
      rw [List.cons_append, seg, if_pos hc]
      simpa [trimL_nil] using ih
    · have hb : blankB c = true := by
        have := h.1; unfold gapB at this; rw [Bool.or_eq_true] at this
        exact this.resolve_right hc
      unfold parts at ih ⊢
      rw [List.cons_append, seg, if_neg hc, List.nil_append]
      have := seg_blank (g ++ l) [c] [] (by simp [hb])
      rw [List.append_nil] at this
      rw [this]; exact ih
theorem seg_plain : ∀ (u cur v : List UInt8), (44 : UInt8) ∉ u → seg cur (u ++ v) = seg (cur ++ u) v
  | [], cur, v, _ => by simp
  | c :: u, cur, v, h => by
    have hc : ¬ (c == 44) = true := by rw [beq_iff_eq]; intro e; apply h; simp [e]
    rw [List.cons_append, seg, if_neg hc, seg_plain u _ v (fun e => h (by simp [e])), List.append_assoc]; rfl
/-- A gap: blanks, a comma, blanks and commas. -/
structure Gap (g : List UInt8) : Prop where
  all : g.all gapB = true
  comma : ∃ b g', g = b ++ 44 :: g' ∧ b.all blankB = true
def tokOk (t : List UInt8) : Prop := t.all tokB = true ∧ t ≠ []
theorem tok_blank {c : UInt8} (h : tokB c = true) : blankB c = false ∧ c ≠ 44 ∧ c ≠ 34 := by
  have h44 : tokB 44 = false := by decide
  have h34 : tokB 34 = false := by decide
  have h32 : tokB 32 = false := by decide
  have h9 : tokB 9 = false := by decide
  refine ⟨?_, ?_, ?_⟩
  · cases hb : blankB c
    · rfl
    · have : c = 32 ∨ c = 9 := by simpa [blankB] using hb
      rcases this with rfl | rfl
      · rw [h32] at h; cases h
      · rw [h9] at h; cases h
  · rintro rfl; rw [h44] at h; cases h
  · rintro rfl; rw [h34] at h; cases h
theorem trimL_tok {t b : List UInt8} (ht : tokOk t) (hb : b.all blankB = true) : trimL (t ++ b) = t := by
  obtain ⟨h1, h2⟩ := ht
  have hx : ∀ c ∈ t, blankB c = false := fun c hc => (tok_blank (List.all_eq_true.1 h1 c hc)).1
  unfold trimL
  have e1 : (t ++ b).dropWhile blankB = t ++ b := by
    cases t with
    | nil => exact absurd rfl h2
    | cons x t => rw [List.cons_append]; exact dw_cons_false (hx x (by simp))
  rw [e1, List.reverse_append, dw_all b.reverse _ (all_reverse b hb)]
  have e2 : t.reverse.dropWhile blankB = t.reverse := by
    cases hr : t.reverse with
    | nil => rfl
    | cons x r => exact dw_cons_false (hx x (by rw [← List.mem_reverse, hr]; simp))
  rw [e2, List.reverse_reverse]
theorem parts_tok {t g l : List UInt8} (ht : tokOk t) (hg : Gap g) : parts [] (t ++ (g ++ l)) = t :: parts [] l := by
  obtain ⟨b, g', he, hb⟩ := hg.comma
  have hg' : g'.all gapB = true := by
    have := hg.all
    rw [he, List.all_append, List.all_cons] at this
    simp only [Bool.and_eq_true] at this
    exact this.2.2
  have h44 : (44 : UInt8) ∉ t ++ b := by
    intro hm
    rcases List.mem_append.1 hm with h | h
    · exact (tok_blank (List.all_eq_true.1 ht.1 44 h)).2.1 rfl
    · have := List.all_eq_true.1 hb 44 h
      revert this; decide
  have : parts [] (t ++ (g ++ l)) = t :: parts [] (g' ++ l) := by
    unfold parts
    rw [he, show t ++ (b ++ 44 :: g' ++ l) = (t ++ b) ++ 44 :: (g' ++ l) from by simp, seg_plain (t ++ b) [] _ h44, List.nil_append, seg, if_pos (by rfl)]
    simp only [List.map_cons, trimL_tok ht hb]
    rw [List.filter_cons, if_pos]
    cases t with
    | nil => exact absurd rfl ht.2
    | cons x t => rfl
  rw [this, parts_gap g' l hg']
/-- Tokens with a gap ahead, between and behind. -/
theorem parts_joined {g : List UInt8} (hg : Gap g) : ∀ (ts : List (List UInt8)), (∀ t ∈ ts, tokOk t) → parts [] ((ts.map (· ++ g)).flatten) = ts
  | [], _ => by simp [parts, seg, trimL_nil]
  | t :: ts, h => by
    rw [List.map_cons, List.flatten_cons, List.append_assoc, parts_tok (h t (by simp)) hg, parts_joined hg ts (fun x hx => h x (by simp [hx]))]
theorem joined {g : List UInt8} : ∀ (ts : List (List UInt8)), ts ≠ [] → Lib.join ts g ++ g = (ts.map (· ++ g)).flatten
  | [], h => absurd rfl h
  | [t], _ => by rw [Lib.join_one]; simp
  | t :: u :: ts, _ => by
    have ih := joined (g := g) (u :: ts) (by simp)
    rw [List.map_cons, List.flatten_cons, ← ih, Lib.join_cons, Lib.join_cons]
    simp [Lib.joinTail]
theorem split_joined {g : List UInt8} (hg : Gap g) (hg5 : g.length ≤ 5) (ts : List (List UInt8)) (h : ∀ t ∈ ts, tokOk t ∧ t.length ≤ 30) (hn : ts.length ≤ 15) : splitL (g ++ (Lib.join ts g ++ g)) = .ok ts := by
  have h34g : (34 : UInt8) ∉ g := by
    intro hm; have := List.all_eq_true.1 hg.all 34 hm; revert this; decide
  have hjl : (Lib.join ts g).length ≤ 35 * 15 := by
    refine Nat.le_trans (join_len ts g) ?_
    have : ∀ l : List (List UInt8), (∀ t ∈ l, t.length ≤ 30) → (l.map (fun x => x.length + g.length)).sum ≤ 35 * l.length := by
      intro l
      induction l with
      | nil => simp
      | cons x l ih => intro hl; have := ih (fun t ht => hl t (by simp [ht])); have := hl x (by simp); simp only [List.map_cons, List.sum_cons, List.length_cons]; omega
    have := this ts (fun t ht => (h t ht).2)
    omega
  have h34 : (34 : UInt8) ∉ g ++ (Lib.join ts g ++ g) := by
    intro hm
    rcases List.mem_append.1 hm with hm | hm
    · exact h34g hm
    · by_cases hts : ts = []
      · rw [hts, Lib.join_nil, List.nil_append] at hm; exact h34g hm
      · rw [joined ts hts, List.mem_flatten] at hm
        obtain ⟨y, hy, hm⟩ := hm
        obtain ⟨t, ht, rfl⟩ := List.mem_map.1 hy
        rcases List.mem_append.1 hm with hm | hm
        · exact (tok_blank (List.all_eq_true.1 (h t ht).1.1 34 hm)).2.2 rfl
        · exact h34g hm
  have hp : parts [] (g ++ (Lib.join ts g ++ g)) = ts := by
    rw [parts_gap g _ hg.all]
    by_cases hts : ts = []
    · subst hts
      rw [Lib.join_nil, List.nil_append, ← List.append_nil g, parts_gap g [] hg.all]; rfl
    · rw [joined ts hts]; exact parts_joined hg ts (fun t ht => (h t ht).1)
  have hz : ¬ 1000 < (g ++ (Lib.join ts g ++ g)).length := by rw [List.length_append, List.length_append]; omega
  unfold splitL
  rw [if_neg hz, cutL_seg _ [] h34]
  simp only
  rw [show ((seg [] (g ++ (Lib.join ts g ++ g))).map trimL).filter (fun p => !p.isEmpty) = ts from hp, if_neg (by omega)]
end Tok
end Go.Proofs.YtoalfjkbgeiggaaGreatDoor
namespace Go.Proofs.YtoalfjkbgeiggaaGreatDoor
open Go.RowKit
/-- Block g holds these bytes at its head, and they may be written. -/
def Buf (w : World) (g : Nat) (l : List UInt8) : Prop := g < w.heap.size ∧ ∀ j (hj : j < l.length), w.cell? ⟨g, j, none⟩ = some (bv l[j]) ∧ w.frozen? ⟨g, j, none⟩ = false
theorem Buf.cell {w : World} {g : Nat} {l : List UInt8} (h : Buf w g l) (j : Nat) (hj : j < l.length) : w.cell? ⟨g, j, none⟩ = some (bv l[j]) := (h.2 j hj).1
theorem Buf.free {w : World} {g : Nat} {l : List UInt8} (h : Buf w g l) (j : Nat) (hj : j < l.length) : w.frozen? ⟨g, j, none⟩ = false := (h.2 j hj).2
theorem Buf.below {w w' : World} {g : Nat} {l : List UInt8} (h : Buf w g l) (hb : Below w.heap.size w w') : Buf w' g l :=
  ⟨Nat.lt_of_lt_of_le h.1 hb.size, fun j hj => ⟨(hb.cell (p := ⟨g, j, none⟩) h.1).trans (h.cell j hj), (hb.frozen (p := ⟨g, j, none⟩) h.1).trans (h.free j hj)⟩⟩
theorem Buf.drew {w : World} {g : Nat} {l : List UInt8} (h : Buf w g l) : Buf w.drew g l := h
theorem Buf.alloc {w : World} {g : Nat} {l : List UInt8} (h : Buf w g l) (o : Obj) : Buf (w.alloc o) g l := h.below ((Below.refl _ _).alloc (Nat.le_refl _) o)
theorem Buf.put {w : World} {g : Nat} {l : List UInt8} (h : Buf w g l) (i : Nat) (hi : i < l.length) (c : UInt8) : Buf (w.setCell ⟨g, i, none⟩ (bv c)) g (l.set i c) := by
  refine ⟨by simpa using h.1, fun j hj => ?_⟩
  rw [List.length_set] at hj
  refine ⟨?_, by rw [World.frozen?_setCell]; exact h.free j hj⟩
  by_cases e : i = j
  · subst e
    rw [World.cell?_setCell_same _ _ _ (h.cell i hi)]
    simp
  · rw [World.cell?_setCell_other _ _ _ _ (by intro h; injection h with _ h2 _; exact e h2), h.cell j hj]
    simp [e]
section
variable {P : Program}
theorem buf_new (w : World) (e : TypeId) (s : ByteArray) (cap : Nat) (fr : Nat × Nat) (h0 : s.size ≤ fr.1) : Buf (w.drew.alloc (.cells (bytesRow s cap) e fr)) w.heap.size (sl s) := by
  refine ⟨by simp, fun j hj => ?_⟩
  have hj' : j < s.size := by rwa [sl_len] at hj
  have hh : (w.drew.alloc (.cells (bytesRow s cap) e fr)).heap[w.heap.size]? = some (.cells (bytesRow s cap) e fr) := heap_alloc_new w.drew _
  constructor
  · rw [cell_of_row _ _ j _ _ _ hh]
    simp [bytesRow, sl, bv, Array.getElem?_append, hj']
  · simp only [World.frozen?, hh]
    simp
    omega
theorem wpList_to_bytes {ops : Array Oper} {rest : List Oper} {o : Oper} {a : Act} {Q : Exit → Act → World → Prop} {w : World} (hgd : o.guard = none) (x : Operand) (src dst e : TypeId)
    (ho : o.op = .convert src dst x) (hs : P.underlying src = some .string) (hd : P.underlying dst = some (.slice e)) (he : P.underlying e = some (.int .u8)) (s : ByteArray) (hx : a.eval x = .string s)
    (h : ∀ c w1, s.size ≤ c → Buf w1 w.heap.size (sl s) → Below w.heap.size w w1 → w1.heap.size = w.heap.size + 1 → wpList P ops Q rest (a.put o.dst (.slice (some ⟨w.heap.size, 0, none⟩) s.size c)) w1) : wpList P ops Q (o :: rest) a w := by
  refine wpList_plain hgd fun K hK => ?_
  unfold Oper.wp execOp
  simp only [ho, hx, Sem.run_bind, Result.andThen_ok, run_bytes_of_string w src dst e s hs hd he]
  have hc : s.size ≤ grownCap w s.size 0 e := grownCap_ge _ _ _ _
  refine hK _ _ (h _ _ hc (buf_new w e s _ _ ?_) ((Below.refl _ _).drew.alloc (by simp) _) (by simp))
  simp [bytesRow]
/-- 'string(b)'. -/
theorem run_string_buf {src dst e : TypeId} (hs : P.underlying src = some (.slice e)) (he : P.underlying e = some (.int .u8)) (hd : P.underlying dst = some .string) {w : World} {g : Nat} {l : List UInt8} (h : Buf w g l) (cap : Nat) :
    (convert src dst (.slice (some ⟨g, 0, none⟩) l.length cap)).run P w = .ok (.string (mkS l)) w := by
  refine run_convert_bytes_back w src dst e ⟨g, 0, none⟩ cap l hs he hd (fun j hj => ?_)
  have e : ((⟨g, 0, none⟩ : Addr).add j) = ⟨g, j, none⟩ := by unfold Addr.add; split <;> simp_all
  rw [e]; exact h.cell j hj
end
end Go.Proofs.YtoalfjkbgeiggaaGreatDoor
namespace Go.Proofs.YtoalfjkbgeiggaaGreatDoor
open Go.RowKit
namespace Tok
def lowB (c : UInt8) : UInt8 := if 65 ≤ c ∧ c ≤ 90 then c + 32 else c
def low (l : List UInt8) : List UInt8 := l.map lowB
theorem lowB_up {c : UInt8} (h0 : 65 ≤ (c.toNat : Int)) (h1 : (c.toNat : Int) ≤ 90) : ((lowB c).toNat : Int) = (c.toNat : Int) + 32 := by
  unfold lowB
  rw [if_pos ⟨by rw [u8_le]; exact h0, by rw [u8_le]; exact h1⟩, UInt8.toNat_add]
  have : (32 : UInt8).toNat = 32 := rfl
  rw [this]; omega
theorem lowB_no {c : UInt8} (h : (c.toNat : Int) < 65 ∨ 90 < (c.toNat : Int)) : lowB c = c := by
  unfold lowB
  rw [if_neg]
  rw [u8_le, u8_le]
  have : ((65 : UInt8).toNat : Int) = 65 := rfl
  have : ((90 : UInt8).toNat : Int) = 90 := rfl
  omega
theorem lowB_low (c : UInt8) : lowB (lowB c) = lowB c := by
  by_cases h : 65 ≤ (c.toNat : Int) ∧ (c.toNat : Int) ≤ 90
  · apply lowB_no; rw [lowB_up h.1 h.2]; omega
  · rw [lowB_no (c := c) (by omega), lowB_no (c := c) (by omega)]
theorem low_low (l : List UInt8) : low (low l) = low l := by
  unfold low; rw [List.map_map]; exact List.map_congr_left (fun a _ => lowB_low a)
theorem low_len (l : List UInt8) : (low l).length = l.length := List.length_map ..
/-- When k of them are lowered. -/
def lowTo (l : List UInt8) (k : Nat) : List UInt8 := low (l.take k) ++ l.drop k
theorem lowTo_len (l : List UInt8) (k : Nat) : (lowTo l k).length = l.length := by simp [lowTo, low]; omega
theorem lowTo_at {l : List UInt8} {k : Nat} (h : k < l.length) : (lowTo l k)[k]'(by rw [lowTo_len]; exact h) = l[k] := by
  unfold lowTo
  rw [List.getElem_append_right (by simp [low]; omega)]
  simp only [List.getElem_drop]
  congr 1
  simp [low]; omega
theorem lowTo_set {l : List UInt8} {k : Nat} (h : k < l.length) : (lowTo l k).set k (lowB l[k]) = lowTo l (k + 1) := by
  unfold lowTo
  have hl : (low (l.take k)).length = k := by simp [low]; omega
  rw [List.set_append_right _ _ (by omega), hl, Nat.sub_self, List.drop_eq_getElem_cons h, List.set_cons_zero, List.take_add_one, List.getElem?_eq_getElem h]
  unfold low
  rw [List.map_append, List.append_assoc]
  rfl
theorem lowTo_keep {l : List UInt8} {k : Nat} (h : k < l.length) (he : lowB l[k] = l[k]) : lowTo l (k + 1) = lowTo l k := by
  rw [← lowTo_set h, he]
  have := lowTo_at h
  rw [← this, List.set_getElem_self]
end Tok
set_option maxHeartbeats 800000 in
theorem lower_any (s : ByteArray) (w : World) (hs : s.size ≤ 140737488351232) :
    Calls Tryz.prog 25 #[.string s] w fun e w' => e = .returned (.string (mkS (Tok.low (sl s)))) ∧ Below w.heap.size w w' := by
  go_enter Tryz.func25, Tryz.ntmps25
  go_wp2_with ((refine wpList_to_bytes rfl (.tmp 6) 9 82 5 rfl Tryz.underlying9 Tryz.underlying82 Tryz.underlying5 s rfl ?_); intro cp w2 hcp hbuf b2 hsz2)
  go_loopw [10] (fun i wr => ∃ k : Nat, k ≤ s.size ∧ i = .int .i64 k ∧ Buf wr w.heap.size (Tok.lowTo (sl s) k) ∧ Below w.heap.size w wr) (fun i _ => s.size - (intOf i).toNat)
  case atStart => exact ⟨0, by omega, rfl, hbuf, b2⟩
  case round =>
    obtain ⟨k, hk, rfl, hb, hbel⟩ := hrel
    have hgl := hb.1
    by_cases hlt : k < s.size
    · have hkl : k < (sl s).length := by rw [sl_len]; exact hlt
      have hkl' : k < (Tok.lowTo (sl s) k).length := by rw [Tok.lowTo_len]; exact hkl
      have c0 := hb.cell k hkl'
      have f0 := hb.free k hkl'
      rw [Tok.lowTo_at hkl] at c0
      have HP := Lib.hid (hb.put k hkl' (Tok.lowB (sl s)[k]))
      have HS : Hid ((Tok.lowTo (sl s) k).set k (Tok.lowB (sl s)[k]) = Tok.lowTo (sl s) (k + 1)) := Tok.lowTo_set hkl
      have HK : Hid (Tok.lowB (sl s)[k] = (sl s)[k] → Tok.lowTo (sl s) (k + 1) = Tok.lowTo (sl s) k) := fun h => Tok.lowTo_keep hkl h
      generalize (sl s)[k] = c at c0 HP HS HK
      have HB := Lib.hid hb
      have hcb := c.toNat_lt
      simp only [bv] at c0
      clear hb hkl hkl'
      by_cases hup : 65 ≤ (c.toNat : Int) ∧ (c.toNat : Int) ≤ 90
      · obtain ⟨u1, u2⟩ := hup
        have HL := Lib.hid (Tok.lowB_up u1 u2)
        go_wp2
        go_roundw
        case rel =>
          refine ⟨k + 1, by omega, by go_num, ?_, hbel.setCell (p := ⟨w.heap.size, k, none⟩) (Nat.le_refl _) _⟩
          rw [← HS.out, show Value.int IntKind.u8 ((c.toNat : Int) + 97 - 65) = bv (Tok.lowB c) from by unfold bv; rw [HL.out]; congr 1; omega]
          exact HP.out
        case measure => simp [intOf]; omega
      · have HN := Lib.hid (Tok.lowB_no (c := c) (by omega))
        go_wp2
        all_goals
          go_roundw
          case rel => exact ⟨k + 1, by omega, by go_num, by rw [HK.out HN.out]; exact HB.out, hbel⟩
          case measure => simp [intOf]; omega
    · obtain rfl : k = s.size := by omega
      have hE : Tok.lowTo (sl s) s.size = Tok.low (sl s) := by
        unfold Tok.lowTo; rw [List.take_of_length_le (by rw [sl_len]; omega), List.drop_eq_nil_of_le (by rw [sl_len]; omega), List.append_nil]
      rw [hE] at hb
      have hrs := run_string_buf (dst := 9) Tryz.underlying82 Tryz.underlying5 Tryz.underlying9 hb cp
      rw [Tok.low_len, sl_len] at hrs
      clear hE hb
      go_wp2
      go_ret
      exact ⟨rfl, hbel⟩
end Go.Proofs.YtoalfjkbgeiggaaGreatDoor
