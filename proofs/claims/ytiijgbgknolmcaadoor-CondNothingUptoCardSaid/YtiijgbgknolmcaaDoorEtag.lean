/- What etag's Print, first and Parse compute. -/
import Derived.Test.YtiijgbgknolmcaaDoorCut
namespace Go.Proofs.YtiijgbgknolmcaaDoor
open Go.RowKit
namespace Tg
def tagB (c : UInt8) : Bool := c == 33 || (35 ≤ c && c ≤ 126)
abbrev Tag := Bool × ByteArray
def good (t : Tag) : Prop := t.2.size ≤ 100 ∧ (sl t.2).all tagB = true
instance (t : Tag) : Decidable (good t) := inferInstanceAs (Decidable (_ ∧ _))
/-- A tag's text. -/
def text (t : Tag) : List UInt8 := (if t.1 then [87, 47] else []) ++ (34 :: (sl t.2 ++ [34]))
theorem tagB_34 : tagB 34 = false := by decide
theorem tagB_44 : tagB 44 = true := by decide
/-- What is left behind "W/", and whether it stood there. -/
def weak (l : List UInt8) : Bool × List UInt8 := if [87, 47] <+: l then (true, l.drop 2) else (false, l)
/-- first: a tag and what is behind it. -/
def first (l : List UInt8) : Option (Tag × List UInt8) :=
  match (weak l).2 with
  | 34 :: r => match r.span (· != 34) with
    | (a, _ :: b) => if good ((weak l).1, mkS a) then some (((weak l).1, mkS a), b) else none
    | _ => none
  | _ => none
end Tg
theorem tagB_iff (c : UInt8) : Tg.tagB c = true ↔ (c.toNat : Int) = 33 ∨ (35 ≤ (c.toNat : Int) ∧ (c.toNat : Int) ≤ 126) := by
  simp [Tg.tagB, u8_le, u8_eq]
theorem isTagByte_any (c : UInt8) (w : World) :
    Calls Tryd.prog 36 #[.int .u8 c.toNat] w fun e w' => e = .returned (.bool (Tg.tagB c)) ∧ w = w' := by
  have H := Lib.hid (tagB_iff c)
  have hb := c.toNat_lt
  generalize Tg.tagB c = q at *
  generalize c.toNat = n at *
  go_enter Tryd.func36, Tryd.ntmps36
  go_wp2
  all_goals
    go_ret
    exact ⟨ret_bool (by rw [Bool.eq_iff_iff, H.out]; simp; try omega), rfl⟩
/-- What Print answers. -/
def TagPr (t : Tg.Tag) (e : Ending) : Prop :=
  (Tg.good t ∧ e = .returned (.tuple #[.string (mkS (Tg.text t)), .int .i64 0])) ∨ (¬ Tg.good t ∧ ∃ c : Int, 2 ≤ c ∧ c ≤ 3 ∧ e = .returned (.tuple #[.string ByteArray.empty, .int .i64 c]))
set_option maxHeartbeats 1600000 in
theorem tagPrint_any (wk : Bool) (s : ByteArray) (w : World) (hs : s.size ≤ 9223372036854775807) :
    Calls Tryd.prog 16 #[.agg #[.bool wk, .string s]] w fun e w' => TagPr (wk, s) e ∧ Below w.heap.size w w' := by
  have b0 : Below w.heap.size w (w.alloc (.cells #[.bool wk, .string s] 30)) := (Below.refl _ _).alloc (Nat.le_refl _) _
  by_cases hz : 100 < s.size
  · have HN : Hid (¬ Tg.good (wk, s)) := fun h => by have := h.1; simp only at this; omega
    go_enter Tryd.func16, Tryd.ntmps16
    go_wp2_with fail
    go_ret2
    exact ⟨.inr ⟨HN.out, 2, by omega, by omega, rfl⟩, b0⟩
  · go_enter Tryd.func16, Tryd.ntmps16
    go_wp2_with fail
    go_loop [13] (fun i => ∃ k : Nat, k ≤ s.size ∧ i = .int .i64 k ∧ ((sl s).take k).all Tg.tagB = true) (fun i => s.size - (intOf i).toNat)
    case atStart => exact ⟨0, by omega, rfl, by simp⟩
    case round =>
      obtain ⟨k, hk, rfl, hall⟩ := hrel
      have HA := Lib.hid hall
      clear hall
      by_cases hlt : k < s.size
      · have HC := Lib.hid (sl_getElem? s k hlt)
        cases hq : Tg.tagB s[k]
        all_goals
          have HQ := Lib.hid hq
          have HI := Lib.hid (isTagByte_any s[k])
          rw [hq] at HI
          clear hq
          go_wp2_with fail
          refine (HI.out _).mono ?_
          rintro e w' ⟨rfl, rfl⟩
          go_wp2_with fail
        · go_ret2
          exact ⟨.inr ⟨(fun h => by have := h.2; rw [all_false HC.out HQ.out] at this; cases this), 3, by omega, by omega, rfl⟩, b0⟩
        · go_round
          case rel => exact ⟨k + 1, by omega, by go_num, all_take_succ HC.out HA.out HQ.out⟩
          case measure => simp [intOf]; omega
      · have HG : Hid (Tg.good (wk, s)) := ⟨by simp only; omega, by have := HA.out; rwa [List.take_of_length_le (by rw [sl_len]; omega)] at this⟩
        have z1 : ((⟨#[34]⟩ : ByteArray) ++ s).size ≤ 1000 := by rw [ByteArray.size_append]; have : (⟨#[34]⟩ : ByteArray).size = 1 := rfl; omega
        have e0 : ((⟨#[34]⟩ : ByteArray) ++ s ++ (⟨#[34]⟩ : ByteArray)) = mkS (Tg.text (false, s)) := sl_inj (by rw [sl_append, sl_append, sl_mkS]; rfl)
        have e1 : (⟨#[87, 47]⟩ : ByteArray) ++ ((⟨#[34]⟩ : ByteArray) ++ s ++ (⟨#[34]⟩ : ByteArray)) = mkS (Tg.text (true, s)) := sl_inj (by rw [sl_append, sl_append, sl_append, sl_mkS]; rfl)
        have E0 := Lib.hid e0
        have E1 := Lib.hid e1
        clear e0 e1
        cases wk
        · go_wp2_with fail
          go_ret2
          exact ⟨.inl ⟨HG.out, ret_si E0.out rfl⟩, b0⟩
        · go_wp2_with fail
          go_ret2
          exact ⟨.inl ⟨HG.out, ret_si E1.out rfl⟩, b0⟩
namespace Tg
theorem split_one {c : UInt8} : ∀ {a a' b b' : List UInt8}, a ++ c :: b = a' ++ c :: b' → c ∉ a → c ∉ a' → a = a' ∧ b = b'
  | [], [], b, b', h, _, _ => by simpa using h
  | [], x :: a', b, b', h, _, h2 => by
    simp only [List.nil_append, List.cons_append, List.cons.injEq] at h
    exact absurd h.1 (by intro e; apply h2; simp [e])
  | x :: a, [], b, b', h, h1, _ => by
    simp only [List.nil_append, List.cons_append, List.cons.injEq] at h
    exact absurd h.1 (by intro e; apply h1; simp [e])
  | x :: a, y :: a', b, b', h, h1, h2 => by
    simp only [List.cons_append, List.cons.injEq] at h
    obtain ⟨rfl, h⟩ := h
    obtain ⟨rfl, rfl⟩ := split_one h (fun e => h1 (by simp [e])) (fun e => h2 (by simp [e]))
    exact ⟨rfl, rfl⟩
theorem good_no {t : Tag} (h : good t) : (34 : UInt8) ∉ sl t.2 := by
  intro hm
  have := List.all_eq_true.1 h.2 34 hm
  rw [tagB_34] at this; cases this
/-- What a text that begins with a good tag comes to, cut by cut. -/
theorem cuts {l : List UInt8} {t : Tag} {r : List UInt8} (hg : good t) (h : l = text t ++ r) :
    (t.1 = true → ∃ s1, l = [87, 47] ++ s1 ∧ s1 = 34 :: (sl t.2 ++ 34 :: r)) ∧ (t.1 = false → (¬ [87, 47] <+: l) ∧ l = 34 :: (sl t.2 ++ 34 :: r)) := by
  constructor
  · intro h1
    exact ⟨_, by rw [h]; simp [text, h1], rfl⟩
  · intro h1
    have e : l = 34 :: (sl t.2 ++ 34 :: r) := by rw [h]; simp [text, h1]
    refine ⟨?_, e⟩
    rw [e]
    rintro ⟨x, hx⟩
    simp at hx
end Tg
def tagV (t : Tg.Tag) : Value := .agg #[.bool t.1, .string t.2]
/-- What first answers. -/
def TagFirst (s : ByteArray) (e : Ending) : Prop :=
  (∃ t r, Tg.good t ∧ sl s = Tg.text t ++ r ∧ e = .returned (.tuple #[tagV t, .string (mkS r), .bool true])) ∨
  ((∀ t r, Tg.good t → sl s ≠ Tg.text t ++ r) ∧ e = .returned (.tuple #[tagV (false, ByteArray.empty), .string ByteArray.empty, .bool false]))
set_option maxHeartbeats 3200000 in
theorem tagFirst_any (s : ByteArray) (w : World) (hs : s.size ≤ 140737488351232) :
    Calls Tryd.prog 59 #[.string s] w fun e w' => TagFirst s e ∧ Below w.heap.size w w' := by
  go_enter Tryd.func59, Tryd.ntmps59
  go_wp2_with fail
  refine (cutPrefix_any s ⟨#[87, 47]⟩ _).mono ?_
  rintro e w' ⟨hc1, rfl⟩
  obtain ⟨wk, s1, rfl, hs1⟩ : ∃ (wk : Bool) (s1 : ByteArray), e = .returned (.tuple #[.string s1, .bool wk]) ∧ ((wk = true ∧ sl s = [87, 47] ++ sl s1) ∨ (wk = false ∧ (¬ [87, 47] <+: sl s) ∧ s1 = s)) := by
    rcases hc1 with ⟨r, hr, rfl⟩ | ⟨hr, rfl⟩
    · exact ⟨true, mkS r, rfl, .inl ⟨rfl, by rw [sl_mkS]; exact hr⟩⟩
    · exact ⟨false, s, rfl, .inr ⟨rfl, hr, rfl⟩⟩
  have HS1 := Lib.hid hs1
  have hz1 : s1.size ≤ 140737488351232 := by
    rcases hs1 with ⟨_, h⟩ | ⟨_, _, rfl⟩
    · have := congrArg List.length h; rw [List.length_append, sl_len, sl_len] at this; omega
    · exact hs
  clear hs1 hc1
  go_wp2_with fail
  refine (cutPrefix_any s1 ⟨#[34]⟩ _).mono ?_
  rintro e w' ⟨hc2, rfl⟩
  obtain ⟨is, s2, rfl, hs2⟩ : ∃ (is : Bool) (s2 : ByteArray), e = .returned (.tuple #[.string s2, .bool is]) ∧ ((is = true ∧ sl s1 = 34 :: sl s2) ∨ (is = false ∧ (¬ [34] <+: sl s1) ∧ s2 = s1)) := by
    rcases hc2 with ⟨r, hr, rfl⟩ | ⟨hr, rfl⟩
    · exact ⟨true, mkS r, rfl, .inl ⟨rfl, by rw [sl_mkS]; exact hr⟩⟩
    · exact ⟨false, s1, rfl, .inr ⟨rfl, hr, rfl⟩⟩
  have HS2 := Lib.hid hs2
  have hz2 : s2.size ≤ 140737488351232 := by
    rcases hs2 with ⟨_, h⟩ | ⟨_, _, rfl⟩
    · have := congrArg List.length h; rw [List.length_cons, sl_len, sl_len] at this; omega
    · exact hz1
  clear hs2 hc2
  go_wp2_with fail
  refine (cut_one s2 34 _ hz2).mono ?_
  rintro e w1 ⟨hc3, b1⟩
  obtain ⟨a, b, ends, rfl, hs3⟩ : ∃ (a b : ByteArray) (ends : Bool), e = .returned (.tuple #[.string a, .string b, .bool ends]) ∧ ((ends = true ∧ sl s2 = sl a ++ 34 :: sl b ∧ (34 : UInt8) ∉ sl a) ∨ (ends = false ∧ (34 : UInt8) ∉ sl s2 ∧ a = s2)) := by
    rcases hc3 with ⟨a, b, h1, h2, rfl⟩ | ⟨h1, rfl⟩
    · exact ⟨mkS a, mkS b, true, rfl, .inl ⟨rfl, by rw [sl_mkS, sl_mkS]; exact h1, by rw [sl_mkS]; exact h2⟩⟩
    · exact ⟨s2, ByteArray.empty, false, rfl, .inr ⟨rfl, h1, rfl⟩⟩
  have HS3 := Lib.hid hs3
  have hz3 : a.size ≤ 140737488351232 := by
    rcases hs3 with ⟨_, h, _⟩ | ⟨_, _, rfl⟩
    · have := congrArg List.length h; rw [List.length_append, List.length_cons, sl_len, sl_len, sl_len] at this; omega
    · exact hz2
  clear hs3 hc3
  have b01 : Below w.heap.size w w1 := (((Below.refl _ _).alloc (Nat.le_refl _) _).alloc (by simp) _).trans (b1.mono (by simp; omega))
  have c00 : w1.cell? ⟨w.heap.size, 0, none⟩ = some (.bool false) := (b1.cell (by simp; try omega)).trans (by go_simp)
  have c01 : w1.cell? ⟨w.heap.size, 1, none⟩ = some (.string ByteArray.empty) := (b1.cell (by simp; try omega)).trans (by go_simp; rfl)
  have c10 : w1.cell? ⟨w.heap.size + 1, 0, none⟩ = some (.bool wk) := (b1.cell (by simp)).trans (by go_simp)
  have c11 : w1.cell? ⟨w.heap.size + 1, 1, none⟩ = some (.string ByteArray.empty) := (b1.cell (by simp)).trans (by go_simp; rfl)
  have f00 : w1.frozen? ⟨w.heap.size, 0, none⟩ = false := (b1.frozen (by simp; try omega)).trans (by go_simp)
  have f01 : w1.frozen? ⟨w.heap.size, 1, none⟩ = false := (b1.frozen (by simp; try omega)).trans (by go_simp)
  have f11 : w1.frozen? ⟨w.heap.size + 1, 1, none⟩ = false := (b1.frozen (by simp)).trans (by go_simp)
  have hz : w.heap.size + 1 < w1.heap.size := by have := b1.size; simp at this; omega
  clear b1
  go_wp2_with fail
  refine (tagPrint_any wk a _ (by omega)).mono ?_
  rintro e w2 ⟨hpr, b2⟩
  have b02 : Below w.heap.size w w2 := (b01.setCell (p := ⟨w.heap.size + 1, 1, none⟩) (by simp) _).trans (b2.mono (by simp; omega))
  have d00 : w2.cell? ⟨w.heap.size, 0, none⟩ = some (.bool false) := (b2.cell (by simp; omega)).trans (by go_simp)
  have d01 : w2.cell? ⟨w.heap.size, 1, none⟩ = some (.string ByteArray.empty) := (b2.cell (by simp; omega)).trans (by go_simp)
  have d10 : w2.cell? ⟨w.heap.size + 1, 0, none⟩ = some (.bool wk) := (b2.cell (by simp; omega)).trans (by go_simp)
  have d11 : w2.cell? ⟨w.heap.size + 1, 1, none⟩ = some (.string a) := (b2.cell (by simp; omega)).trans (by go_simp)
  have g00 : w2.frozen? ⟨w.heap.size, 0, none⟩ = false := (b2.frozen (by simp; omega)).trans (by go_simp)
  have g01 : w2.frozen? ⟨w.heap.size, 1, none⟩ = false := (b2.frozen (by simp; omega)).trans (by go_simp)
  clear c00 c01 c10 c11 f00 f01 f11 b2 b01
  have HNO : Hid ((is = false ∨ ends = false ∨ ¬ Tg.good (wk, a)) → ∀ t r, Tg.good t → sl s ≠ Tg.text t ++ r) := by
    intro hbad t r hg h
    obtain ⟨q1, q2⟩ := Tg.cuts hg h
    have hs1 : sl s1 = 34 :: (sl t.2 ++ 34 :: r) ∧ wk = t.1 := by
      cases ht : t.1
      · obtain ⟨q3, q4⟩ := q2 ht
        rcases HS1.out with ⟨_, h2⟩ | ⟨h1, _, rfl⟩
        · exact absurd ⟨_, h2.symm⟩ q3
        · exact ⟨q4, h1⟩
      · obtain ⟨x, q3, q4⟩ := q1 ht
        rcases HS1.out with ⟨h1, h2⟩ | ⟨_, h2, _⟩
        · rw [h2] at q3
          have := List.append_cancel_left q3
          rw [this]; exact ⟨q4, h1⟩
        · exact absurd ⟨_, q3.symm⟩ h2
    obtain ⟨hs1, hwk⟩ := hs1
    have hs2 : sl s2 = sl t.2 ++ 34 :: r ∧ is = true := by
      rcases HS2.out with ⟨h1, h2⟩ | ⟨_, h2, _⟩
      · rw [h2] at hs1; injection hs1 with _ hs1; exact ⟨hs1, h1⟩
      · exact absurd ⟨_, hs1.symm⟩ h2
    obtain ⟨hs2, his⟩ := hs2
    have hs3 : sl a = sl t.2 ∧ ends = true := by
      rcases HS3.out with ⟨h1, h2, h3⟩ | ⟨_, h2, _⟩
      · rw [h2] at hs2; exact ⟨(Tg.split_one hs2 h3 (Tg.good_no hg)).1, h1⟩
      · rw [hs2] at h2; exact absurd (by simp) h2
    obtain ⟨hs3, hends⟩ := hs3
    have hta : (wk, a) = t := by rw [hwk, sl_inj hs3]
    rw [his, hends, hta] at hbad
    rcases hbad with h | h | h
    · cases h
    · cases h
    · exact h hg
  rcases hpr with ⟨hg, rfl⟩ | ⟨hg, c, hc1, hc2, rfl⟩
  · have HG := Lib.hid hg
    clear hg
    cases is
    · have HN := Lib.hid (HNO.out (.inl rfl))
      clear HNO
      go_wp2_with fail
      refine bodyPost_ret (v := .tuple #[tagV (false, ByteArray.empty), .string ByteArray.empty, .bool false]) (by simp [results, Tryd.results59, go_sem, tagV, d00, d01]; rfl) rfl ⟨.inr ⟨HN.out, rfl⟩, (b02.setCell (p := ⟨w.heap.size, 0, none⟩) (Nat.le_refl _) _).setCell (p := ⟨w.heap.size, 1, none⟩) (Nat.le_refl _) _⟩
    · cases ends
      · have HN := Lib.hid (HNO.out (.inr (.inl rfl)))
        clear HNO
        go_wp2_with fail
        refine bodyPost_ret (v := .tuple #[tagV (false, ByteArray.empty), .string ByteArray.empty, .bool false]) (by simp [results, Tryd.results59, go_sem, tagV, d00, d01]; rfl) rfl ⟨.inr ⟨HN.out, rfl⟩, (b02.setCell (p := ⟨w.heap.size, 0, none⟩) (Nat.le_refl _) _).setCell (p := ⟨w.heap.size, 1, none⟩) (Nat.le_refl _) _⟩
      · have hY : Hid (sl s = Tg.text (wk, a) ++ sl b) := by
          show _ = _
          have h3 : sl s2 = sl a ++ 34 :: sl b := HS3.out.elim (fun h => h.2.1) (fun h => by cases h.1)
          have h2 : sl s1 = 34 :: sl s2 := HS2.out.elim (fun h => h.2) (fun h => by cases h.1)
          rcases HS1.out with ⟨rfl, h1⟩ | ⟨rfl, _, rfl⟩
          · rw [h1, h2, h3]; simp [Tg.text]
          · rw [h2, h3]; simp [Tg.text]
        clear HNO
        go_wp2_with fail
        refine bodyPost_ret (v := .tuple #[tagV (wk, a), .string (mkS (sl b)), .bool true]) (by simp [results, Tryd.results59, go_sem, tagV, d00, d01, mkS_sl]) rfl ⟨.inl ⟨(wk, a), sl b, HG.out, hY.out, rfl⟩, (b02.setCell (p := ⟨w.heap.size, 0, none⟩) (Nat.le_refl _) _).setCell (p := ⟨w.heap.size, 1, none⟩) (Nat.le_refl _) _⟩
  · have HN := Lib.hid (HNO.out (.inr (.inr hg)))
    have hcn : (c != 0) = true := by rw [bne_iff_ne]; omega
    clear hg HNO
    cases is
    · go_wp2_with fail
      refine bodyPost_ret (v := .tuple #[tagV (false, ByteArray.empty), .string ByteArray.empty, .bool false]) (by simp [results, Tryd.results59, go_sem, tagV, d00, d01]; rfl) rfl ⟨.inr ⟨HN.out, rfl⟩, (b02.setCell (p := ⟨w.heap.size, 0, none⟩) (Nat.le_refl _) _).setCell (p := ⟨w.heap.size, 1, none⟩) (Nat.le_refl _) _⟩
    · cases ends
      · go_wp2_with fail
        refine bodyPost_ret (v := .tuple #[tagV (false, ByteArray.empty), .string ByteArray.empty, .bool false]) (by simp [results, Tryd.results59, go_sem, tagV, d00, d01]; rfl) rfl ⟨.inr ⟨HN.out, rfl⟩, (b02.setCell (p := ⟨w.heap.size, 0, none⟩) (Nat.le_refl _) _).setCell (p := ⟨w.heap.size, 1, none⟩) (Nat.le_refl _) _⟩
      · go_wp2_with fail
        refine bodyPost_ret (v := .tuple #[tagV (false, ByteArray.empty), .string ByteArray.empty, .bool false]) (by simp [results, Tryd.results59, go_sem, tagV, d00, d01]; rfl) rfl ⟨.inr ⟨HN.out, rfl⟩, (b02.setCell (p := ⟨w.heap.size, 0, none⟩) (Nat.le_refl _) _).setCell (p := ⟨w.heap.size, 1, none⟩) (Nat.le_refl _) _⟩
end Go.Proofs.YtiijgbgknolmcaaDoor
