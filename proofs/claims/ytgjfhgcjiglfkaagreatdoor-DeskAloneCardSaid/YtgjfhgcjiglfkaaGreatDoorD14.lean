import Derived.Test.YtgjfhgcjiglfkaaGreatDoorD13
import Derived.Laws.StructEq
import Derived.Test.YtgjfhgcjiglfkaaGreatDoorD10
import Derived.Test.YtgjfhgcjiglfkaaGreatDoorD3
import Derived.Lib.ItoaMem
import Derived.Lib.ItoaNum
import Std
import Derived.Test.YtgjfhgcjiglfkaaGreatDoorChecked
import Derived.Test.YtgjfhgcjiglfkaaGreatDoorD0
import Derived.Laws.BitsAllLaws
set_option linter.unusedVariables false
set_option linter.unusedSimpArgs false
namespace Go.Proofs.YtgjfhgcjiglfkaaGreatDoor
open Go.RowKit
namespace Tg
def tagB (c : UInt8) : Bool := c == 33 || (35 ≤ c && c ≤ 126)
abbrev Tag := Bool × ByteArray
def good (t : Tag) : Prop := t.2.size ≤ 100 ∧ (sl t.2).all tagB = true
instance (t : Tag) : Decidable (good t) := inferInstanceAs (Decidable (_ ∧ _))
def text (t : Tag) : List UInt8 := (if t.1 then [87, 47] else []) ++ (34 :: (sl t.2 ++ [34]))
theorem tagB_34 : tagB 34 = false := by decide
def weak (l : List UInt8) : Bool × List UInt8 := if [87, 47] <+: l then (true, l.drop 2) else (false, l)
def first (l : List UInt8) : Option (Tag × List UInt8) :=
  match (weak l).2 with
  | 34 :: r => match r.span (· != 34) with
    | (a, _ :: b) => if good ((weak l).1, mkS a) then some (((weak l).1, mkS a), b) else none
    | _ => none
  | _ => none
end Tg
theorem tagB_iff (c : UInt8) : Tg.tagB c = true ↔ (c.toNat : Int) = 33 ∨ (35 ≤ (c.toNat : Int) ∧ (c.toNat : Int) ≤ 126) := by
  simp [Tg.tagB, u8_le, u8_eq]
theorem isTagByte_any (c : UInt8) (w : World) :
    Calls Tryz.prog 199 #[.int .u8 c.toNat] w fun e w' => e = .returned (.bool (Tg.tagB c)) ∧ w = w' := by
  have H := Lib.hid (tagB_iff c)
  have hb := c.toNat_lt
  generalize Tg.tagB c = q at *
  generalize c.toNat = n at *
  go_enter Tryz.func199, Tryz.ntmps199
  go_wp2
  all_goals
    go_ret
    exact ⟨ret_bool (by rw [Bool.eq_iff_iff, H.out]; simp; try omega), rfl⟩
def TagPr (t : Tg.Tag) (e : Ending) : Prop :=
  (Tg.good t ∧ e = .returned (.tuple #[.string (mkS (Tg.text t)), .int .i64 0])) ∨ (¬ Tg.good t ∧ ∃ c : Int, 2 ≤ c ∧ c ≤ 3 ∧ e = .returned (.tuple #[.string ByteArray.empty, .int .i64 c]))
set_option maxHeartbeats 1600000 in
theorem tagPrint_any (wk : Bool) (s : ByteArray) (w : World) (hs : s.size ≤ 9223372036854775807) :
    Calls Tryz.prog 140 #[.agg #[.bool wk, .string s]] w fun e w' => TagPr (wk, s) e ∧ Below w.heap.size w w' := by
  have b0 : Below w.heap.size w (w.alloc (.cells #[.bool wk, .string s] 209)) := (Below.refl _ _).alloc (Nat.le_refl _) _
  by_cases hz : 100 < s.size
  · have HN : Hid (¬ Tg.good (wk, s)) := fun h => by have := h.1; simp only at this; omega
    go_enter Tryz.func140, Tryz.ntmps140
    go_wp2_with fail
    go_ret2
    exact ⟨.inr ⟨HN.out, 2, by omega, by omega, rfl⟩, b0⟩
  · go_enter Tryz.func140, Tryz.ntmps140
    go_wp2_with fail
    go_loop [13] (fun i => ∃ k : Nat, k ≤ s.size ∧ i = .int .i64 k ∧ ((sl s).take k).all Tg.tagB = true) (fun i => s.size - (intOf i).toNat)
    case atStart => exact ⟨0, by omega, rfl, by simp⟩
    case round =>
      obtain ⟨k, hk, rfl, hall⟩ := hrel
      have HA := Lib.hid hall
      clear hall
      by_cases hlt : k < s.size
      · have HC := Lib.hid (sl_getElem? s k hlt)
        cases hq : Tg.tagB s[k]
        all_goals
          have HQ := Lib.hid hq
          have HI := Lib.hid (isTagByte_any s[k])
          rw [hq] at HI
          clear hq
          go_wp2_with fail
          refine (HI.out _).mono ?_
          rintro e w' ⟨rfl, rfl⟩
          go_wp2_with fail
        · go_ret2
          exact ⟨.inr ⟨(fun h => by have := h.2; rw [all_false HC.out HQ.out] at this; cases this), 3, by omega, by omega, rfl⟩, b0⟩
        · go_round
          case rel => exact ⟨k + 1, by omega, by go_num, all_take_succ HC.out HA.out HQ.out⟩
          case measure => simp [intOf]; omega
      · have HG : Hid (Tg.good (wk, s)) := ⟨by simp only; omega, by have := HA.out; rwa [List.take_of_length_le (by rw [sl_len]; omega)] at this⟩
        have z1 : ((⟨#[34]⟩ : ByteArray) ++ s).size ≤ 1000 := by rw [ByteArray.size_append]; have : (⟨#[34]⟩ : ByteArray).size = 1 := rfl; omega
        have e0 : ((⟨#[34]⟩ : ByteArray) ++ s ++ (⟨#[34]⟩ : ByteArray)) = mkS (Tg.text (false, s)) := sl_inj (by rw [sl_append, sl_append, sl_mkS]; rfl)
        have e1 : (⟨#[87, 47]⟩ : ByteArray) ++ ((⟨#[34]⟩ : ByteArray) ++ s ++ (⟨#[34]⟩ : ByteArray)) = mkS (Tg.text (true, s)) := sl_inj (by rw [sl_append, sl_append, sl_append, sl_mkS]; rfl)
        have E0 := Lib.hid e0
        have E1 := Lib.hid e1
        clear e0 e1
        cases wk
        · go_wp2_with fail
          go_ret2
          exact ⟨.inl ⟨HG.out, ret_si E0.out rfl⟩, b0⟩
        · go_wp2_with fail
          go_ret2
          exact ⟨.inl ⟨HG.out, ret_si E1.out rfl⟩, b0⟩
namespace Tg
theorem split_one {c : UInt8} : ∀ {a a' b b' : List UInt8}, a ++ c :: b = a' ++ c :: b' → c ∉ a → c ∉ a' → a = a' ∧ b = b'
  | [], [], b, b', h, _, _ => by simpa using h
  | [], x :: a', b, b', h, _, h2 => by
    simp only [List.nil_append, List.cons_append, List.cons.injEq] at h
    exact absurd h.1 (by intro e; apply h2; simp [e])
  | x :: a, [], b, b', h, h1, _ => by
    simp only [List.nil_append, List.cons_append, List.cons.injEq] at h
    exact absurd h.1 (by intro e; apply h1; simp [e])
  | x :: a, y :: a', b, b', h, h1, h2 => by
    simp only [List.cons_append, List.cons.injEq] at h
    obtain ⟨rfl, h⟩ := h
    obtain ⟨rfl, rfl⟩ := split_one h (fun e => h1 (by simp [e])) (fun e => h2 (by simp [e]))
    exact ⟨rfl, rfl⟩
theorem good_no {t : Tag} (h : good t) : (34 : UInt8) ∉ sl t.2 := by
  intro hm
  have := List.all_eq_true.1 h.2 34 hm
  rw [tagB_34] at this; cases this
theorem cuts {l : List UInt8} {t : Tag} {r : List UInt8} (hg : good t) (h : l = text t ++ r) :
    (t.1 = true → ∃ s1, l = [87, 47] ++ s1 ∧ s1 = 34 :: (sl t.2 ++ 34 :: r)) ∧ (t.1 = false → (¬ [87, 47] <+: l) ∧ l = 34 :: (sl t.2 ++ 34 :: r)) := by
  constructor
  · intro h1
    exact ⟨_, by rw [h]; simp [text, h1], rfl⟩
  · intro h1
    have e : l = 34 :: (sl t.2 ++ 34 :: r) := by rw [h]; simp [text, h1]
    refine ⟨?_, e⟩
    rw [e]
    rintro ⟨x, hx⟩
    simp at hx
end Tg
def tagV (t : Tg.Tag) : Value := .agg #[.bool t.1, .string t.2]
def TagFirst (s : ByteArray) (e : Ending) : Prop :=
  (∃ t r, Tg.good t ∧ sl s = Tg.text t ++ r ∧ e = .returned (.tuple #[tagV t, .string (mkS r), .bool true])) ∨
  ((∀ t r, Tg.good t → sl s ≠ Tg.text t ++ r) ∧ e = .returned (.tuple #[tagV (false, ByteArray.empty), .string ByteArray.empty, .bool false]))
set_option maxHeartbeats 3200000 in
theorem tagFirst_any (s : ByteArray) (w : World) (hs : s.size ≤ 140737488351232) :
    Calls Tryz.prog 198 #[.string s] w fun e w' => TagFirst s e ∧ Below w.heap.size w w' := by
  go_enter Tryz.func198, Tryz.ntmps198
  go_wp2_with fail
  refine (cutPrefix_any s ⟨#[87, 47]⟩ _).mono ?_
  rintro e w' ⟨hc1, rfl⟩
  obtain ⟨wk, s1, rfl, hs1⟩ : ∃ (wk : Bool) (s1 : ByteArray), e = .returned (.tuple #[.string s1, .bool wk]) ∧ ((wk = true ∧ sl s = [87, 47] ++ sl s1) ∨ (wk = false ∧ (¬ [87, 47] <+: sl s) ∧ s1 = s)) := by
    rcases hc1 with ⟨r, hr, rfl⟩ | ⟨hr, rfl⟩
    · exact ⟨true, mkS r, rfl, .inl ⟨rfl, by rw [sl_mkS]; exact hr⟩⟩
    · exact ⟨false, s, rfl, .inr ⟨rfl, hr, rfl⟩⟩
  have HS1 := Lib.hid hs1
  have hz1 : s1.size ≤ 140737488351232 := by
    rcases hs1 with ⟨_, h⟩ | ⟨_, _, rfl⟩
    · have := congrArg List.length h; rw [List.length_append, sl_len, sl_len] at this; omega
    · exact hs
  clear hs1 hc1
  go_wp2_with fail
  refine (cutPrefix_any s1 ⟨#[34]⟩ _).mono ?_
  rintro e w' ⟨hc2, rfl⟩
  obtain ⟨is, s2, rfl, hs2⟩ : ∃ (is : Bool) (s2 : ByteArray), e = .returned (.tuple #[.string s2, .bool is]) ∧ ((is = true ∧ sl s1 = 34 :: sl s2) ∨ (is = false ∧ (¬ [34] <+: sl s1) ∧ s2 = s1)) := by
    rcases hc2 with ⟨r, hr, rfl⟩ | ⟨hr, rfl⟩
    · exact ⟨true, mkS r, rfl, .inl ⟨rfl, by rw [sl_mkS]; exact hr⟩⟩
    · exact ⟨false, s1, rfl, .inr ⟨rfl, hr, rfl⟩⟩
  have HS2 := Lib.hid hs2
  have hz2 : s2.size ≤ 140737488351232 := by
    rcases hs2 with ⟨_, h⟩ | ⟨_, _, rfl⟩
    · have := congrArg List.length h; rw [List.length_cons, sl_len, sl_len] at this; omega
    · exact hz1
  clear hs2 hc2
  go_wp2_with fail
  refine (cut_one s2 34 _ hz2).mono ?_
  rintro e w1 ⟨hc3, b1⟩
  obtain ⟨a, b, ends, rfl, hs3⟩ : ∃ (a b : ByteArray) (ends : Bool), e = .returned (.tuple #[.string a, .string b, .bool ends]) ∧ ((ends = true ∧ sl s2 = sl a ++ 34 :: sl b ∧ (34 : UInt8) ∉ sl a) ∨ (ends = false ∧ (34 : UInt8) ∉ sl s2 ∧ a = s2)) := by
    rcases hc3 with ⟨a, b, h1, h2, rfl⟩ | ⟨h1, rfl⟩
    · exact ⟨mkS a, mkS b, true, rfl, .inl ⟨rfl, by rw [sl_mkS, sl_mkS]; exact h1, by rw [sl_mkS]; exact h2⟩⟩
    · exact ⟨s2, ByteArray.empty, false, rfl, .inr ⟨rfl, h1, rfl⟩⟩
  have HS3 := Lib.hid hs3
  have hz3 : a.size ≤ 140737488351232 := by
    rcases hs3 with ⟨_, h, _⟩ | ⟨_, _, rfl⟩
    · have := congrArg List.length h; rw [List.length_append, List.length_cons, sl_len, sl_len, sl_len] at this; omega
    · exact hz2
  clear hs3 hc3
  have b01 : Below w.heap.size w w1 := (((Below.refl _ _).alloc (Nat.le_refl _) _).alloc (by simp) _).trans (b1.mono (by simp; omega))
  have c00 : w1.cell? ⟨w.heap.size, 0, none⟩ = some (.bool false) := (b1.cell (by simp; try omega)).trans (by go_simp)
  have c01 : w1.cell? ⟨w.heap.size, 1, none⟩ = some (.string ByteArray.empty) := (b1.cell (by simp; try omega)).trans (by go_simp; rfl)
  have c10 : w1.cell? ⟨w.heap.size + 1, 0, none⟩ = some (.bool wk) := (b1.cell (by simp)).trans (by go_simp)
  have c11 : w1.cell? ⟨w.heap.size + 1, 1, none⟩ = some (.string ByteArray.empty) := (b1.cell (by simp)).trans (by go_simp; rfl)
  have f00 : w1.frozen? ⟨w.heap.size, 0, none⟩ = false := (b1.frozen (by simp; try omega)).trans (by go_simp)
  have f01 : w1.frozen? ⟨w.heap.size, 1, none⟩ = false := (b1.frozen (by simp; try omega)).trans (by go_simp)
  have f11 : w1.frozen? ⟨w.heap.size + 1, 1, none⟩ = false := (b1.frozen (by simp)).trans (by go_simp)
  have hz : w.heap.size + 1 < w1.heap.size := by have := b1.size; simp at this; omega
  clear b1
  go_wp2_with fail
  refine (tagPrint_any wk a _ (by omega)).mono ?_
  rintro e w2 ⟨hpr, b2⟩
  have b02 : Below w.heap.size w w2 := (b01.setCell (p := ⟨w.heap.size + 1, 1, none⟩) (by simp) _).trans (b2.mono (by simp; omega))
  have d00 : w2.cell? ⟨w.heap.size, 0, none⟩ = some (.bool false) := (b2.cell (by simp; omega)).trans (by go_simp)
  have d01 : w2.cell? ⟨w.heap.size, 1, none⟩ = some (.string ByteArray.empty) := (b2.cell (by simp; omega)).trans (by go_simp)
  have d10 : w2.cell? ⟨w.heap.size + 1, 0, none⟩ = some (.bool wk) := (b2.cell (by simp; omega)).trans (by go_simp)
  have d11 : w2.cell? ⟨w.heap.size + 1, 1, none⟩ = some (.string a) := (b2.cell (by simp; omega)).trans (by go_simp)
  have g00 : w2.frozen? ⟨w.heap.size, 0, none⟩ = false := (b2.frozen (by simp; omega)).trans (by go_simp)
  have g01 : w2.frozen? ⟨w.heap.size, 1, none⟩ = false := (b2.frozen (by simp; omega)).trans (by go_simp)
  clear c00 c01 c10 c11 f00 f01 f11 b2 b01
  have HNO : Hid ((is = false ∨ ends = false ∨ ¬ Tg.good (wk, a)) → ∀ t r, Tg.good t → sl s ≠ Tg.text t ++ r) := by
    intro hbad t r hg h
    obtain ⟨q1, q2⟩ := Tg.cuts hg h
    have hs1 : sl s1 = 34 :: (sl t.2 ++ 34 :: r) ∧ wk = t.1 := by
      cases ht : t.1
      · obtain ⟨q3, q4⟩ := q2 ht
        rcases HS1.out with ⟨_, h2⟩ | ⟨h1, _, rfl⟩
        · exact absurd ⟨_, h2.symm⟩ q3
        · exact ⟨q4, h1⟩
      · obtain ⟨x, q3, q4⟩ := q1 ht
        rcases HS1.out with ⟨h1, h2⟩ | ⟨_, h2, _⟩
        · rw [h2] at q3
          have := List.append_cancel_left q3
          rw [this]; exact ⟨q4, h1⟩
        · exact absurd ⟨_, q3.symm⟩ h2
    obtain ⟨hs1, hwk⟩ := hs1
    have hs2 : sl s2 = sl t.2 ++ 34 :: r ∧ is = true := by
      rcases HS2.out with ⟨h1, h2⟩ | ⟨_, h2, _⟩
      · rw [h2] at hs1; injection hs1 with _ hs1; exact ⟨hs1, h1⟩
      · exact absurd ⟨_, hs1.symm⟩ h2
    obtain ⟨hs2, his⟩ := hs2
    have hs3 : sl a = sl t.2 ∧ ends = true := by
      rcases HS3.out with ⟨h1, h2, h3⟩ | ⟨_, h2, _⟩
      · rw [h2] at hs2; exact ⟨(Tg.split_one hs2 h3 (Tg.good_no hg)).1, h1⟩
      · rw [hs2] at h2; exact absurd (by simp) h2
    obtain ⟨hs3, hends⟩ := hs3
    have hta : (wk, a) = t := by rw [hwk, sl_inj hs3]
    rw [his, hends, hta] at hbad
    rcases hbad with h | h | h
    · cases h
    · cases h
    · exact h hg
  rcases hpr with ⟨hg, rfl⟩ | ⟨hg, c, hc1, hc2, rfl⟩
  · have HG := Lib.hid hg
    clear hg
    cases is
    · have HN := Lib.hid (HNO.out (.inl rfl))
      clear HNO
      go_wp2_with fail
      refine bodyPost_ret (v := .tuple #[tagV (false, ByteArray.empty), .string ByteArray.empty, .bool false]) (by simp [results, Tryz.results198, go_sem, tagV, d00, d01]; rfl) rfl ⟨.inr ⟨HN.out, rfl⟩, (b02.setCell (p := ⟨w.heap.size, 0, none⟩) (Nat.le_refl _) _).setCell (p := ⟨w.heap.size, 1, none⟩) (Nat.le_refl _) _⟩
    · cases ends
      · have HN := Lib.hid (HNO.out (.inr (.inl rfl)))
        clear HNO
        go_wp2_with fail
        refine bodyPost_ret (v := .tuple #[tagV (false, ByteArray.empty), .string ByteArray.empty, .bool false]) (by simp [results, Tryz.results198, go_sem, tagV, d00, d01]; rfl) rfl ⟨.inr ⟨HN.out, rfl⟩, (b02.setCell (p := ⟨w.heap.size, 0, none⟩) (Nat.le_refl _) _).setCell (p := ⟨w.heap.size, 1, none⟩) (Nat.le_refl _) _⟩
      · have hY : Hid (sl s = Tg.text (wk, a) ++ sl b) := by
          show _ = _
          have h3 : sl s2 = sl a ++ 34 :: sl b := HS3.out.elim (fun h => h.2.1) (fun h => by cases h.1)
          have h2 : sl s1 = 34 :: sl s2 := HS2.out.elim (fun h => h.2) (fun h => by cases h.1)
          rcases HS1.out with ⟨rfl, h1⟩ | ⟨rfl, _, rfl⟩
          · rw [h1, h2, h3]; simp [Tg.text]
          · rw [h2, h3]; simp [Tg.text]
        clear HNO
        go_wp2_with fail
        refine bodyPost_ret (v := .tuple #[tagV (wk, a), .string (mkS (sl b)), .bool true]) (by simp [results, Tryz.results198, go_sem, tagV, d00, d01, mkS_sl]) rfl ⟨.inl ⟨(wk, a), sl b, HG.out, hY.out, rfl⟩, (b02.setCell (p := ⟨w.heap.size, 0, none⟩) (Nat.le_refl _) _).setCell (p := ⟨w.heap.size, 1, none⟩) (Nat.le_refl _) _⟩
  · have HN := Lib.hid (HNO.out (.inr (.inr hg)))
    have hcn : (c != 0) = true := by rw [bne_iff_ne]; omega
    clear hg HNO
    cases is
    · go_wp2_with fail
      refine bodyPost_ret (v := .tuple #[tagV (false, ByteArray.empty), .string ByteArray.empty, .bool false]) (by simp [results, Tryz.results198, go_sem, tagV, d00, d01]; rfl) rfl ⟨.inr ⟨HN.out, rfl⟩, (b02.setCell (p := ⟨w.heap.size, 0, none⟩) (Nat.le_refl _) _).setCell (p := ⟨w.heap.size, 1, none⟩) (Nat.le_refl _) _⟩
    · cases ends
      · go_wp2_with fail
        refine bodyPost_ret (v := .tuple #[tagV (false, ByteArray.empty), .string ByteArray.empty, .bool false]) (by simp [results, Tryz.results198, go_sem, tagV, d00, d01]; rfl) rfl ⟨.inr ⟨HN.out, rfl⟩, (b02.setCell (p := ⟨w.heap.size, 0, none⟩) (Nat.le_refl _) _).setCell (p := ⟨w.heap.size, 1, none⟩) (Nat.le_refl _) _⟩
      · go_wp2_with fail
        refine bodyPost_ret (v := .tuple #[tagV (false, ByteArray.empty), .string ByteArray.empty, .bool false]) (by simp [results, Tryz.results198, go_sem, tagV, d00, d01]; rfl) rfl ⟨.inr ⟨HN.out, rfl⟩, (b02.setCell (p := ⟨w.heap.size, 0, none⟩) (Nat.le_refl _) _).setCell (p := ⟨w.heap.size, 1, none⟩) (Nat.le_refl _) _⟩
namespace Tg
theorem text_unique {t t' : Tag} {r r' : List UInt8} (hg : good t) (hg' : good t') (h : text t ++ r = text t' ++ r') : t = t' ∧ r = r' := by
  obtain ⟨wk, a⟩ := t
  obtain ⟨wk', a'⟩ := t'
  have key : sl a ++ 34 :: r = sl a' ++ 34 :: r' → (wk, a) = (wk, a') ∧ r = r' := fun h => by
    obtain ⟨h1, h2⟩ := split_one h (good_no hg) (good_no hg')
    rw [sl_inj h1]; exact ⟨rfl, h2⟩
  cases wk <;> cases wk' <;> simp [text] at h
  · exact key h
  · exact key h
end Tg
def TagParse (s : ByteArray) (e : Ending) : Prop :=
  (∃ t, Tg.good t ∧ sl s = Tg.text t ∧ e = .returned (.tuple #[tagV t, .int .i64 0])) ∨
  ((∀ t, Tg.good t → sl s ≠ Tg.text t) ∧ e = .returned (.tuple #[tagV (false, ByteArray.empty), .int .i64 3]))
set_option maxHeartbeats 1600000 in
theorem tagParse_any (s : ByteArray) (w : World) (hs : s.size ≤ 140737488351232) :
    Calls Tryz.prog 139 #[.string s] w fun e w' => TagParse s e ∧ Below w.heap.size w w' := by
  go_enter Tryz.func139, Tryz.ntmps139
  go_wp2_with fail
  refine (tagFirst_any s _ hs).mono ?_
  rintro e w1 ⟨hf, b1⟩
  have b01 : Below w.heap.size w w1 := ((Below.refl _ _).alloc (Nat.le_refl _) _).trans (b1.mono (by simp))
  have c00 : w1.cell? ⟨w.heap.size, 0, none⟩ = some (.bool false) := (b1.cell (by simp)).trans (by go_simp)
  have c01 : w1.cell? ⟨w.heap.size, 1, none⟩ = some (.string ByteArray.empty) := (b1.cell (by simp)).trans (by go_simp; rfl)
  have f00 : w1.frozen? ⟨w.heap.size, 0, none⟩ = false := (b1.frozen (by simp)).trans (by go_simp)
  have f01 : w1.frozen? ⟨w.heap.size, 1, none⟩ = false := (b1.frozen (by simp)).trans (by go_simp)
  have hz : w.heap.size < w1.heap.size := by have := b1.size; simp at this; omega
  have hne : w.heap.size ≠ w1.heap.size := by omega
  have hne' : w1.heap.size ≠ w.heap.size := by omega
  clear b1
  rcases hf with ⟨t, r, hg, hr, rfl⟩ | ⟨hno, rfl⟩
  · have HG := Lib.hid hg
    have HR := Lib.hid hr
    clear hg hr
    unfold tagV
    cases r with
    | nil =>
      have te : (!(mkS []).toList.isEmpty) = false := by rw [ba_toList]; rfl
      have te2 : (mkS []).toList = [] := by rw [ba_toList]; rfl
      go_wp2_with fail
      refine bodyPost_ret (v := .tuple #[tagV t, .int .i64 0]) (by simp [results, Tryz.results139, go_sem, tagV, c00, c01, hz, hne, hne']) rfl ⟨.inl ⟨t, HG.out, by rw [HR.out, List.append_nil], rfl⟩, ((b01.setCell (p := ⟨w.heap.size, 0, none⟩) (Nat.le_refl _) _).setCell (p := ⟨w.heap.size, 1, none⟩) (Nat.le_refl _) _).alloc (by simp; omega) _⟩
    | cons x r =>
      have te : (!(mkS (x :: r)).toList.isEmpty) = true := by rw [ba_toList]; rfl
      have te2 : (mkS (x :: r)).toList.isEmpty = false := by rw [ba_toList]; rfl
      have HN : Hid (∀ t, Tg.good t → sl s ≠ Tg.text t) := fun t' hg' h => by
        rw [HR.out, ← List.append_nil (Tg.text t')] at h
        have := (Tg.text_unique HG.out hg' h).2
        cases this
      go_wp2_with fail
      refine bodyPost_ret (v := .tuple #[tagV (false, ByteArray.empty), .int .i64 3]) (by simp [results, Tryz.results139, go_sem, tagV, c00, c01, hz, hne, hne']; rfl) rfl ⟨.inr ⟨HN.out, rfl⟩, ((b01.setCell (p := ⟨w.heap.size, 0, none⟩) (Nat.le_refl _) _).setCell (p := ⟨w.heap.size, 1, none⟩) (Nat.le_refl _) _).alloc (by simp; omega) _⟩
  · have HN : Hid (∀ t, Tg.good t → sl s ≠ Tg.text t) := fun t' hg' h => hno t' [] hg' (by rw [h, List.append_nil])
    clear hno
    unfold tagV
    go_wp2_with fail
    refine bodyPost_ret (v := .tuple #[tagV (false, ByteArray.empty), .int .i64 3]) (by simp [results, Tryz.results139, go_sem, tagV, c00, c01, hz, hne, hne']; rfl) rfl ⟨.inr ⟨HN.out, rfl⟩, ((b01.setCell (p := ⟨w.heap.size, 0, none⟩) (Nat.le_refl _) _).setCell (p := ⟨w.heap.size, 1, none⟩) (Nat.le_refl _) _).alloc (by simp; omega) _⟩
theorem print_good (t : Tg.Tag) (h : Tg.good t) (w : World) :
    Calls Tryz.prog 140 #[.agg #[.bool t.1, .string t.2]] w fun e w' => e = .returned (.tuple #[.string (mkS (Tg.text t)), .int .i64 0]) ∧ Below w.heap.size w w' := by
  refine (tagPrint_any t.1 t.2 w (by have := h.1; omega)).mono ?_
  rintro e w' ⟨hp, hb⟩
  rcases hp with ⟨_, h1⟩ | ⟨h1, _⟩
  · exact ⟨h1, hb⟩
  · exact absurd h h1
set_option maxRecDepth 20000
open Go.RowKit Go.Shelf
namespace Dk
def cutD (s : ByteArray) : List ByteArray := (Pc.cut gear (sl s)).map mkS
theorem cutD_sizes {s t : ByteArray} (h : t ∈ cutD s) : 1 ≤ t.size ∧ t.size ≤ 128 := by
  obtain ⟨l, hl, rfl⟩ := List.mem_map.1 h
  obtain ⟨i, hi, rfl⟩ := List.mem_iff_getElem.1 hl
  have := Pc.cut_sizes (g := gear) (sl s) i hi
  rw [mkS_size]
  omega
theorem sum_flatD (l : List (List UInt8)) : ((l.map mkS).map (·.size)).sum = l.flatten.length := by
  induction l with
  | nil => rfl
  | cons x l ih => rw [List.map_cons, List.map_cons, List.sum_cons, ih, List.flatten_cons, List.length_append, mkS_size]
theorem len_le_sumD {l : List ByteArray} (h : ∀ t ∈ l, 1 ≤ t.size) : l.length ≤ (l.map (·.size)).sum := by
  induction l with
  | nil => simp
  | cons x l ih =>
    have h1 := ih (fun y hy => h y (List.mem_cons_of_mem _ hy))
    have h2 := h x (by simp)
    rw [List.map_cons, List.sum_cons, List.length_cons]
    omega
theorem cutD_len (s : ByteArray) : (cutD s).length ≤ s.size := by
  have h1 : ((cutD s).map (·.size)).sum = s.size := by
    unfold cutD
    rw [sum_flatD, Pc.cut_flat, sl_len]
  rw [← h1]
  exact len_le_sumD fun t ht => (cutD_sizes ht).1
def splitD (s : ByteArray) : Except Int ByteArray := match Tok.splitL (sl s) with
  | .error c => .error c
  | .ok out => .ok (sizesD (out.map mkS))
noncomputable def dateOf : ByteArray → Option Nat := Classical.choose Fr.isDate_ex
noncomputable def timeD (s : ByteArray) : Except Int ByteArray := match dateOf s with
  | none => .error 3
  | some n => .ok (mkS (Lib.itoa (n : Int)))
theorem timeD_any (s : ByteArray) (w : World) (hs : s.size ≤ 300) (ht : Tab w) : Calls Tryz.prog 70 #[.string s] w fun e w' => (∃ (n : Nat) (c : Int), n ≤ 253402300799 ∧ e = .returned (.tuple #[.int .i64 (n : Int), .int .i64 c]) ∧ ((c = 0 ∧ timeD s = .ok (mkS (Lib.itoa (n : Int)))) ∨ (c = 3 ∧ timeD s = .error 3))) ∧ Below w.heap.size w w' := by
  refine (dateParse_any s w (by omega) ht.err.p10 ht.max).mono ?_
  rintro e w' ⟨h, hb⟩
  refine ⟨?_, hb⟩
  have hD : (∃ n, n ≤ 253402300799 ∧ dateOf s = some n ∧ s = mkS (Dt.printD n)) ∨ (dateOf s = none ∧ ∀ n, n ≤ 253402300799 → s ≠ mkS (Dt.printD n)) := Classical.choose_spec Fr.isDate_ex s
  unfold timeD
  rcases h with ⟨n, hn, hp, rfl⟩ | ⟨hno, rfl⟩
  · rcases hD with ⟨m, hm, hd, hp2⟩ | ⟨_, hno⟩
    · have : m = n := printD_inj hm hn (by have := congrArg sl (hp2.symm.trans hp); rwa [sl_mkS, sl_mkS] at this)
      subst this
      exact ⟨m, 0, hm, rfl, .inl ⟨rfl, by rw [hd]⟩⟩
    · exact absurd hp (hno n hn)
  · rcases hD with ⟨m, hm, hd, hp2⟩ | ⟨hd, _⟩
    · exact absurd hp2 (hno m hm)
    · exact ⟨0, 3, by omega, rfl, .inr ⟨rfl, by rw [hd]⟩⟩
open Classical in
noncomputable def tagD (s : ByteArray) : Except Int ByteArray := if ∃ t, Tg.good t ∧ sl s = Tg.text t then .ok s else .error 3
def cmd9 (l : List ByteArray) : Except Int ByteArray := bnd (oneD l) fun s => .ok (sizesD (cutD s))
set_option maxHeartbeats 1000000 in
theorem cmd9_any (v : Value) (l : List ByteArray) (w : World) (h : SlR w es v l) (hz : ∀ x ∈ l, x.size ≤ 300) (ht : Tab w) :
    Calls Tryz.prog 142 #[v] w fun e w' => AnsD (cmd9 l) e ∧ Below w.heap.size w w' := by
  have HO := Lib.hid (one_any v l w h)
  have HZ := Lib.hid (fun s (hs : oneD l = .ok s) => hz s (oneD_mem hs))
  have HT := Lib.hid ht
  obtain ⟨A, c, rfl, -⟩ := h.form
  have HD : Hid (cmd9 l = bnd (oneD l) fun s => .ok (sizesD (cutD s))) := by show _ = _; rfl
  clear h hz ht
  generalize cmd9 l = R at *
  generalize oneD l = r at *
  generalize l.length = n at *
  go_enter Tryz.func142, Tryz.ntmps142
  go_wp2_with fail
  refine HO.out.mono ?_
  rintro e w1 ⟨h1, rfl⟩
  cases r with
  | error c =>
    have h1' : e = .panicked (badP c) := h1
    subst h1'
    have HR : Hid (R = .error c) := HD.out
    clear HO HZ HT HD h1
    go_wp2_with fail
    exact ⟨rfl, by rw [HR.out]; rfl, Below.refl _ _⟩
  | ok s =>
    have h1' : e = .returned (.string s) := h1
    subst h1'
    have HR : Hid (R = .ok (sizesD (cutD s))) := HD.out
    have hs := HZ.out s rfl
    clear HO HZ HD h1
    have HQ := Lib.hid (ckCut_any s w (by omega))
    rw [show (Pc.cut gear (sl s)).map mkS = cutD s from rfl] at HQ
    have hl : (cutD s).length ≤ 1000 := by have := cutD_len s; omega
    have HZ2 := Lib.hid (fun x (hx : x ∈ cutD s) => (cutD_sizes hx).2)
    generalize cutD s = cs at *
    go_wp2_with fail
    refine HQ.out.mono ?_
    rintro e w2 ⟨v, rfl, ho, b2⟩
    have HS := Lib.hid (sizes_any v cs w2 (SlR.of_owns ho) hl (fun x hx => by have := HZ2.out x hx; omega) (HT.out.below b2).err.p10)
    obtain ⟨A2, c2, rfl, -⟩ := (SlR.of_owns ho).form
    generalize sizesD cs = t at *
    clear ho HQ HT hl HZ2
    go_wp2_with fail
    refine HS.out.mono ?_
    rintro e w3 ⟨rfl, b3⟩
    have hb := b2.trans (b3.mono b2.size)
    go_wp2_with fail
    go_ret
    exact ⟨by rw [HR.out]; rfl, hb⟩
def cmd10 (l : List ByteArray) : Except Int ByteArray := bnd (oneD l) fun s => .ok (mkS ((digB (sl s)).flatMap hexC))
set_option maxHeartbeats 1000000 in
theorem cmd10_any (v : Value) (l : List ByteArray) (w : World) (h : SlR w es v l) (hz : ∀ x ∈ l, x.size ≤ 300) (ht : Tab w) :
    Calls Tryz.prog 144 #[v] w fun e w' => AnsD (cmd10 l) e ∧ Below w.heap.size w w' := by
  have HO := Lib.hid (one_any v l w h)
  have HZ := Lib.hid (fun s (hs : oneD l = .ok s) => hz s (oneD_mem hs))
  have HT := Lib.hid ht
  obtain ⟨A, c, rfl, -⟩ := h.form
  have HD : Hid (cmd10 l = bnd (oneD l) fun s => .ok (mkS ((digB (sl s)).flatMap hexC))) := by show _ = _; rfl
  clear h hz ht
  generalize cmd10 l = R at *
  generalize oneD l = r at *
  generalize l.length = n at *
  go_enter Tryz.func144, Tryz.ntmps144
  go_wp2_with fail
  refine HO.out.mono ?_
  rintro e w1 ⟨h1, rfl⟩
  cases r with
  | error c =>
    have h1' : e = .panicked (badP c) := h1
    subst h1'
    have HR : Hid (R = .error c) := HD.out
    clear HO HZ HT HD h1
    go_wp2_with fail
    exact ⟨rfl, by rw [HR.out]; rfl, Below.refl _ _⟩
  | ok s =>
    have h1' : e = .returned (.string s) := h1
    subst h1'
    have HR : Hid (R = .ok (mkS ((digB (sl s)).flatMap hexC))) := HD.out
    have hs := HZ.out s rfl
    clear HO HZ HD h1
    have HQ := Lib.hid (digest_any s w (by omega))
    have hd : (mkS (digB (sl s))).size = 32 := by rw [mkS_size, digB_len]
    have HH := Lib.hid (fun W => hex_any (mkS (digB (sl s))) W (by omega))
    rw [sl_mkS] at HH
    generalize mkS ((digB (sl s)).flatMap hexC) = t at *
    generalize mkS (digB (sl s)) = d at *
    clear HT
    go_wp2_with fail
    refine HQ.out.mono ?_
    rintro e w2 ⟨rfl, b2⟩
    go_wp2_with fail
    refine (HH.out w2).mono ?_
    rintro e w3 ⟨rfl, b3⟩
    have hb := b2.trans (b3.mono b2.size)
    go_wp2_with fail
    go_ret
    exact ⟨by rw [HR.out]; rfl, hb⟩
def cmd3 (l : List ByteArray) : Except Int ByteArray := bnd (oneD l) fun s => splitD s
set_option maxHeartbeats 1000000 in
theorem cmd3_any (v : Value) (l : List ByteArray) (w : World) (h : SlR w es v l) (hz : ∀ x ∈ l, x.size ≤ 300) (ht : Tab w) :
    Calls Tryz.prog 130 #[v] w fun e w' => AnsD (cmd3 l) e ∧ Below w.heap.size w w' := by
  have HO := Lib.hid (one_any v l w h)
  have HZ := Lib.hid (fun s (hs : oneD l = .ok s) => hz s (oneD_mem hs))
  have HT := Lib.hid ht
  obtain ⟨A, c, rfl, -⟩ := h.form
  have HD : Hid (cmd3 l = bnd (oneD l) fun s => splitD s) := by show _ = _; rfl
  clear h hz ht
  generalize cmd3 l = R at *
  generalize oneD l = r at *
  generalize l.length = n at *
  go_enter Tryz.func130, Tryz.ntmps130
  go_wp2_with fail
  refine HO.out.mono ?_
  rintro e w1 ⟨h1, rfl⟩
  cases r with
  | error c =>
    have h1' : e = .panicked (badP c) := h1
    subst h1'
    have HR : Hid (R = .error c) := HD.out
    clear HO HZ HT HD h1
    go_wp2_with fail
    exact ⟨rfl, by rw [HR.out]; rfl, Below.refl _ _⟩
  | ok s =>
    have h1' : e = .returned (.string s) := h1
    subst h1'
    have HR : Hid (R = splitD s) := HD.out
    have hs := HZ.out s rfl
    clear HO HZ HD h1
    have HQ := Lib.hid (split_any s w (by omega))
    unfold splitD at HR
    go_wp2_with fail
    refine HQ.out.mono ?_
    rintro e w2 ⟨h2, b2⟩
    unfold SplitAns at h2
    cases hp : Tok.splitL (sl s) with
    | error c =>
      rw [hp] at h2 HR
      have h2' : e = .returned (.tuple #[.slice none 0 0, .int .i64 c]) := h2
      subst h2'
      have hc : c ≠ 0 := by have := split_code hp; omega
      clear HQ HT hp
      go_wp2_with fail
      refine (fails_bad c hc _).mono ?_
      rintro e w3 ⟨rfl, rfl⟩
      go_wp2_with fail
      exact ⟨rfl, by rw [HR.out]; rfl, b2⟩
    | ok ps =>
      rw [hp] at h2 HR
      obtain ⟨v, rfl, ho⟩ := h2
      obtain ⟨k1, k2, -⟩ := Tok.split_short hp
      have HS := Lib.hid (sizes_any v (ps.map mkS) w2 (SlR.of_owns ho) (by rw [List.length_map]; omega) (fun x hx => by
        obtain ⟨p, hp, rfl⟩ := List.mem_map.1 hx
        have := k1 p hp
        rw [mkS_size]; omega) (HT.out.below b2).err.p10)
      have HR2 : Hid (R = .ok (sizesD (ps.map mkS))) := HR.out
      obtain ⟨A2, c2, rfl, -⟩ := (SlR.of_owns ho).form
      clear HQ HT hp HR ho k1 k2
      generalize sizesD (ps.map mkS) = t at *
      generalize (ps.map mkS).length = m at *
      go_wp2_with fail
      refine (fails_ok _).mono ?_
      rintro e w3 ⟨rfl, rfl⟩
      go_wp2_with fail
      refine HS.out.mono ?_
      rintro e w3 ⟨rfl, b3⟩
      have hb := b2.trans (b3.mono b2.size)
      go_wp2_with fail
      go_ret
      exact ⟨by rw [HR2.out]; rfl, hb⟩
def cmd4 (l : List ByteArray) : Except Int ByteArray := bnd (oneD l) fun s => bnd (numD s) dateD
set_option maxHeartbeats 1000000 in
theorem cmd4_any (v : Value) (l : List ByteArray) (w : World) (h : SlR w es v l) (hz : ∀ x ∈ l, x.size ≤ 300) (ht : Tab w) :
    Calls Tryz.prog 132 #[v] w fun e w' => AnsD (cmd4 l) e ∧ Below w.heap.size w w' := by
  have HO := Lib.hid (one_any v l w h)
  have HZ := Lib.hid (fun s (hs : oneD l = .ok s) => hz s (oneD_mem hs))
  have HT := Lib.hid ht
  obtain ⟨A, c, rfl, -⟩ := h.form
  have HD : Hid (cmd4 l = bnd (oneD l) fun s => bnd (numD s) dateD) := by show _ = _; rfl
  clear h hz ht
  generalize cmd4 l = R at *
  generalize oneD l = r at *
  generalize l.length = n at *
  go_enter Tryz.func132, Tryz.ntmps132
  go_wp2_with fail
  refine HO.out.mono ?_
  rintro e w1 ⟨h1, rfl⟩
  cases r with
  | error c =>
    have h1' : e = .panicked (badP c) := h1
    subst h1'
    have HR : Hid (R = .error c) := HD.out
    clear HO HZ HT HD h1
    go_wp2_with fail
    exact ⟨rfl, by rw [HR.out]; rfl, Below.refl _ _⟩
  | ok s =>
    have h1' : e = .returned (.string s) := h1
    subst h1'
    have HR : Hid (R = bnd (numD s) dateD) := HD.out
    have hs := HZ.out s rfl
    clear HO HZ HD h1
    have HQ := Lib.hid (number_any s w (by omega) HT.out.err)
    have HN := Lib.hid (fun n (hn : numD s = .ok n) => numD_in hn)
    generalize numD s = q at *
    go_wp2_with fail
    refine HQ.out.mono ?_
    rintro e w2 ⟨h2, b2⟩
    cases q with
    | error c =>
      have h2' : e = .panicked (badP c) := h2
      subst h2'
      clear HQ HN HT h2
      go_wp2_with fail
      exact ⟨rfl, by rw [HR.out]; rfl, b2⟩
    | ok n =>
    have h2' : e = .returned (.int .i64 n) := h2
    subst h2'
    have hn := HN.out n rfl
    have HR : Hid (R = dateD n) := HR.out
    have HQ2 := Lib.hid (dateD_any n w2 (by omega) (by omega) (HT.out.below b2))
    clear HQ HN HT h2 hn
    generalize dateD n = r at *
    go_wp2_with fail
    refine HQ2.out.mono ?_
    rintro e w3 ⟨h3, b3⟩
    obtain ⟨t, c, rfl, h4⟩ := told_any h3
    have HTo := Lib.hid (h4 w3)
    have HB3 := Lib.hid (b2.trans (b3.mono b2.size))
    clear h4 h3 b3 HQ2
    go_wp2_with fail
    refine HTo.out.mono ?_
    rintro e w4 ⟨h4, rfl⟩
    cases r with
    | ok t2 =>
      have h4' : e = .returned (.string t2) := h4
      subst h4'
      go_wp2_with fail
      go_ret
      exact ⟨by rw [HR.out]; rfl, HB3.out⟩
    | error c2 =>
      have h4' : e = .panicked (badP c2) := h4
      subst h4'
      go_wp2_with fail
      exact ⟨rfl, by rw [HR.out]; rfl, HB3.out⟩
noncomputable def cmd5 (l : List ByteArray) : Except Int ByteArray := bnd (oneD l) fun s => timeD s
set_option maxHeartbeats 1000000 in
theorem cmd5_any (v : Value) (l : List ByteArray) (w : World) (h : SlR w es v l) (hz : ∀ x ∈ l, x.size ≤ 300) (ht : Tab w) :
    Calls Tryz.prog 134 #[v] w fun e w' => AnsD (cmd5 l) e ∧ Below w.heap.size w w' := by
  have HO := Lib.hid (one_any v l w h)
  have HZ := Lib.hid (fun s (hs : oneD l = .ok s) => hz s (oneD_mem hs))
  have HT := Lib.hid ht
  obtain ⟨A, c, rfl, -⟩ := h.form
  have HD : Hid (cmd5 l = bnd (oneD l) fun s => timeD s) := by show _ = _; rfl
  clear h hz ht
  generalize cmd5 l = R at *
  generalize oneD l = r at *
  generalize l.length = n at *
  go_enter Tryz.func134, Tryz.ntmps134
  go_wp2_with fail
  refine HO.out.mono ?_
  rintro e w1 ⟨h1, rfl⟩
  cases r with
  | error c =>
    have h1' : e = .panicked (badP c) := h1
    subst h1'
    have HR : Hid (R = .error c) := HD.out
    clear HO HZ HT HD h1
    go_wp2_with fail
    exact ⟨rfl, by rw [HR.out]; rfl, Below.refl _ _⟩
  | ok s =>
    have h1' : e = .returned (.string s) := h1
    subst h1'
    have HR : Hid (R = timeD s) := HD.out
    have hs := HZ.out s rfl
    clear HO HZ HD h1
    have HQ := Lib.hid (timeD_any s w hs HT.out)
    generalize timeD s = r at *
    go_wp2_with fail
    refine HQ.out.mono ?_
    rintro e w2 ⟨⟨n, c, hn, rfl, h2⟩, b2⟩
    have HI := Lib.hid (Bd.itoa_any (n : Int) w2 (by omega) (by omega) (HT.out.below b2).err.p10)
    generalize mkS (Lib.itoa (n : Int)) = T at *
    clear HQ HT
    rcases h2 with ⟨rfl, hr⟩ | ⟨rfl, hr⟩
    · subst hr
      go_wp2_with fail
      refine HI.out.mono ?_
      rintro e w3 ⟨rfl, b3⟩
      have hb := b2.trans (b3.mono b2.size)
      go_wp2_with fail
      refine (told_ok T _).mono ?_
      rintro e w4 ⟨rfl, rfl⟩
      go_wp2_with fail
      go_ret
      exact ⟨by rw [HR.out]; rfl, hb⟩
    · subst hr
      go_wp2_with fail
      refine HI.out.mono ?_
      rintro e w3 ⟨rfl, b3⟩
      have hb := b2.trans (b3.mono b2.size)
      go_wp2_with fail
      refine (told_bad T 3 (by decide) _).mono ?_
      rintro e w4 ⟨rfl, rfl⟩
      go_wp2_with fail
      exact ⟨rfl, by rw [HR.out]; rfl, hb⟩
end Dk
set_option maxRecDepth 100000
open Go.RowKit Go.Shelf Go.Sort
namespace Dk
theorem holds0 (w : World) (t : TypeId) (n : Nat) (hn : n ≤ 24) : Holds (fun (b : UInt8) => Value.int .u8 (b.toNat : Int)) (w.alloc (.cells Lib.zeros24 t)) w.heap.size 0 (Array.replicate n 0) := by
  intro j hj
  rw [Array.size_replicate] at hj
  refine ⟨?_, World.frozen?_alloc_new _ _ _ _⟩
  rw [World.cell?_alloc_new, Nat.zero_add, Lib.zeros24_at j (by omega)]
  simp [hj]
theorem below_put (w : World) (o : Obj) (dk : Array UInt8) (k : Nat) : Below w.heap.size w ((putRow (fun (b : UInt8) => Value.int .u8 (b.toNat : Int)) (w.alloc o) w.heap.size 0 dk).drewN k) := by
  obtain ⟨os', _, e⟩ := putRow_grow_new (fun (b : UInt8) => Value.int .u8 (b.toNat : Int)) w #[o] w.heap.size 0 dk (Nat.le_refl _)
  rw [alloc_eq_grow, e]
  exact below_grow_ _ w (Nat.le_refl _) k os'
set_option maxHeartbeats 6400000 in
theorem formatUint_any (u : Nat) (hu64 : u < 18446744073709551616) (w : World) (hp : HasP10 w) :
    Calls Tryz.prog 208 #[.int .u64 u, .int .i64 10] w fun e w' => e = .returned (.string (mkS (Lib.decDigits u))) ∧ Below w.heap.size w w' := by
  by_cases hs : u < 100
  · have d1 : decide (u < 100) = true := decide_eq_true hs
    have d2 : decide ((u : Int) < 100) = true := decide_eq_true (by omega)
    have hw : IntKind.i64.wrap (u : Int) = (u : Int) := by rw [IntKind.wrap_i64]; omega
    go_enter Tryz.func208, Tryz.ntmps208
    go_wp2_with fail
    refine (Tryz.internal_strconv_small u hs _).mono ?_
    rintro e w' ⟨rfl, rfl⟩
    go_wp2_with fail
    go_ret
    exact ⟨rfl, Below.refl _ _⟩
  · have d1 : decide (u < 100) = false := decide_eq_false hs
    have d2 : decide ((u : Int) < 100) = false := decide_eq_false (by omega)
    have hu1 : 1 ≤ u := by omega
    have hnd20 : Lib.nDigits u ≤ 20 := by have := Lib.numDigits_eq u hu1 hu64; split at this <;> omega
    have hal : Tryz.prog.arrayLen 311 = 24 := by kernel_rfl
    have hsl1 : ∀ W, (Instr.sliceAt 311 (.pointer (some ⟨w.heap.size, 0, none⟩)) none (some (.int .i64 (Lib.nDigits u : Int))) none).run Tryz.prog W = .ok (.slice (some ⟨w.heap.size, 0, none⟩) (Lib.nDigits u) 24) W := fun W => by
      rw [run_sliceAt_array_h W 311 ⟨w.heap.size, 0, none⟩ (by kernel_rfl) .i64 (Lib.nDigits u : Int) (by omega) (by rw [hal]; omega)]
      go_simp
    have hH0 := holds0 w 311 (Lib.nDigits u) (by omega)
    have hfmt := Tryz.internal_strconv_formatBase10 w.heap.size 0 24 u (Array.replicate (Lib.nDigits u) 0) (w.alloc (.cells Lib.zeros24 311)) hH0 (by rw [Array.size_replicate]; exact Lib.lt_pow_nDigits u) hu64 (by rw [Array.size_replicate]; omega)
    rw [Array.size_replicate] at hfmt
    have HH0 := Lib.hid hH0
    have HND := Lib.hid (Tryz.internal_strconv_numDigits u hu1 hu64 (w.alloc (.cells Lib.zeros24 311)) (Lib.tabIs_alloc hp.1 _))
    have HF := Lib.hid hfmt
    clear hH0 hal hfmt
    go_enter Tryz.func208, Tryz.ntmps208
    go_wp2_with fail
    refine HND.out.mono ?_
    rintro e w' ⟨rfl, rfl⟩
    go_wp2_with fail
    refine HF.out.mono ?_
    rintro e w' ⟨rfl, k, v', dk, rfl, hF⟩
    have hcv : (convert 135 9 (.slice (some ⟨w.heap.size, 0, none⟩) (Lib.nDigits u) 24)).run Tryz.prog ((putRow (fun (b : UInt8) => Value.int .u8 (b.toNat : Int)) (w.alloc (.cells Lib.zeros24 311)) w.heap.size 0 dk).drewN k) = .ok (.string ⟨(Lib.decDigits u).toArray⟩) ((putRow (fun (b : UInt8) => Value.int .u8 (b.toNat : Int)) (w.alloc (.cells Lib.zeros24 311)) w.heap.size 0 dk).drewN k) := by
      have h := run_convert_bytes_back (P := Tryz.prog) ((putRow (fun (b : UInt8) => Value.int .u8 (b.toNat : Int)) (w.alloc (.cells Lib.zeros24 311)) w.heap.size 0 dk).drewN k) 135 9 5 ⟨w.heap.size, 0, none⟩ 24 (Lib.decDigits u) Tryz.underlying135 Tryz.underlying5 Tryz.underlying9 (fun j hj => by
        rw [Lib.row_is_numeral hF j hj, Lib.add_plain, World.cell?_drewN]
        exact cell?_putRow (fun (b : UInt8) => Value.int .u8 (b.toNat : Int)) _ w.heap.size 0 _ dk HH0.out (by rw [hF.size, Array.size_replicate]) j (by rw [hF.size]; rw [Lib.decDigits_length] at hj; exact hj))
      rw [Lib.decDigits_length] at h
      exact h
    have HB := Lib.hid (below_put w (.cells Lib.zeros24 311) dk k)
    generalize ((putRow (fun (b : UInt8) => Value.int .u8 (b.toNat : Int)) (w.alloc (.cells Lib.zeros24 311)) w.heap.size 0 dk).drewN k) = wx at *
    go_wp2_with fail
    go_ret
    exact ⟨rfl, HB.out⟩
theorem formatU_any (u : Nat) (hu64 : u < 18446744073709551616) (w : World) (hp : HasP10 w) :
    Calls Tryz.prog 148 #[.int .u64 u, .int .i64 10] w fun e w' => e = .returned (.string (mkS (Lib.decDigits u))) ∧ Below w.heap.size w w' := by
  have HF := Lib.hid (formatUint_any u hu64 w hp)
  generalize mkS (Lib.decDigits u) = t at *
  go_enter Tryz.func148, Tryz.ntmps148
  go_wp2_with fail
  refine HF.out.mono ?_
  rintro e w1 ⟨rfl, b1⟩
  go_wp2_with fail
  go_ret
  exact ⟨rfl, b1⟩
end Dk
end Go.Proofs.YtgjfhgcjiglfkaaGreatDoor
namespace Go.Proofs.YtgjfhgcjiglfkaaGreatDoor
namespace Lg
def step (n : Nat) : Nat := (n >>> 1) ^^^ ((n &&& 1) * 2197175160)
def steps : Nat → Nat → Nat
  | 0, n => n
  | k + 1, n => step (steps k n)
def crcB (n : Nat) (c : UInt8) : Nat := steps 8 (n ^^^ c.toNat)
def reg (n : Nat) (l : List UInt8) : Nat := l.foldl crcB n
def crc (l : List UInt8) : Nat := 4294967295 - reg 4294967295 l
theorem step_lt {n : Nat} (h : n < 4294967296) : step n < 4294967296 := by
  unfold step
  have h1 : n >>> 1 < 2 ^ 32 := by rw [Nat.shiftRight_eq_div_pow]; omega
  have h2 : (n &&& 1) * 2197175160 < 2 ^ 32 := by rw [Nat.and_one_is_mod]; have := Nat.mod_lt n (y := 2) (by omega); omega
  exact Nat.xor_lt_two_pow h1 h2
theorem steps_lt {n : Nat} (h : n < 4294967296) : ∀ k, steps k n < 4294967296
  | 0 => h
  | k + 1 => step_lt (steps_lt h k)
theorem byte_lt (c : UInt8) : c.toNat < 256 := c.toNat_lt
theorem crcB_lt {n : Nat} (c : UInt8) (h : n < 4294967296) : crcB n c < 4294967296 :=
  steps_lt (Nat.xor_lt_two_pow (n := 32) h (by have := byte_lt c; omega)) 8
theorem reg_lt : ∀ (l : List UInt8) {n : Nat}, n < 4294967296 → reg n l < 4294967296
  | [], _, h => h
  | c :: l, _, h => reg_lt l (crcB_lt c h)
theorem reg_append (n : Nat) (a b : List UInt8) : reg n (a ++ b) = reg (reg n a) b := List.foldl_append ..
end Lg
namespace Lg
def nb (n : Nat) : UInt8 := UInt8.ofNat n
def be4 (n : Nat) : List UInt8 := [nb (n / 16777216), nb (n / 65536), nb (n / 256), nb n]
def hd4 (n : Nat) : List UInt8 := [nb (n / 256), nb n, nb (255 - n / 256 % 256), nb (255 - n % 256)]
def fcrc (k : Nat) (s : List UInt8) : Nat := crc (be4 k ++ s)
def frame (k : Nat) (s : List UInt8) : List UInt8 := hd4 s.length ++ s ++ le4 (fcrc k s)
def whole (k : Nat) : List (List UInt8) → Nat → Nat × Nat
  | [], _ => (0, 0)
  | s :: l, at_ => if at_ < (frame k s).length then (0, 0) else ((whole (k + 1) l (at_ - (frame k s).length)).1 + 1, (frame k s).length + (whole (k + 1) l (at_ - (frame k s).length)).2)
theorem not_xor {z : Nat} (h : z < 4294967296) : 4294967295 - z = z ^^^ 4294967295 := by
  have e : (~~~ (BitVec.ofNat 32 z)).toNat = (BitVec.ofNat 32 z ^^^ BitVec.allOnes 32).toNat := by rw [BitVec.xor_allOnes]
  rw [BitVec.toNat_not, BitVec.toNat_xor, BitVec.toNat_ofNat, BitVec.toNat_allOnes, Nat.mod_eq_of_lt (by omega)] at e
  simpa using e
end Lg
open Go.RowKit
theorem crc_in (N c : Nat) (hN : N < 4294967296) (hc : c < 256) : bits BinOp.xor IntKind.u32 (N : Int) (c : Int) = ((N ^^^ c : Nat) : Int) := u32_xor_nat N c hN (by omega)
theorem crc_step (m : Nat) (hm : m < 4294967296) : bits BinOp.xor IntKind.u32 ((m : Int) / 2) (bits BinOp.and IntKind.u32 (m : Int) 1 * 2197175160 % 4294967296) = ((Lg.step m : Nat) : Int) := by
  have h1 : bits BinOp.and IntKind.u32 (m : Int) 1 = ((m &&& 1 : Nat) : Int) := u32_and_nat m 1 hm (by omega)
  have h2 : (m &&& 1) * 2197175160 < 4294967296 := by rw [Nat.and_one_is_mod]; have := Nat.mod_lt m (y := 2) (by omega); omega
  have h3 : (m : Int) / (2 : Int) = ((m >>> 1 : Nat) : Int) := by rw [Nat.shiftRight_eq_div_pow]; show _ = ((m / 2 : Nat) : Int); omega
  rw [h1, show ((m &&& 1 : Nat) : Int) * 2197175160 % 4294967296 = (((m &&& 1) * 2197175160 : Nat) : Int) from by omega, h3]
  exact u32_xor_nat _ _ (by rw [Nat.shiftRight_eq_div_pow]; omega) h2
theorem crc_end (N : Nat) (hN : N < 4294967296) : bits BinOp.xor IntKind.u32 IntKind.u32.max (N : Int) = ((4294967295 - N : Nat) : Int) := by
  rw [Lg.not_xor hN, Nat.xor_comm]
  exact u32_xor_nat 4294967295 N (by omega) hN
set_option maxHeartbeats 800000 in
theorem crc_any (s : ByteArray) (w : World) (hs : s.size ≤ 140737488351232) :
    Calls Tryz.prog 149 #[.string s] w fun e w' => e = .returned (.int .u32 (Lg.crc (sl s) : Nat)) ∧ w = w' := by
  go_enter Tryz.func149, Tryz.ntmps149
  go_wp2_with fail
  go_loop [3, 4, 7] (fun n c i => ∃ k : Nat, k ≤ s.size ∧ i = .int .i64 k ∧ n = .int .u32 (Lg.reg 4294967295 ((sl s).take k) : Nat)) (fun _ _ i => s.size - (intOf i).toNat)
  case atStart => exact ⟨0, Nat.zero_le _, rfl, rfl⟩
  case round =>
    obtain ⟨k, hk, rfl, rfl⟩ := hrel
    have hn := Lg.reg_lt ((sl s).take k) (n := 4294967295) (by omega)
    generalize hN : Lg.reg 4294967295 ((sl s).take k) = N at hn
    have HN := Lib.hid hN
    clear hN
    by_cases hlt : k < s.size
    · have hb := Lg.byte_lt s[k]
      go_wp2
      go_loop [3, 16] (fun n j => ∃ i m : Nat, i ≤ 8 ∧ m < 4294967296 ∧ j = .int .i64 i ∧ n = .int .u32 m ∧ m = Lg.steps i (N ^^^ s[k].toNat)) (fun _ j => 8 - (intOf j).toNat)
      case atStart => exact ⟨0, N ^^^ s[k].toNat, by omega, Nat.xor_lt_two_pow (n := 32) hn (by omega), rfl, by rw [crc_in N _ hn hb], rfl⟩
      case round => 
        obtain ⟨i, m, hi, hm, rfl, rfl, hmm⟩ := hrel
        have HM := Lib.hid hmm
        clear hmm
        by_cases h8 : i < 8
        · go_wp2
          go_round
          case rel => exact ⟨i + 1, Lg.step m, by omega, Lg.step_lt hm, by go_num, by rw [crc_step m hm], by rw [HM.out]; rfl⟩
          case measure => simp [intOf]; omega
        · have hm8 : Hid (m = Lg.reg 4294967295 ((sl s).take (k + 1))) := by
            show _ = _
            rw [HM.out, show i = 8 from by omega, List.take_add_one, sl_getElem? s k hlt, Lg.reg_append, HN.out]; rfl
          go_wp2
          go_round
          case rel => exact ⟨k + 1, by omega, by go_num, by rw [hm8.out]⟩
          case measure => simp [intOf]; omega
    · have hE : Hid (4294967295 - N = Lg.crc (sl s)) := by
        show _ = _
        rw [← HN.out, List.take_of_length_le (by rw [sl_len]; omega)]; rfl
      go_wp2
      go_ret
      exact ⟨ret_int (by rw [crc_end N hn, hE.out]), rfl⟩
set_option maxRecDepth 20000
open Go.RowKit Go.Shelf
namespace Dk
def cmd11 (l : List ByteArray) : Except Int ByteArray := bnd (oneD l) fun s => .ok (mkS (Lib.decDigits (Lg.crc (sl s))))
set_option maxHeartbeats 1000000 in
theorem cmd11_any (v : Value) (l : List ByteArray) (w : World) (h : SlR w es v l) (hz : ∀ x ∈ l, x.size ≤ 300) (ht : Tab w) :
    Calls Tryz.prog 147 #[v] w fun e w' => AnsD (cmd11 l) e ∧ Below w.heap.size w w' := by
  have HO := Lib.hid (one_any v l w h)
  have HZ := Lib.hid (fun s (hs : oneD l = .ok s) => hz s (oneD_mem hs))
  have HT := Lib.hid ht
  obtain ⟨A, c, rfl, -⟩ := h.form
  have HD : Hid (cmd11 l = bnd (oneD l) fun s => .ok (mkS (Lib.decDigits (Lg.crc (sl s))))) := by show _ = _; rfl
  clear h hz ht
  generalize cmd11 l = R at *
  generalize oneD l = r at *
  generalize l.length = n at *
  go_enter Tryz.func147, Tryz.ntmps147
  go_wp2_with fail
  refine HO.out.mono ?_
  rintro e w1 ⟨h1, rfl⟩
  cases r with
  | error c =>
    have h1' : e = .panicked (badP c) := h1
    subst h1'
    have HR : Hid (R = .error c) := HD.out
    clear HO HZ HT HD h1
    go_wp2_with fail
    exact ⟨rfl, by rw [HR.out]; rfl, Below.refl _ _⟩
  | ok s =>
    have h1' : e = .returned (.string s) := h1
    subst h1'
    have HR : Hid (R = .ok (mkS (Lib.decDigits (Lg.crc (sl s))))) := HD.out
    have hs := HZ.out s rfl
    clear HO HZ HD h1
    have HQ := Lib.hid (crc_any s w (by omega))
    have hc : Lg.crc (sl s) < 4294967296 := by unfold Lg.crc; omega
    have hwr : IntKind.u64.wrap ((Lg.crc (sl s) : Nat) : Int) = ((Lg.crc (sl s) : Nat) : Int) := by rw [IntKind.wrap_u64]; omega
    have HU := Lib.hid (fun W hp => formatU_any (Lg.crc (sl s)) (by omega) W hp)
    generalize Lg.crc (sl s) = u at *
    go_wp2_with fail
    refine HQ.out.mono ?_
    rintro e w2 ⟨rfl, rfl⟩
    go_wp2_with fail
    refine (HU.out _ HT.out.err.p10).mono ?_
    rintro e w3 ⟨rfl, b3⟩
    go_wp2_with fail
    go_ret
    exact ⟨by rw [HR.out]; rfl, b3⟩
noncomputable def cmd8 (l : List ByteArray) : Except Int ByteArray := bnd (oneD l) fun s => tagD s
set_option maxHeartbeats 1000000 in
theorem cmd8_any (v : Value) (l : List ByteArray) (w : World) (h : SlR w es v l) (hz : ∀ x ∈ l, x.size ≤ 300) (ht : Tab w) :
    Calls Tryz.prog 138 #[v] w fun e w' => AnsD (cmd8 l) e ∧ Below w.heap.size w w' := by
  have HO := Lib.hid (one_any v l w h)
  have HZ := Lib.hid (fun s (hs : oneD l = .ok s) => hz s (oneD_mem hs))
  have HT := Lib.hid ht
  obtain ⟨A, c, rfl, -⟩ := h.form
  have HD : Hid (cmd8 l = bnd (oneD l) fun s => tagD s) := by show _ = _; rfl
  clear h hz ht
  generalize cmd8 l = R at *
  generalize oneD l = r at *
  generalize l.length = n at *
  go_enter Tryz.func138, Tryz.ntmps138
  go_wp2_with fail
  refine HO.out.mono ?_
  rintro e w1 ⟨h1, rfl⟩
  cases r with
  | error c =>
    have h1' : e = .panicked (badP c) := h1
    subst h1'
    have HR : Hid (R = .error c) := HD.out
    clear HO HZ HT HD h1
    go_wp2_with fail
    exact ⟨rfl, by rw [HR.out]; rfl, Below.refl _ _⟩
  | ok s =>
    have h1' : e = .returned (.string s) := h1
    subst h1'
    have HR : Hid (R = tagD s) := HD.out
    have hs := HZ.out s rfl
    clear HO HZ HD h1
    have HQ := Lib.hid (tagParse_any s w (by omega))
    go_wp2_with fail
    refine HQ.out.mono ?_
    rintro e w2 ⟨h2, b2⟩
    rcases h2 with ⟨t, hg, hx, rfl⟩ | ⟨hno, rfl⟩
    · have HR2 : Hid (R = .ok (mkS (Tg.text t))) := by
        show _ = _
        rw [HR.out]
        unfold tagD
        rw [if_pos ⟨t, hg, hx⟩, ← hx]
        exact congrArg _ (sl_inj (by rw [sl_mkS]))
      have HP := Lib.hid (fun W => print_good t hg W)
      obtain ⟨wk, x⟩ := t
      generalize mkS (Tg.text (wk, x)) = T at *
      unfold tagV
      dsimp only at HP ⊢
      clear HQ HT hg hx HR
      go_wp2_with fail
      refine (fails_ok _).mono ?_
      rintro e w3 ⟨rfl, rfl⟩
      have hA := (Below.refl w2.heap.size w2).alloc (Nat.le_refl _) (.cells #[.bool wk, .string x] 209)
      go_wp2_with fail
      refine (HP.out _).mono ?_
      rintro e w4 ⟨rfl, b4⟩
      have hb := b2.trans ((hA.trans (b4.mono hA.size)).mono b2.size)
      go_wp2_with fail
      refine (told_ok T _).mono ?_
      rintro e w5 ⟨rfl, rfl⟩
      go_wp2_with fail
      go_ret
      exact ⟨by rw [HR2.out]; rfl, hb⟩
    · have HR2 : Hid (R = .error 3) := by
        show _ = _
        rw [HR.out]
        unfold tagD
        rw [if_neg (by rintro ⟨t, hg, hx⟩; exact hno t hg hx)]
      unfold tagV
      clear HQ HT HR hno
      go_wp2_with fail
      refine (fails_bad 3 (by decide) _).mono ?_
      rintro e w3 ⟨rfl, rfl⟩
      have hA := b2.alloc b2.size (.cells #[.bool false, .string ByteArray.empty] 209)
      go_wp2_with fail
      exact ⟨rfl, by rw [HR2.out]; rfl, hA⟩
end Dk
end Go.Proofs.YtgjfhgcjiglfkaaGreatDoor
