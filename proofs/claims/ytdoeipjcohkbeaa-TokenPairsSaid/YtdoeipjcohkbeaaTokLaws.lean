/- The laws TokenBack and TokenOnce: the plain law (what is quoted is unquoted as it was), and the walks. -/
import Derived.Test.YtdoeipjcohkbeaaTokB
namespace Go.Proofs.Ytdoeipjcohkbeaa
open Go.RowKit
namespace Tok
theorem escs_cons (c : UInt8) (l : List UInt8) : escs (c :: l) = esc c ++ escs l := rfl
theorem unq_escs : ∀ (l : List UInt8), l.all plainB = true → unq (escs l) = some l
  | [], _ => rfl
  | c :: l, h => by
    simp only [List.all_cons, Bool.and_eq_true] at h
    have ih := unq_escs l h.2
    rw [escs_cons]
    by_cases hc : (c == 34 || c == 92) = true
    · have e : esc c = [92, c] := if_pos hc
      rw [e]
      show unq (92 :: c :: escs l) = _
      rw [unq_esc _ _ _ rfl, h.1, if_pos rfl, ih]; rfl
    · have e : esc c = [c] := if_neg hc
      rw [e]
      simp only [Bool.or_eq_true, not_or, Bool.not_eq_true] at hc
      show unq (c :: escs l) = _
      rw [unq_plain _ _ hc.2 hc.1 h.1, ih]; rfl
theorem unquote_quote (l : List UInt8) (h : l.all plainB = true) : unquoteL (quoteL l) = some l := by
  have hl : (quoteL l).length = (escs l).length + 2 := by simp [quoteL]
  have h0 : (quoteL l)[0]? = some 34 := rfl
  have h1 : (quoteL l)[(quoteL l).length - 1]? = some 34 := by
    rw [hl]
    unfold quoteL
    simp
  unfold unquoteL
  rw [h0, h1, if_neg (by simp; omega), hl, ← unq_escs l h]
  congr 1
  unfold quoteL
  simp
/-- What unquotes to something is no shorter than it quoted anew. -/
theorem escs_of_unq : ∀ (n : Nat) (l b : List UInt8), l.length ≤ n → unq l = some b → (escs b).length ≤ l.length ∧ b.all plainB = true
  | _, [], b, _, h => by simp only [unq] at h; obtain rfl := Option.some.inj h; simp [escs]
  | 0, c :: l, b, hn, h => by simp at hn
  | n + 1, c :: l, b, hn, h => by
    simp only [List.length_cons] at hn
    cases h92 : (c == 92)
    · cases h34 : (c == 34)
      · cases hp : plainB c
        · rw [unq_bad _ _ h92 (.inr hp)] at h; cases h
        · rw [unq_plain _ _ h92 h34 hp] at h
          obtain ⟨b', hb, rfl⟩ := Option.map_eq_some_iff.1 h
          obtain ⟨i1, i2⟩ := escs_of_unq n l b' (by omega) hb
          have e : esc c = [c] := by unfold esc; rw [h92, h34]; rfl
          refine ⟨?_, by simp [hp, i2]⟩
          rw [escs_cons, e]
          simp only [List.length_append, List.length_cons, List.length_nil]; omega
      · rw [unq_bad _ _ h92 (.inl h34)] at h; cases h
    · cases l with
      | nil => rw [unq_esc_end _ h92] at h; cases h
      | cons d l =>
        rw [unq_esc _ _ _ h92] at h
        cases hp : plainB d
        · rw [hp] at h; cases h
        · rw [hp, if_pos rfl] at h
          obtain ⟨b', hb, rfl⟩ := Option.map_eq_some_iff.1 h
          simp only [List.length_cons] at hn
          obtain ⟨i1, i2⟩ := escs_of_unq n l b' (by omega) hb
          have := esc_len d
          refine ⟨?_, by simp [hp, i2]⟩
          rw [escs_cons]
          simp only [List.length_append, List.length_cons]; omega
theorem unquote_some {l b : List UInt8} (h : unquoteL l = some b) : (quoteL b).length ≤ l.length ∧ b.all plainB = true := by
  unfold unquoteL at h
  split at h
  · cases h
  · rename_i hc
    simp only [Bool.or_eq_true, decide_eq_true_eq, not_or] at hc
    have hlen : ((l.drop 1).take (l.length - 2)).length ≤ l.length - 2 := by simp; omega
    obtain ⟨i1, i2⟩ := escs_of_unq _ _ b (Nat.le_refl _) h
    refine ⟨?_, i2⟩
    simp [quoteL] at i1 ⊢
    omega
end Tok

/-- What Quote answers, whatever it is given. -/
def QuoteAns (l : List UInt8) (e : Ending) : Prop :=
  (l.length ≤ 1000 ∧ l.all Tok.plainB = true ∧ e = .returned (.tuple #[.string (mkS (Tok.quoteL l)), .int .i64 0])) ∨
  (¬ (l.length ≤ 1000 ∧ l.all Tok.plainB = true) ∧ ∃ c : Int, 1 ≤ c ∧ c ≤ 3 ∧ e = .returned (.tuple #[.string ByteArray.empty, .int .i64 c]))
theorem quote_any (s : ByteArray) (w : World) (hs : s.size ≤ 140737488351232) :
    Calls Try.prog 11 #[.string s] w fun e w' => QuoteAns (sl s) e ∧ Below w.heap.size w w' := by
  by_cases h : s.size ≤ 1000
  · refine (quote_walk s w h).mono fun e w' ⟨hq, hb⟩ => ⟨?_, hb⟩
    rcases hq with ⟨h1, rfl⟩ | ⟨h1, rfl⟩
    · exact .inl ⟨by rw [sl_len]; exact h, h1, rfl⟩
    · exact .inr ⟨by rw [h1]; simp, 3, by omega, by omega, rfl⟩
  · refine (quote_large s w (by omega) hs).mono fun e w' ⟨he, hw⟩ => ?_
    subst he hw
    exact ⟨.inr ⟨by rw [sl_len]; omega, 2, by omega, by omega, rfl⟩, Below.refl _ _⟩
theorem unquote_empty (w : World) : Calls Try.prog 12 #[.string ByteArray.empty] w fun e w' => e = .returned (.tuple #[.string ByteArray.empty, .int .i64 3]) ∧ Below w.heap.size w w' := by
  refine (unquote_walk ByteArray.empty w (by decide)).mono fun e w' ⟨hq, hb⟩ => ⟨?_, hb⟩
  rcases hq with ⟨_, h⟩ | ⟨b, h, _⟩
  · exact h
  · cases h

set_option maxHeartbeats 400000 in
theorem tokenBack_walk (s : ByteArray) (w : World) (hs : s.size ≤ 140737488351232) :
    Calls Try.prog 3 #[.string s] w fun e w' => e = .returned (.bool true) ∧ Below w.heap.size w w' := by
  go_enter Try.func3, Try.ntmps3
  go_wp2_with fail
  refine (quote_any s _ hs).mono ?_
  rintro e w1 ⟨hq, hb1⟩
  rcases hq with ⟨hl, hp, rfl⟩ | ⟨-, c, c1, c3, rfl⟩
  · have hu := Tok.unquote_quote _ hp
    have hsz : (mkS (Tok.quoteL (sl s))).size = (Tok.escs (sl s)).length + 2 := by rw [mkS_size]; simp [Tok.quoteL]
    have hge : ∀ l : List UInt8, l.length ≤ (Tok.escs l).length := by
      intro l; induction l with
      | nil => simp
      | cons c l ih =>
        have : 1 ≤ (Tok.esc c).length := by unfold Tok.esc; split <;> simp
        simp only [Tok.escs, List.flatMap_cons, List.length_append, List.length_cons] at ih ⊢; omega
    have hg := hge (sl s)
    have hle := Tok.escs_len (sl s)
    rw [sl_len] at hg hl hle
    have hq1 : s.size + 2 ≤ (mkS (Tok.quoteL (sl s))).size := by omega
    have hq2 : (mkS (Tok.quoteL (sl s))).size ≤ 140737488351232 := by omega
    have U : ∀ w, Calls Try.prog 12 #[.string (mkS (Tok.quoteL (sl s)))] w fun e w' => e = .returned (.tuple #[.string s, .int .i64 0]) ∧ Below w.heap.size w w' := by
      intro w
      refine (unquote_walk _ w hq2).mono fun e w' ⟨ha, hb⟩ => ⟨?_, hb⟩
      rw [UnqEnd, sl_mkS, hu] at ha
      rcases ha with ⟨h, _⟩ | ⟨b, h, ha⟩
      · cases h
      · obtain rfl := Option.some.inj h
        rw [sl_len] at ha
        rcases ha with ⟨h, _⟩ | ⟨_, h⟩
        · omega
        · rw [h, mkS_sl]
    clear hu hge hsz hg hle hp
    have HU := Lib.hid U
    clear U
    generalize mkS (Tok.quoteL (sl s)) = q at *
    go_wp2_with fail
    refine (unquote_empty _).mono ?_
    rintro e w2 ⟨rfl, hb2⟩
    go_wp2_with fail
    refine (HU.out _).mono ?_
    rintro e w3 ⟨rfl, hb3⟩
    go_wp2_with fail
    go_ret
    exact ⟨ret_bool (by simp; omega), (hb1.trans (hb2.mono hb1.size)).trans (hb3.mono (Nat.le_trans hb1.size hb2.size))⟩
  · go_wp2_with fail
    refine (unquote_empty _).mono ?_
    rintro e w2 ⟨rfl, hb2⟩
    go_wp2_with fail
    go_ret
    exact ⟨rfl, hb1.trans (hb2.mono hb1.size)⟩

set_option maxHeartbeats 400000 in
theorem tokenOnce_walk (s : ByteArray) (w : World) (hs : s.size ≤ 140737488351232) :
    Calls Try.prog 4 #[.string s] w fun e w' => e = .returned (.bool true) ∧ Below w.heap.size w w' := by
  go_enter Try.func4, Try.ntmps4
  go_wp2_with fail
  refine (unquote_walk s _ hs).mono ?_
  rintro e w1 ⟨hq, hb1⟩
  rcases hq with ⟨-, rfl⟩ | ⟨b, hu, ⟨-, rfl⟩ | ⟨hlen, rfl⟩⟩
  · go_wp2_with fail
    refine (unquote_empty _).mono ?_
    rintro e w2 ⟨rfl, hb2⟩
    go_wp2_with fail
    go_ret
    exact ⟨rfl, hb1.trans (hb2.mono hb1.size)⟩
  · go_wp2_with fail
    refine (unquote_empty _).mono ?_
    rintro e w2 ⟨rfl, hb2⟩
    go_wp2_with fail
    go_ret
    exact ⟨rfl, hb1.trans (hb2.mono hb1.size)⟩
  · obtain ⟨i1, i2⟩ := Tok.unquote_some hu
    have hqq := Tok.unquote_quote b i2
    rw [sl_len] at i1
    have hbs : (mkS b).size ≤ 1000 := by rw [mkS_size]; exact hlen
    have Q : ∀ w, Calls Try.prog 11 #[.string (mkS b)] w fun e w' => e = .returned (.tuple #[.string (mkS (Tok.quoteL b)), .int .i64 0]) ∧ Below w.heap.size w w' := by
      intro w
      refine (quote_walk (mkS b) w hbs).mono fun e w' ⟨ha, hb⟩ => ⟨?_, hb⟩
      rw [QuoteEnd, sl_mkS] at ha
      rcases ha with ⟨_, h⟩ | ⟨h, _⟩
      · exact h
      · rw [i2] at h; cases h
    have hq1 : (mkS (Tok.quoteL b)).size ≤ s.size := by rw [mkS_size]; exact i1
    have U : ∀ w, Calls Try.prog 12 #[.string (mkS (Tok.quoteL b))] w fun e w' => e = .returned (.tuple #[.string (mkS b), .int .i64 0]) ∧ Below w.heap.size w w' := by
      intro w
      refine (unquote_walk _ w (by omega)).mono fun e w' ⟨ha, hb⟩ => ⟨?_, hb⟩
      rw [UnqEnd, sl_mkS, hqq] at ha
      rcases ha with ⟨h, _⟩ | ⟨b', h, ha⟩
      · cases h
      · obtain rfl := Option.some.inj h
        rcases ha with ⟨h, _⟩ | ⟨_, h⟩
        · omega
        · exact h
    have HQ := Lib.hid Q
    have HU := Lib.hid U
    clear Q U hqq hu i2
    generalize mkS (Tok.quoteL b) = q at *
    generalize mkS b = t at *
    go_wp2_with fail
    refine (unquote_empty _).mono ?_
    rintro e w2 ⟨rfl, hb2⟩
    go_wp2_with fail
    refine (HQ.out _).mono ?_
    rintro e w3 ⟨rfl, hb3⟩
    go_wp2_with fail
    refine (HU.out _).mono ?_
    rintro e w4 ⟨rfl, hb4⟩
    go_wp2_with fail
    go_ret
    exact ⟨ret_bool (by simp <;> omega), ((hb1.trans (hb2.mono hb1.size)).trans (hb3.mono (Nat.le_trans hb1.size hb2.size))).trans (hb4.mono (Nat.le_trans (Nat.le_trans hb1.size hb2.size) hb3.size))⟩
end Go.Proofs.Ytdoeipjcohkbeaa
