/- token's param, where it is one. -/
import Derived.Test.YtdoeipjcohkbeaaTokLaws
import Derived.Test.YtdoeipjcohkbeaaTokD
import Derived.Test.YtdoeipjcohkbeaaIsTok
import Derived.Test.YtdoeipjcohkbeaaLower
import Derived.Test.YtdoeipjcohkbeaaCut1
import Derived.Test.YtdoeipjcohkbeaaRows2
namespace Go.Proofs.Ytdoeipjcohkbeaa
open Go.RowKit
def lowT (n : ByteArray) : ByteArray := mkS (Tok.low (sl n))
/-- A parameter as it is written: its name, what it stands for. -/
structure Piece (p n v : ByteArray) : Prop where
  name : Tok.isTok n = true
  size : p.size ≤ 1000
  text : (sl p = sl n ++ 61 :: sl v ∧ Tok.isTok v = true) ∨ (sl p = sl n ++ 61 :: Tok.quoteL (sl v) ∧ (sl v).all Tok.plainB = true)
theorem tok_61 : Tok.tokB 61 = false := by decide
theorem tok_no {n : ByteArray} (h : Tok.isTok n = true) {c : UInt8} (hc : Tok.tokB c = false) : c ∉ sl n := by
  unfold Tok.isTok at h
  rw [Bool.and_eq_true] at h
  intro hm
  have := List.all_eq_true.1 h.1 c hm
  rw [hc] at this; cases this
theorem quoted_no (l : List UInt8) : Tok.isTok (mkS (Tok.quoteL l)) = false := by
  unfold Tok.isTok
  rw [sl_mkS]
  have : (Tok.quoteL l).all Tok.tokB = false := by
    rw [List.all_eq_false]
    exact ⟨34, by simp [Tok.quoteL], by decide⟩
  rw [this]; rfl
theorem split_at {c : UInt8} : ∀ {a a' b b' : List UInt8}, a ++ c :: b = a' ++ c :: b' → c ∉ a → c ∉ a' → a = a' ∧ b = b'
  | [], [], b, b', h, _, _ => by simpa using h
  | [], x :: a', b, b', h, _, h2 => by
    simp only [List.nil_append, List.cons_append, List.cons.injEq] at h
    exact absurd h.1 (by intro e; apply h2; simp [e])
  | x :: a, [], b, b', h, h1, _ => by
    simp only [List.nil_append, List.cons_append, List.cons.injEq] at h
    exact absurd h.1 (by intro e; apply h1; simp [e])
  | x :: a, y :: a', b, b', h, h1, h2 => by
    simp only [List.cons_append, List.cons.injEq] at h
    obtain ⟨rfl, h⟩ := h
    obtain ⟨rfl, rfl⟩ := split_at h (fun e => h1 (by simp [e])) (fun e => h2 (by simp [e]))
    exact ⟨rfl, rfl⟩
/-- Cut at '=', of a parameter. -/
theorem cut_piece (p n : ByteArray) (q : List UInt8) (w : World) (hp : p.size ≤ 1000) (hn : Tok.isTok n = true) (h : sl p = sl n ++ 61 :: q) :
    Calls Try.prog 43 #[.string p, .string ⟨#[61]⟩] w fun e w' => e = .returned (.tuple #[.string n, .string (mkS q), .bool true]) ∧ Below w.heap.size w w' := by
  refine (cut_one p 61 w (by omega)).mono ?_
  rintro e w' ⟨hc, hb⟩
  refine ⟨?_, hb⟩
  rcases hc with ⟨a, b, h1, h2, rfl⟩ | ⟨h1, _⟩
  · rw [h] at h1
    obtain ⟨rfl, rfl⟩ := split_at h1 (tok_no hn tok_61) h2
    rw [mkS_sl]
  · exact absurd (by rw [h]; simp) h1
theorem unquote_quoted (l : List UInt8) (w : World) (hl : l.all Tok.plainB = true) (hz : (Tok.quoteL l).length ≤ 1000) :
    Calls Try.prog 12 #[.string (mkS (Tok.quoteL l))] w fun e w' => e = .returned (.tuple #[.string (mkS l), .int .i64 0]) ∧ Below w.heap.size w w' := by
  refine (unquote_walk (mkS (Tok.quoteL l)) w (by rw [mkS_size]; omega)).mono ?_
  rintro e w' ⟨hc, hb⟩
  refine ⟨?_, hb⟩
  unfold UnqEnd at hc
  rw [sl_mkS, Tok.unquote_quote l hl] at hc
  rcases hc with ⟨h1, _⟩ | ⟨b, h1, h2⟩
  · cases h1
  · injection h1 with h1
    subst h1
    have hle : l.length ≤ 1000 := by
      have : l.length ≤ (Tok.escs l).length := by
        clear hl hz hb h2
        induction l with
        | nil => simp [Tok.escs]
        | cons c l ih =>
          have : 1 ≤ (Tok.esc c).length := by unfold Tok.esc; split <;> simp
          simp only [Tok.escs, List.flatMap_cons, List.length_append, List.length_cons] at ih ⊢; omega
      simp [Tok.quoteL] at hz; omega
    rcases h2 with ⟨h3, _⟩ | ⟨_, h3⟩
    · omega
    · exact h3
def parV (n v : ByteArray) : Value := .agg #[.string (lowT n), .string v]
set_option maxHeartbeats 3200000 in
theorem param_any (p n v : ByteArray) (w : World) (h : Piece p n v) :
    Calls Try.prog 37 #[.string p] w fun e w' => e = .returned (.tuple #[parV n v, .bool true]) ∧ Below w.heap.size w w' := by
  obtain ⟨hn, hp, ht⟩ := h
  have hnz : n.size ≤ 1000 := by
    rcases ht with ⟨h, _⟩ | ⟨h, _⟩ <;> (have := congrArg List.length h; rw [sl_len, List.length_append, sl_len] at this; omega)
  have HN := Lib.hid (isToken_any n)
  rw [hn] at HN
  rcases ht with ⟨hq, hv⟩ | ⟨hq, hv⟩
  · have HC := Lib.hid (fun w => cut_piece p n (sl v) w hp hn hq)
    rw [mkS_sl] at HC
    have HV := Lib.hid (isToken_any v)
    rw [hv] at HV
    have hvz : v.size ≤ 1000 := by have := congrArg List.length hq; rw [sl_len, List.length_append, List.length_cons, sl_len, sl_len] at this; omega
    clear hq hv hn
    go_enter Try.func37, Try.ntmps37
    go_wp2_with fail
    refine (HC.out _).mono ?_
    rintro e w1 ⟨rfl, b1⟩
    have b01 : Below w.heap.size w w1 := ((Below.refl _ _).alloc (Nat.le_refl _) _).trans (b1.mono (by simp))
    have hz : w.heap.size < w1.heap.size := by have := b1.size; simp at this; omega
    have c0 : w1.cell? ⟨w.heap.size, 0, none⟩ = some (.string ByteArray.empty) := (b1.cell (by simp)).trans (by go_simp; rfl)
    have c1 : w1.cell? ⟨w.heap.size, 1, none⟩ = some (.string ByteArray.empty) := (b1.cell (by simp)).trans (by go_simp; rfl)
    have f0 : w1.frozen? ⟨w.heap.size, 0, none⟩ = false := (b1.frozen (by simp)).trans (by go_simp)
    have f1 : w1.frozen? ⟨w.heap.size, 1, none⟩ = false := (b1.frozen (by simp)).trans (by go_simp)
    clear b1
    go_wp2_with fail
    refine (HN.out _ (by omega)).mono ?_
    rintro e w' ⟨rfl, rfl⟩
    go_wp2_with fail
    refine (HV.out _ (by omega)).mono ?_
    rintro e w' ⟨rfl, rfl⟩
    go_wp2_with fail
    refine (lower_any n _ (by omega)).mono ?_
    rintro e w2 ⟨rfl, b2⟩
    rw [show mkS (Tok.low (sl n)) = lowT n from rfl]
    have b02 := b01.trans (b2.mono b01.size)
    have d0 := (b2.cell hz).trans c0
    have d1 := (b2.cell hz).trans c1
    have g0 := (b2.frozen hz).trans f0
    have g1 := (b2.frozen hz).trans f1
    clear c0 c1 f0 f1 b2
    go_wp2_with fail
    refine bodyPost_ret (v := .tuple #[parV n v, .bool true]) (by simp [results, Try.results37, go_sem, parV, d0, d1]) rfl ⟨rfl, (b02.setCell (p := ⟨w.heap.size, 0, none⟩) (Nat.le_refl _) _).setCell (p := ⟨w.heap.size, 1, none⟩) (Nat.le_refl _) _⟩
  · have HC := Lib.hid (fun w => cut_piece p n (Tok.quoteL (sl v)) w hp hn hq)
    have HV := Lib.hid (isToken_any (mkS (Tok.quoteL (sl v))))
    rw [quoted_no] at HV
    have hqz : (Tok.quoteL (sl v)).length ≤ 1000 := by have := congrArg List.length hq; rw [sl_len, List.length_append, List.length_cons] at this; omega
    have HU := Lib.hid (fun w => unquote_quoted (sl v) w hv hqz)
    rw [mkS_sl] at HU
    have hqs : (mkS (Tok.quoteL (sl v))).size ≤ 1000 := by rw [mkS_size]; exact hqz
    generalize mkS (Tok.quoteL (sl v)) = q at *
    clear hq hv hn hqz
    go_enter Try.func37, Try.ntmps37
    go_wp2_with fail
    refine (HC.out _).mono ?_
    rintro e w1 ⟨rfl, b1⟩
    have b01 : Below w.heap.size w w1 := ((Below.refl _ _).alloc (Nat.le_refl _) _).trans (b1.mono (by simp))
    have hz : w.heap.size < w1.heap.size := by have := b1.size; simp at this; omega
    have c0 : w1.cell? ⟨w.heap.size, 0, none⟩ = some (.string ByteArray.empty) := (b1.cell (by simp)).trans (by go_simp; rfl)
    have c1 : w1.cell? ⟨w.heap.size, 1, none⟩ = some (.string ByteArray.empty) := (b1.cell (by simp)).trans (by go_simp; rfl)
    have f0 : w1.frozen? ⟨w.heap.size, 0, none⟩ = false := (b1.frozen (by simp)).trans (by go_simp)
    have f1 : w1.frozen? ⟨w.heap.size, 1, none⟩ = false := (b1.frozen (by simp)).trans (by go_simp)
    clear b1
    go_wp2_with fail
    refine (HN.out _ (by omega)).mono ?_
    rintro e w' ⟨rfl, rfl⟩
    go_wp2_with fail
    refine (HV.out _ (by omega)).mono ?_
    rintro e w' ⟨rfl, rfl⟩
    go_wp2_with fail
    refine (HU.out _).mono ?_
    rintro e w3 ⟨rfl, b3⟩
    have b03 := b01.trans (b3.mono b01.size)
    have hz3 := Nat.lt_of_lt_of_le hz b3.size
    have k0 := (b3.cell hz).trans c0
    have k1 := (b3.cell hz).trans c1
    have l0 := (b3.frozen hz).trans f0
    have l1 := (b3.frozen hz).trans f1
    clear c0 c1 f0 f1 b3
    go_wp2_with fail
    refine (lower_any n _ (by omega)).mono ?_
    rintro e w2 ⟨rfl, b2⟩
    rw [show mkS (Tok.low (sl n)) = lowT n from rfl]
    have b02 := b03.trans (b2.mono b03.size)
    have d0 := (b2.cell hz3).trans k0
    have d1 := (b2.cell hz3).trans k1
    have g0 := (b2.frozen hz3).trans l0
    have g1 := (b2.frozen hz3).trans l1
    clear k0 k1 l0 l1 b2
    go_wp2_with fail
    refine bodyPost_ret (v := .tuple #[parV n v, .bool true]) (by simp [results, Try.results37, go_sem, parV, d0, d1]) rfl ⟨rfl, (b02.setCell (p := ⟨w.heap.size, 0, none⟩) (Nat.le_refl _) _).setCell (p := ⟨w.heap.size, 1, none⟩) (Nat.le_refl _) _⟩
end Go.Proofs.Ytdoeipjcohkbeaa
