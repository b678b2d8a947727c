/- line: the plain law of first lines of responses. -/
import Derived.Test.YtoalfjkbgeiggaaGreatDoorZLineW
import Derived.Test.YtoalfjkbgeiggaaGreatDoorZBodyA
import Derived.Lib.Replace
import Derived.Lib.CountLaws
namespace Go.Proofs.YtoalfjkbgeiggaaGreatDoor
set_option maxRecDepth 20000
open Go.RowKit
namespace Ln
theorem replaceK_tab (c : UInt8) : ∀ (n : Nat) (l : List UInt8), l.length ≤ n → Lib.replaceK [c] [] (Lib.count l [c]) l = l.filter (fun x => !(x == c))
  | n, l, hn => by
    rcases cut_at c l with h | ⟨a, b, rfl, ha⟩
    · rw [Lib.count_miss (index_no1 c l h)]
      show l = _
      refine (List.filter_eq_self.2 (fun x hx => ?_)).symm
      have : x ≠ c := fun e => h (e ▸ hx)
      simp [this]
    · match n, hn with
      | 0, hn => simp at hn
      | n + 1, hn =>
        have hi := index_hit1 c b a ha
        rw [Lib.count_hit (by simp) hi, Nat.add_comm 1, Lib.replaceK_hit _ _ _ _ _ hi]
        have hd : (a ++ c :: b).drop (a.length + [c].length) = b := by
          rw [show a ++ c :: b = (a ++ [c]) ++ b by simp, List.drop_left' (by simp)]
        rw [hd, replaceK_tab c n b (by simp at hn; omega), List.take_left' rfl, List.filter_append, List.filter_cons]
        have h1 : a.filter (fun x => !(x == c)) = a := List.filter_eq_self.2 (fun x hx => by
          have : x ≠ c := fun e => ha (e ▸ hx)
          simp [this])
        rw [h1]
        simp
theorem replaceAll_tab (c : UInt8) (l : List UInt8) : Lib.replaceAll l [c] [] = l.filter (fun x => !(x == c)) := by
  unfold Lib.replaceAll Lib.replace
  rw [if_neg (by simp)]
  have : Lib.replaceNum l [c] (-1) = Lib.count l [c] := by unfold Lib.replaceNum; rw [if_pos (.inl (by decide))]
  rw [this]
  exact replaceK_tab c _ l (Nat.le_refl _)
def isRs (r : ByteArray) : Bool := decide (r.size ≤ 100) && (Lib.replaceAll (sl r) [9] []).all (inB 32 126)
theorem isRs_iff {r : ByteArray} (h : isRs r = true) : r.size ≤ 100 ∧ (13 : UInt8) ∉ sl r := by
  unfold isRs at h
  rw [Bool.and_eq_true, replaceAll_tab] at h
  refine ⟨of_decide_eq_true h.1, fun hm => ?_⟩
  have := List.all_eq_true.1 h.2 13 (List.mem_filter.2 ⟨hm, by decide⟩)
  exact absurd this (by decide)
/-- A response's first line. -/
def statL (c : Nat) (r : List UInt8) : List UInt8 := verL ++ 32 :: (Lib.itoa (c : Int) ++ 32 :: r)
def code3 (c : Nat) : Bool := match Lib.atoiAll (Lib.itoa (c : Int)) with
  | .ok v => v == (c : Int) && (Lib.itoa (c : Int)).length == 3 && !(Lib.itoa (c : Int)).contains 32 && !(Lib.itoa (c : Int)).contains 13
  | _ => false
theorem code3_all : ((List.range 500).all fun k => code3 (k + 100)) = true := by first | kernel_rfl | decide +kernel
theorem code_ok {c : Nat} (h0 : 100 ≤ c) (h1 : c ≤ 599) : Lib.atoiAll (Lib.itoa (c : Int)) = .ok (c : Int) ∧ (Lib.itoa (c : Int)).length = 3 ∧ (32 : UInt8) ∉ Lib.itoa (c : Int) ∧ (13 : UInt8) ∉ Lib.itoa (c : Int) := by
  have := List.all_eq_true.1 code3_all (c - 100) (List.mem_range.2 (by omega))
  rw [show c - 100 + 100 = c by omega] at this
  unfold code3 at this
  cases ha : Lib.atoiAll (Lib.itoa (c : Int)) with
  | ok v =>
    rw [ha] at this
    simp only [Bool.and_eq_true, beq_iff_eq, Bool.not_eq_true', List.contains_eq_mem, decide_eq_false_iff_not] at this
    exact ⟨by rw [this.1.1.1], this.1.1.2, this.1.2, this.2⟩
  | «syntax» => rw [ha] at this; cases this
  | range => rw [ha] at this; cases this
theorem stat_no {c : Nat} (h0 : 100 ≤ c) (h1 : c ≤ 599) {r : List UInt8} (hr : (13 : UInt8) ∉ r) : (13 : UInt8) ∉ statL c r := by
  obtain ⟨-, -, -, h⟩ := code_ok h0 h1
  unfold statL
  intro hm
  simp only [List.mem_append, List.mem_cons] at hm
  rcases hm with hm | hm | hm | hm | hm
  · revert hm; decide
  · exact absurd hm (by decide)
  · exact h hm
  · exact absurd hm (by decide)
  · exact hr hm
theorem stat_len {c : Nat} (h0 : 100 ≤ c) (h1 : c ≤ 599) (r : List UInt8) : (statL c r).length = r.length + 13 := by
  obtain ⟨-, h, -, -⟩ := code_ok h0 h1
  unfold statL
  simp only [List.length_append, List.length_cons, h]
  have : verL.length = 8 := rfl
  omega
theorem stat_first {c : Nat} (h0 : 100 ≤ c) (h1 : c ≤ 599) {r : ByteArray} (hr : isRs r = true) (rest : List UInt8) : firstF (statL c (sl r) ++ 13 :: 10 :: rest) = .ok (statL c (sl r)) := by
  obtain ⟨hz, h13⟩ := isRs_iff hr
  have hl := stat_len h0 h1 (sl r)
  rw [sl_len] at hl
  unfold firstF
  rw [cutL2_some _ rest (stat_no h0 h1 h13)]
  dsimp only
  rw [if_neg (by omega)]
theorem stat_split {c : Nat} (h0 : 100 ≤ c) (h1 : c ≤ 599) (r : List UInt8) : Lib.splitB ⟨#[32]⟩ 0 2 (mkS (statL c r)) = [verS, mkS (Lib.itoa (c : Int)), mkS r] := by
  obtain ⟨-, -, h32, -⟩ := code_ok h0 h1
  have step : ∀ (a b : List UInt8) (k : Nat), (32 : UInt8) ∉ a → Lib.splitB ⟨#[32]⟩ 0 (k + 1) (mkS (a ++ 32 :: b)) = mkS a :: Lib.splitB ⟨#[32]⟩ 0 k (mkS b) := by
    intro a b k ha
    have hi : Lib.indexB (mkS (a ++ 32 :: b)) ⟨#[32]⟩ = (a.length : Int) := by
      show Lib.index (sl (mkS (a ++ 32 :: b))) [32] = _
      rw [sl_mkS]; exact index_hit1 32 b a ha
    rw [Lib.splitB_hit _ _ _ _ a.length hi]
    have e1 : (mkS (a ++ 32 :: b)).extract 0 (a.length + 0) = mkS a := by
      apply sl_inj; rw [sl_extract, sl_mkS, sl_mkS]; simp
    have e2 : (mkS (a ++ 32 :: b)).extract (a.length + (⟨#[32]⟩ : ByteArray).size) (mkS (a ++ 32 :: b)).size = mkS b := by
      apply sl_inj
      rw [sl_extract_end, sl_mkS, sl_mkS, show (⟨#[32]⟩ : ByteArray).size = 1 from rfl, show a ++ 32 :: b = (a ++ [32]) ++ b by simp, List.drop_left' (by simp)]
    rw [e1, e2]
  unfold statL
  rw [step _ _ 1 (by decide), step _ _ 0 h32, Lib.splitB_zero]
  rfl
def statS (c : Nat) (r : ByteArray) : ByteArray := mkS (statL c (sl r) ++ [13, 10])
theorem statS_parts (c : Nat) (r : ByteArray) : (⟨#[72, 84, 84, 80, 47, 49, 46, 49, 32]⟩ : ByteArray) ++ mkS (Lib.itoa (c : Int)) ++ ⟨#[32]⟩ ++ r ++ ⟨#[13, 10]⟩ = statS c r := by
  apply sl_inj
  unfold statS statL
  simp only [sl_append, sl_mkS]
  simp [sl, verL]
theorem statS_size {c : Nat} (h0 : 100 ≤ c) (h1 : c ≤ 599) (r : ByteArray) : (statS c r).size = r.size + 15 := by
  unfold statS
  rw [mkS_size, List.length_append, stat_len h0 h1, sl_len]; rfl
end Ln
end Go.Proofs.YtoalfjkbgeiggaaGreatDoor
