/- line: the plain law of first lines of requests. -/
import Derived.Test.YthocoplaehbncaaDoorSplit
import Derived.Test.YthocoplaehbncaaDoorFldP
import Derived.Test.YthocoplaehbncaaDoorIsTok
namespace Go.Proofs.YthocoplaehbncaaDoor
set_option maxRecDepth 20000
open Go.RowKit
namespace Ln
def verL : List UInt8 := [72, 84, 84, 80, 47, 49, 46, 49]
def verS : ByteArray := ⟨#[72, 84, 84, 80, 47, 49, 46, 49]⟩
def isM (s : ByteArray) : Bool := Tok.isTok s && decide (s.size ≤ 30)
def visB (c : UInt8) : Bool := 33 ≤ c && c ≤ 126
def isT (s : ByteArray) : Bool := decide (0 < s.size) && decide (s.size ≤ 200) && (sl s).all visB
/-- A request's first line. -/
def reqL (m t : List UInt8) : List UInt8 := m ++ 32 :: (t ++ 32 :: verL)
def firstF (l : List UInt8) : Except Int (List UInt8) :=
  match cutL2 l with
  | none => if 301 < l.length then .error 2 else .error 8
  | some (a, _) => if 300 < a.length then .error 2 else .ok a
/-- Method, target, how many bytes, code. -/
def parseR (l : List UInt8) : ByteArray × ByteArray × Int × Int :=
  match firstF l with
  | .error c => (ByteArray.empty, ByteArray.empty, 0, c)
  | .ok a => match sg 32 [] a with
    | [m, t, v] => if v = verL ∧ isM (mkS m) = true ∧ isT (mkS t) = true then (mkS m, mkS t, (a.length : Int) + 2, 0) else (ByteArray.empty, ByteArray.empty, 0, 3)
    | _ => (ByteArray.empty, ByteArray.empty, 0, 3)
theorem tok_vis {c : UInt8} (h : Tok.tokB c = true) : visB c = true := by
  have : ∀ n : Fin 256, (!Tok.tokB (UInt8.ofNat n.val) || visB (UInt8.ofNat n.val)) = true := by decide +kernel
  have h2 := this ⟨c.toNat, c.toNat_lt⟩
  rw [UInt8.ofNat_toNat, h] at h2
  simpa using h2
theorem vis_no {l : List UInt8} (h : l.all visB = true) : (13 : UInt8) ∉ l ∧ (32 : UInt8) ∉ l :=
  ⟨fun hm => absurd (List.all_eq_true.1 h 13 hm) (by decide), fun hm => absurd (List.all_eq_true.1 h 32 hm) (by decide)⟩
theorem isM_iff {s : ByteArray} (h : isM s = true) : (sl s).all visB = true ∧ (sl s).length ≤ 30 := by
  unfold isM at h
  rw [Bool.and_eq_true] at h
  refine ⟨?_, by rw [sl_len]; exact of_decide_eq_true h.2⟩
  have := h.1
  unfold Tok.isTok at this
  rw [Bool.and_eq_true] at this
  rw [List.all_eq_true]
  exact fun c hc => tok_vis (List.all_eq_true.1 this.1 c hc)
theorem isT_iff {s : ByteArray} (h : isT s = true) : (sl s).all visB = true ∧ (sl s).length ≤ 200 := by
  unfold isT at h
  rw [Bool.and_eq_true, Bool.and_eq_true] at h
  exact ⟨h.2, by rw [sl_len]; exact of_decide_eq_true h.1.2⟩
theorem req_no {m t : List UInt8} (hm : m.all visB = true) (ht : t.all visB = true) : (13 : UInt8) ∉ reqL m t := by
  unfold reqL
  intro h
  simp only [List.mem_append, List.mem_cons] at h
  rcases h with h | h | h | h | h
  · exact (vis_no hm).1 h
  · exact absurd h (by decide)
  · exact (vis_no ht).1 h
  · exact absurd h (by decide)
  · revert h; decide
theorem req_len (m t : List UInt8) : (reqL m t).length = m.length + t.length + 10 := by
  unfold reqL
  simp only [List.length_append, List.length_cons]
  have : verL.length = 8 := rfl
  omega
theorem req_words {m t : List UInt8} (hm : m.all visB = true) (ht : t.all visB = true) : sg 32 [] (reqL m t) = [m, t, verL] := by
  unfold reqL
  rw [sg_hit _ _ (vis_no hm).2, sg_hit _ _ (vis_no ht).2, sg_one (by decide)]
/-- What was printed is parsed. -/
theorem line_back {m t : ByteArray} (hm : isM m = true) (ht : isT t = true) (r : List UInt8) : parseR (reqL (sl m) (sl t) ++ 13 :: 10 :: r) = (m, t, (m.size : Int) + t.size + 12, 0) := by
  obtain ⟨hm1, hm2⟩ := isM_iff hm
  obtain ⟨ht1, ht2⟩ := isT_iff ht
  have hc := cutL2_some _ r (req_no hm1 ht1)
  have hl := req_len (sl m) (sl t)
  unfold parseR firstF
  rw [hc]
  dsimp only
  rw [if_neg (by omega)]
  dsimp only
  rw [req_words hm1 ht1]
  dsimp only
  rw [mkS_sl, mkS_sl, if_pos ⟨rfl, hm, ht⟩, hl, sl_len, sl_len]
  have : ((m.size + t.size + 10 : Nat) : Int) + 2 = (m.size : Int) + t.size + 12 := by omega
  rw [this]
theorem first_code {l : List UInt8} {c : Int} (h : firstF l = .error c) : c = 2 ∨ c = 8 := by
  unfold firstF at h
  split at h
  · split at h <;> injection h <;> omega
  · split at h
    · injection h; omega
    · cases h
/-- What is parsed. -/
theorem parse_cases (l : List UInt8) : (∃ c, c ≠ 0 ∧ parseR l = (ByteArray.empty, ByteArray.empty, 0, c)) ∨ ∃ m t r, isM m = true ∧ isT t = true ∧ l = reqL (sl m) (sl t) ++ 13 :: 10 :: r ∧ parseR l = (m, t, (m.size : Int) + t.size + 12, 0) := by
  cases hf : firstF l with
  | error c => exact .inl ⟨c, by have := first_code hf; omega, by unfold parseR; rw [hf]⟩
  | ok a =>
    have hcut : ∃ r, l = a ++ 13 :: 10 :: r := by
      unfold firstF at hf
      cases hc : cutL2 l with
      | none => rw [hc] at hf; dsimp only at hf; split at hf <;> cases hf
      | some p =>
        obtain ⟨a', r⟩ := p
        rw [hc] at hf
        dsimp only at hf
        split at hf
        · cases hf
        · injection hf with hf; subst hf; exact ⟨r, cutL2_text hc⟩
    obtain ⟨r, hr⟩ := hcut
    have hj := sg_join 32 a []
    have bad : parseR l = (ByteArray.empty, ByteArray.empty, 0, 3) → (∃ c, c ≠ 0 ∧ parseR l = (ByteArray.empty, ByteArray.empty, 0, c)) ∨ ∃ m t r, isM m = true ∧ isT t = true ∧ l = reqL (sl m) (sl t) ++ 13 :: 10 :: r ∧ parseR l = (m, t, (m.size : Int) + t.size + 12, 0) := fun h => .inl ⟨3, by decide, h⟩
    match hs : sg 32 [] a with
    | [m, t, v] =>
      by_cases hc : v = verL ∧ isM (mkS m) = true ∧ isT (mkS t) = true
      · refine .inr ⟨mkS m, mkS t, r, hc.2.1, hc.2.2, ?_, ?_⟩
        · rw [hs] at hj
          rw [Lib.join_cons, joinTail_c, joinTail_c, joinTail_n] at hj
          rw [sl_mkS, sl_mkS, hr]
          unfold reqL
          rw [hc.1] at hj
          simp only [List.nil_append, List.append_nil, List.append_assoc, List.cons_append] at hj ⊢
          rw [← hj]; simp
        · have hl : (a.length : Int) + 2 = ((mkS m).size : Int) + ((mkS t).size : Int) + 12 := by
            have := congrArg List.length hj
            rw [hs, Lib.join_cons, joinTail_c, joinTail_c, joinTail_n, hc.1] at this
            simp only [List.length_append, List.length_cons, List.length_nil, List.nil_append] at this
            have h8 : verL.length = 8 := rfl
            rw [mkS_size, mkS_size]
            omega
          unfold parseR
          rw [hf]
          dsimp only
          rw [hs]
          dsimp only
          rw [if_pos hc, hl]
      · refine bad ?_
        unfold parseR
        rw [hf]
        dsimp only
        rw [hs]
        dsimp only
        rw [if_neg hc]
    | [] => exact bad (by unfold parseR; rw [hf]; dsimp only; rw [hs])
    | [_] => exact bad (by unfold parseR; rw [hf]; dsimp only; rw [hs])
    | [_, _] => exact bad (by unfold parseR; rw [hf]; dsimp only; rw [hs])
    | _ :: _ :: _ :: _ :: _ => exact bad (by unfold parseR; rw [hf]; dsimp only; rw [hs])
/-- A part of a line has no end. -/
theorem take_none {a : List UInt8} (h : (13 : UInt8) ∉ a) {k : Nat} (hk : k < a.length + 2) : cutL2 ((a ++ [13, 10]).take k) = none := by
  by_cases h1 : k ≤ a.length
  · rw [List.take_append_of_le_length h1]
    exact (cutL2_none _ (fun e => h (List.mem_of_mem_take e))).1
  · obtain rfl : k = a.length + 1 := by omega
    rw [List.take_append, List.take_of_length_le (by omega), show a.length + 1 - a.length = 1 by omega]
    exact (cutL2_none a h).2
theorem line_short {m t : ByteArray} (hm : isM m = true) (ht : isT t = true) {k : Nat} (hk : k < m.size + t.size + 12) : parseR ((reqL (sl m) (sl t) ++ [13, 10]).take k) = (ByteArray.empty, ByteArray.empty, 0, 8) := by
  obtain ⟨hm1, hm2⟩ := isM_iff hm
  obtain ⟨ht1, ht2⟩ := isT_iff ht
  have hl := req_len (sl m) (sl t)
  have hc := take_none (req_no hm1 ht1) (k := k) (by rw [hl, sl_len, sl_len]; omega)
  unfold parseR firstF
  rw [hc]
  dsimp only
  rw [if_neg (by rw [List.length_take]; rw [sl_len, sl_len] at hl; rw [sl_len] at hm2 ht2; omega)]
theorem parse_empty : parseR [] = (ByteArray.empty, ByteArray.empty, 0, 8) := by unfold parseR firstF; rfl
end Ln
end Go.Proofs.YthocoplaehbncaaDoor
