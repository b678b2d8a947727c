/- body: the plain law of BodyBack: what is encoded is decoded. -/
import Derived.Test.YtoalfjkbgeiggaaDoorChkQ
namespace Go.Proofs.YtoalfjkbgeiggaaDoor
set_option maxRecDepth 20000
open Go.RowKit
namespace Ck
def hd (n : Nat) : UInt8 := if n < 10 then UInt8.ofNat (48 + n) else UInt8.ofNat (87 + n)
/-- A number of at most four digits. -/
def hexL (n : Nat) : List UInt8 :=
  if n < 16 then [hd n] else if n < 256 then [hd (n / 16), hd (n % 16)] else if n < 4096 then [hd (n / 256), hd (n / 16 % 16), hd (n % 16)] else [hd (n / 4096), hd (n / 256 % 16), hd (n / 16 % 16), hd (n % 16)]
def hexOk (n : Nat) : Bool := hexN (hexL n) == n && (hexL n).all hexB && decide (1 ≤ (hexL n).length) && decide ((hexL n).length ≤ 4)
theorem hexOk_all : ((List.range 5001).all hexOk) = true := by kernel_rfl
theorem hex_ok {n : Nat} (h : n ≤ 5000) : hexN (hexL n) = n ∧ (hexL n).all hexB = true ∧ 1 ≤ (hexL n).length ∧ (hexL n).length ≤ 4 := by
  have := List.all_eq_true.1 hexOk_all n (List.mem_range.2 (by omega))
  unfold hexOk at this
  simp only [Bool.and_eq_true, beq_iff_eq, decide_eq_true_eq] at this
  exact ⟨this.1.1.1, this.1.1.2, this.1.2, this.2⟩
theorem tw_all {p : UInt8 → Bool} {c : UInt8} (hc : p c = false) : ∀ (l r : List UInt8), l.all p = true → (l ++ c :: r).takeWhile p = l
  | [], r, _ => by rw [List.nil_append, List.takeWhile_cons, hc]; rfl
  | x :: l, r, h => by
    rw [List.all_cons, Bool.and_eq_true] at h
    rw [List.cons_append, List.takeWhile_cons, h.1, if_pos rfl, tw_all hc l r h.2]
theorem digs_line {l : List UInt8} (h : l.all hexB = true) (h4 : l.length ≤ 4) (r : List UInt8) : digs (l ++ 13 :: r) = l := by
  unfold digs pre
  by_cases h5 : l.length = 4
  · rw [List.take_left' h5]
    have := tw_all (p := hexB) (c := 13) (by decide) l [] h
    have e : l.takeWhile hexB = l := by
      clear this h4 h5
      induction l with
      | nil => rfl
      | cons x l ih =>
        rw [List.all_cons, Bool.and_eq_true] at h
        rw [List.takeWhile_cons, h.1, if_pos rfl, ih h.2]
    exact e
  · obtain ⟨k, hk⟩ : ∃ k, 4 - l.length = k + 1 := ⟨4 - l.length - 1, by omega⟩
    rw [List.take_append, List.take_of_length_le (by omega), hk, List.take_succ_cons]
    exact tw_all (by decide) l _ h
/-- A chunk's head. -/
theorem step_line {n : Nat} (hn : n ≤ 5000) (body r : List UInt8) (hb : body.length + n ≤ 5000) : step .head body (hexL n ++ 13 :: 10 :: r) = .go ((hexL n).length + 2) (if n = 0 then .trailer else .data n) body := by
  obtain ⟨h1, h2, h3, h4⟩ := hex_ok hn
  have hd := digs_line h2 h4 (10 :: r)
  have he : headEnd (hexL n ++ 13 :: 10 :: r) = (hexL n).length := by
    unfold headEnd
    rw [hd]
    dsimp only
    rw [if_neg]
    rintro ⟨_, h⟩
    rw [List.getElem?_append_right (Nat.le_refl _), Nat.sub_self] at h
    simp at h
  rw [step_head, hd, he, if_neg (by rintro ⟨h, _⟩; omega), List.drop_left' rfl, atEnd_ok, if_neg (by omega), h1]
def lastL : List UInt8 := [48, 13, 10, 13, 10]
def encL : Nat → Nat → List UInt8 → List UInt8
  | 0, _, _ => lastL
  | n + 1, size, s => if s = [] then lastL else hexL (min size s.length) ++ 13 :: 10 :: (s.take (min size s.length) ++ 13 :: 10 :: encL n size (s.drop (min size s.length)))
theorem dec_last (body rest : List UInt8) (hb : body.length ≤ 5000) : dec .head body (lastL ++ rest) = .done body rest := by
  have e : lastL ++ rest = hexL 0 ++ 13 :: 10 :: (13 :: 10 :: rest) := by rfl
  rw [dec_eq, e, step_line (by omega) body _ (by omega)]
  dsimp only
  rw [if_pos rfl]
  show dec .trailer body (13 :: 10 :: rest) = _
  have hp : parseA (13 :: 10 :: rest) = .ok ([], rest) := by
    unfold parseA
    rw [List.length_cons, parseF]
    rw [show cutL2 (13 :: 10 :: rest) = some ([], rest) from by simp [cutL2]]
    dsimp only
    rw [if_pos rfl]
  rw [dec_eq, step_trailer, hp]
  dsimp only
  rw [show (13 :: 10 :: rest).length - rest.length = 2 by simp only [List.length_cons]; omega]
  rfl
/-- BodyBack. -/
theorem dec_enc (size : Nat) (hs : 1 ≤ size) (rest : List UInt8) : ∀ (n : Nat) (s body : List UInt8), s.length ≤ n → body.length + s.length ≤ 5000 → dec .head body (encL n size s ++ rest) = .done (body ++ s) rest
  | 0, s, body, hn, hb => by
    obtain rfl : s = [] := List.eq_nil_of_length_eq_zero (by omega)
    rw [List.append_nil]
    exact dec_last body rest (by simpa using hb)
  | n + 1, s, body, hn, hb => by
    by_cases h0 : s = []
    · subst h0
      rw [List.append_nil, show encL (n + 1) size [] = lastL from by rw [encL, if_pos rfl]]
      exact dec_last body rest (by simpa using hb)
    · have hpos : 0 < s.length := by
        cases s with
        | nil => exact absurd rfl h0
        | cons a l => simp
      generalize hk : min size s.length = k
      have hk1 : 1 ≤ k := by omega
      have hks : k ≤ s.length := by omega
      have e : encL (n + 1) size s ++ rest = hexL k ++ 13 :: 10 :: (s.take k ++ 13 :: 10 :: (encL n size (s.drop k) ++ rest)) := by
        rw [encL, if_neg h0, hk]; simp
      have htk : (s.take k).length = k := by rw [List.length_take]; omega
      rw [e, dec_eq, step_line (by omega) body _ (by omega)]
      dsimp only
      rw [if_neg (by omega)]
      have d1 : (hexL k ++ 13 :: 10 :: (s.take k ++ 13 :: 10 :: (encL n size (s.drop k) ++ rest))).drop ((hexL k).length + 2) = s.take k ++ 13 :: 10 :: (encL n size (s.drop k) ++ rest) := by
        rw [show hexL k ++ 13 :: 10 :: (s.take k ++ 13 :: 10 :: (encL n size (s.drop k) ++ rest)) = (hexL k ++ [13, 10]) ++ (s.take k ++ 13 :: 10 :: (encL n size (s.drop k) ++ rest)) by simp, List.drop_left' (by simp)]
      rw [d1, dec_eq, step_data, if_neg (by simp only [List.length_append, List.length_cons, htk]; omega), List.drop_left' htk, atEnd_ok, List.take_left' htk]
      dsimp only
      have d2 : (s.take k ++ 13 :: 10 :: (encL n size (s.drop k) ++ rest)).drop (k + 2) = encL n size (s.drop k) ++ rest := by
        rw [show s.take k ++ 13 :: 10 :: (encL n size (s.drop k) ++ rest) = (s.take k ++ [13, 10]) ++ (encL n size (s.drop k) ++ rest) by simp, List.drop_left' (by simp only [List.length_append, List.length_cons, List.length_nil, htk])]
      rw [d2, dec_enc size hs rest n (s.drop k) (body ++ s.take k) (by rw [List.length_drop]; omega) (by rw [List.length_append, htk, List.length_drop]; omega), List.append_assoc, List.take_append_drop]
end Ck
end Go.Proofs.YtoalfjkbgeiggaaDoor
