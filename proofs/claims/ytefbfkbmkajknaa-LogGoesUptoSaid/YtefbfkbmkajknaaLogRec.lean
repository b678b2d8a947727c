/- The plain law of the journal: frames written are recovered; what is torn or spoilt ends it. -/
import Derived.Test.YtefbfkbmkajknaaLogMath
namespace Go.Proofs.Ytefbfkbmkajknaa
namespace Lg
def nb (n : Nat) : UInt8 := UInt8.ofNat n
def be4 (n : Nat) : List UInt8 := [nb (n / 16777216), nb (n / 65536), nb (n / 256), nb n]
def le4 (n : Nat) : List UInt8 := [nb n, nb (n / 256), nb (n / 65536), nb (n / 16777216)]
def hd4 (n : Nat) : List UInt8 := [nb (n / 256), nb n, nb (255 - n / 256 % 256), nb (255 - n % 256)]
def fcrc (k : Nat) (s : List UInt8) : Nat := crc (be4 k ++ s)
def frame (k : Nat) (s : List UInt8) : List UInt8 := hd4 s.length ++ s ++ le4 (fcrc k s)
theorem nb_toNat (n : Nat) : (nb n).toNat = n % 256 := by simp [nb]
theorem nb_eq {a b : Nat} : nb a = nb b ↔ a % 256 = b % 256 := by
  rw [← UInt8.toNat_inj, nb_toNat, nb_toNat]
theorem frame_len (k : Nat) (s : List UInt8) : (frame k s).length = s.length + 8 := by simp [frame, hd4, le4]
theorem crc_lt (l : List UInt8) : crc l < 4294967296 := by unfold crc; omega
theorem le4_inj {a b : Nat} (ha : a < 4294967296) (hb : b < 4294967296) (h : le4 a = le4 b) : a = b := by
  simp only [le4, List.cons.injEq, nb_eq, and_true] at h
  omega
/-- The length that a head says. -/
def len2 : List UInt8 → Nat
  | a :: b :: _ => a.toNat * 256 + b.toNat
  | _ => 0
/-- The next record of what is there, if it is whole. -/
def rec1 (k : Nat) (rest : List UInt8) : Option (List UInt8) :=
  if rest.length < 4 then none
  else if rest.length < 8 + len2 rest then none
  else if len2 rest ≤ 1000 ∧ frame k ((rest.drop 4).take (len2 rest)) = rest.take (8 + len2 rest) then some ((rest.drop 4).take (len2 rest))
  else none
theorem rec1_len {k : Nat} {rest b : List UInt8} (h : rec1 k rest = some b) : 8 + b.length ≤ rest.length ∧ b.length ≤ 1000 ∧ rest.take (8 + b.length) = frame k b ∧ b = (rest.drop 4).take (len2 rest) ∧ b.length = len2 rest := by
  unfold rec1 at h
  split at h
  · cases h
  · split at h
    · cases h
    · split at h
      · rename_i h1 h2 h3
        obtain rfl : (rest.drop 4).take (len2 rest) = b := by injection h
        have hl : ((rest.drop 4).take (len2 rest)).length = len2 rest := by simp; omega
        exact ⟨by omega, by omega, by rw [hl]; exact h3.2.symm, rfl, hl⟩
      · cases h
/-- All records from the k-th one on, and how many bytes they take. -/
def recAll (k : Nat) (rest : List UInt8) : List (List UInt8) × Nat :=
  match h : rec1 k rest with
  | none => ([], 0)
  | some b => (b :: (recAll (k + 1) (rest.drop (8 + b.length))).1, (8 + b.length) + (recAll (k + 1) (rest.drop (8 + b.length))).2)
termination_by rest.length
decreasing_by all_goals (have := rec1_len h; simp; omega)
theorem recAll_none {k : Nat} {rest : List UInt8} (h : rec1 k rest = none) : recAll k rest = ([], 0) := by
  rw [recAll]; split
  · rfl
  · rename_i h1; rw [h] at h1; cases h1
theorem recAll_some {k : Nat} {rest b : List UInt8} (h : rec1 k rest = some b) : recAll k rest = (b :: (recAll (k + 1) (rest.drop (8 + b.length))).1, (8 + b.length) + (recAll (k + 1) (rest.drop (8 + b.length))).2) := by
  rw [recAll]; split
  · rename_i h1; rw [h] at h1; cases h1
  · rename_i b' h1; rw [h] at h1; injection h1 with h1; subst h1; rfl
def writeL (k : Nat) : List (List UInt8) → List UInt8
  | [] => []
  | s :: l => frame k s ++ writeL (k + 1) l
theorem len2_frame (k : Nat) (s rest : List UInt8) (h : s.length ≤ 1000) : len2 (frame k s ++ rest) = s.length := by
  simp only [frame, hd4, List.cons_append, len2, nb_toNat]; omega
theorem rec1_frame (k : Nat) (s rest : List UInt8) (h : s.length ≤ 1000) : rec1 k (frame k s ++ rest) = some s := by
  have hl := frame_len k s
  have hb : ((frame k s ++ rest).drop 4).take s.length = s := by simp [frame, hd4]
  unfold rec1
  rw [len2_frame k s rest h, hb, if_neg (by rw [List.length_append]; omega), if_neg (by rw [List.length_append]; omega), if_pos]
  refine ⟨h, ?_⟩
  rw [show 8 + s.length = (frame k s).length from by omega, List.take_left']
  rfl
theorem recAll_cons (k : Nat) (s rest : List UInt8) (h : s.length ≤ 1000) : recAll k (frame k s ++ rest) = (s :: (recAll (k + 1) rest).1, (frame k s).length + (recAll (k + 1) rest).2) := by
  have hl := frame_len k s
  rw [recAll_some (rec1_frame k s rest h), show 8 + s.length = (frame k s).length from by omega, List.drop_left']
  rfl
theorem recAll_write : ∀ (l : List (List UInt8)) (k : Nat) (rest : List UInt8), (∀ s ∈ l, s.length ≤ 1000) → recAll k (writeL k l ++ rest) = (l ++ (recAll (k + l.length) rest).1, (writeL k l).length + (recAll (k + l.length) rest).2)
  | [], k, rest, _ => by simp [writeL]
  | s :: l, k, rest, h => by
    rw [writeL, List.append_assoc, recAll_cons k s _ (h s (by simp)), recAll_write l (k + 1) rest (fun x hx => h x (by simp [hx]))]
    simp only [List.length_cons, List.length_append, List.cons_append, show k + 1 + l.length = k + (l.length + 1) from by omega]
    rw [Nat.add_assoc]
theorem rec1_short (k : Nat) (rest : List UInt8) (h : rest.length < 4) : rec1 k rest = none := by unfold rec1; rw [if_pos h]
theorem recAll_back (l : List (List UInt8)) (h : ∀ s ∈ l, s.length ≤ 1000) : recAll 0 (writeL 0 l) = (l, (writeL 0 l).length) := by
  have := recAll_write l 0 [] h
  rw [List.append_nil, recAll_none (rec1_short _ [] (by simp))] at this
  simpa using this
/-! ### The end torn off. -/
/-- How many frames, from the k-th on, lie whole within the first 'at' bytes; and their bytes. -/
def whole (k : Nat) : List (List UInt8) → Nat → Nat × Nat
  | [], _ => (0, 0)
  | s :: l, at_ => if at_ < (frame k s).length then (0, 0) else ((whole (k + 1) l (at_ - (frame k s).length)).1 + 1, (frame k s).length + (whole (k + 1) l (at_ - (frame k s).length)).2)
theorem rec1_torn (k : Nat) (s : List UInt8) (n : Nat) (hs : s.length ≤ 1000) (h : n < (frame k s).length) : rec1 k ((frame k s).take n) = none := by
  have hl := frame_len k s
  unfold rec1
  by_cases h4 : n < 4
  · rw [if_pos (by rw [List.length_take]; omega)]
  · have e : len2 ((frame k s).take n) = s.length := by
      obtain ⟨m, rfl⟩ : ∃ m, n = m + 2 := ⟨n - 2, by omega⟩
      simp only [frame, hd4, List.cons_append, List.take_succ_cons, len2, nb_toNat]; omega
    rw [e, if_neg (by rw [List.length_take]; omega), if_pos (by rw [List.length_take]; omega)]
theorem recAll_torn : ∀ (l : List (List UInt8)) (k n : Nat), (∀ s ∈ l, s.length ≤ 1000) → recAll k ((writeL k l).take n) = (l.take (whole k l n).1, (whole k l n).2)
  | [], k, n, _ => by simp [writeL, whole, recAll_none (rec1_short k [] (by simp))]
  | s :: l, k, n, h => by
    rw [writeL, whole]
    by_cases hn : n < (frame k s).length
    · rw [if_pos hn, List.take_append_of_le_length (by omega), recAll_none (rec1_torn k s n (h s (by simp)) hn)]
      simp
    · rw [if_neg hn, List.take_append, List.take_of_length_le (by omega), recAll_cons k s _ (h s (by simp)), recAll_torn l (k + 1) _ (fun x hx => h x (by simp [hx]))]
      simp
theorem whole_le : ∀ (l : List (List UInt8)) (k n : Nat), (whole k l n).1 ≤ l.length ∧ (whole k l n).2 ≤ n ∧ (whole k l n).2 ≤ (writeL k l).length
  | [], k, n => by simp [whole]
  | s :: l, k, n => by
    rw [whole]
    split
    · simp
    · have := whole_le l (k + 1) (n - (frame k s).length)
      simp only [List.length_cons, writeL, List.length_append]
      omega
theorem whole_write : ∀ (l : List (List UInt8)) (k n : Nat), (writeL k l).take (whole k l n).2 = writeL k (l.take (whole k l n).1)
  | [], k, n => by simp [whole, writeL]
  | s :: l, k, n => by
    rw [whole]
    split
    · simp [writeL]
    · simp only [List.take_succ_cons, writeL]
      rw [List.take_append, List.take_of_length_le (by omega), Nat.add_sub_cancel_left, whole_write l (k + 1) _]
/-! ### Bytes spoilt. -/
/-- The k-th byte and the one behind it, spoilt. -/
def spoil : List UInt8 → Nat → UInt8 → UInt8 → List UInt8
  | [], _, _, _ => []
  | x :: y :: t, 0, a, b => (x ^^^ a) :: (y ^^^ b) :: t
  | [x], 0, a, _ => [x ^^^ a]
  | x :: t, k + 1, a, b => x :: spoil t k a b
theorem spoil_right : ∀ (u v : List UInt8) (k : Nat) (a b : UInt8), spoil (u ++ v) (u.length + k) a b = u ++ spoil v k a b
  | [], v, k, a, b => by simp
  | x :: u, v, k, a, b => by
    rw [List.cons_append, List.length_cons, show u.length + 1 + k = (u.length + k) + 1 from by omega]
    simp only [spoil, spoil_right u v k a b, List.cons_append]
theorem spoil_len : ∀ (t : List UInt8) (k : Nat) (a b : UInt8), (spoil t k a b).length = t.length
  | [], _, _, _ => by simp [spoil]
  | [x], 0, a, _ => by simp [spoil]
  | x :: y :: t, 0, a, b => by simp [spoil]
  | x :: t, k + 1, a, b => by simp [spoil, spoil_len t k a b]
theorem xor_self_of {x a : UInt8} (h : x ^^^ a = x) : a = 0 := by
  have := congrArg (fun z => x ^^^ z) h
  simpa [← UInt8.xor_assoc] using this
theorem crc_inj {k l : List UInt8} (h : crc k = crc l) : reg 4294967295 k = reg 4294967295 l := by
  have h1 := reg_lt k (n := 4294967295) (by omega)
  have h2 := reg_lt l (n := 4294967295) (by omega)
  unfold crc at h; omega
theorem not_xor {z : Nat} (h : z < 4294967296) : 4294967295 - z = z ^^^ 4294967295 := by
  have e : (~~~ (BitVec.ofNat 32 z)).toNat = (BitVec.ofNat 32 z ^^^ BitVec.allOnes 32).toNat := by rw [BitVec.xor_allOnes]
  rw [BitVec.toNat_not, BitVec.toNat_xor, BitVec.toNat_ofNat, BitVec.toNat_allOnes, Nat.mod_eq_of_lt (by omega)] at e
  simpa using e
theorem crc_edge {p : List UInt8} {x a b : UInt8} (ha : a ≠ 0) : crc (p ++ [x ^^^ a]) ≠ crc (p ++ [x]) ^^^ b.toNat := by
  intro h
  have hp := reg_lt p (n := 4294967295) (by omega)
  have h1 := reg_lt (p ++ [x ^^^ a]) (n := 4294967295) (by omega)
  have h2 := reg_lt (p ++ [x]) (n := 4294967295) (by omega)
  unfold crc at h
  rw [not_xor h1, not_xor h2] at h
  refine reg_edge hp x a b ha ?_
  rw [← reg_append, ← reg_append]
  have := congrArg (fun z => z ^^^ 4294967295) h
  simp only [Nat.xor_assoc, Nat.xor_self, Nat.xor_zero] at this
  rw [this, Nat.xor_comm 4294967295, Nat.xor_assoc, Nat.xor_self, Nat.xor_zero]
theorem le4_head {c c' : Nat} {b : UInt8} (hc : c < 4294967296) (hc' : c' < 4294967296) (h : le4 c' = (nb c ^^^ b) :: (le4 c).tail) : c' = c ^^^ b.toNat := by
  simp only [le4, List.tail_cons, List.cons.injEq, nb_eq, and_true] at h
  obtain ⟨h0, h1, h2, h3⟩ := h
  have h0' : c' % 256 = (c % 256) ^^^ b.toNat := by
    have := congrArg UInt8.toNat h0
    rw [nb_toNat, UInt8.toNat_xor, nb_toNat] at this
    exact this
  have e : c ^^^ b.toNat = (c / 256) * 256 + ((c % 256) ^^^ b.toNat) := by
    have hb := byte_lt b
    have hx : (c % 256) ^^^ b.toNat < 2 ^ 8 := Nat.xor_lt_two_pow (by omega) (by omega)
    have hd : (c ^^^ b.toNat) / 256 = c / 256 := by
      rw [show (256 : Nat) = 2 ^ 8 from rfl, ← Nat.shiftRight_eq_div_pow, ← Nat.shiftRight_eq_div_pow, Nat.shiftRight_xor_distrib, Nat.shiftRight_eq_div_pow b.toNat, Nat.div_eq_of_lt (by omega), Nat.xor_zero]
    have hm : (c ^^^ b.toNat) % 256 = (c % 256) ^^^ b.toNat := by
      have : (c ^^^ b.toNat) % 2 ^ 8 = (c % 2 ^ 8) ^^^ (b.toNat % 2 ^ 8) := Nat.xor_mod_two_pow
      rw [Nat.mod_eq_of_lt (show b.toNat < 2 ^ 8 by omega)] at this
      exact this
    have := Nat.div_add_mod (c ^^^ b.toNat) 256
    rw [hd, hm] at this
    omega
  rw [e, ← h0']
  omega
theorem rec1_spoilt (k : Nat) (s rest : List UInt8) (n : Nat) (a b : UInt8) (hs : s.length ≤ 1000) (ha : a ≠ 0) (hn : n < (frame k s).length) : rec1 k (spoil (frame k s ++ rest) n a b) = none := by
  cases hr : rec1 k (spoil (frame k s ++ rest) n a b) with
  | none => rfl
  | some g =>
    exfalso
    obtain ⟨g1, g2, g3, g4, g5⟩ := rec1_len hr
    have hfl := frame_len k s
    generalize hF : spoil (frame k s ++ rest) n a b = F at *
    have hs' := Nat.lt_of_le_of_lt hs (by omega : 1000 < 65536)
    by_cases h4 : n < 4
    · -- the head
      have h3 : F.take 4 = hd4 g.length := by
        have := congrArg (List.take 4) g3
        rw [List.take_take, Nat.min_eq_left (by omega)] at this
        rw [this]; simp [frame, hd4]
      subst hF
      have hn4 : n = 0 ∨ n = 1 ∨ n = 2 ∨ n = 3 := by omega
      rcases hn4 with rfl | rfl | rfl | rfl
      · simp only [frame, hd4, List.cons_append, List.nil_append, List.append_assoc, spoil, List.take_succ_cons, List.take_zero, List.cons.injEq, nb_eq, and_true] at h3
        obtain ⟨e0, e1, e2, e3⟩ := h3
        refine ha (xor_self_of (e0.trans (nb_eq.2 ?_))); omega
      · simp only [frame, hd4, List.cons_append, List.nil_append, List.append_assoc, spoil, List.take_succ_cons, List.take_zero, List.cons.injEq, nb_eq, and_true] at h3
        obtain ⟨e0, e1, e2, e3⟩ := h3
        refine ha (xor_self_of (e1.trans (nb_eq.2 ?_))); omega
      · simp only [frame, hd4, List.cons_append, List.nil_append, List.append_assoc, spoil, List.take_succ_cons, List.take_zero, List.cons.injEq, nb_eq, and_true] at h3
        obtain ⟨e0, e1, e2, e3⟩ := h3
        refine ha (xor_self_of (e2.trans (nb_eq.2 ?_))); omega
      · obtain ⟨z, zs, hz⟩ : ∃ z zs, s ++ (le4 (fcrc k s) ++ rest) = z :: zs := by cases s <;> exact ⟨_, _, rfl⟩
        simp only [frame, hd4, List.cons_append, List.nil_append, List.append_assoc] at h3
        rw [hz] at h3
        simp only [spoil, List.take_succ_cons, List.take_zero, List.cons.injEq, nb_eq, and_true] at h3
        obtain ⟨e0, e1, e2, e3⟩ := h3
        refine ha (xor_self_of (e3.trans (nb_eq.2 ?_))); omega
    · obtain ⟨m, rfl⟩ : ∃ m, n = 4 + m := ⟨n - 4, by omega⟩
      have hFs : F = hd4 s.length ++ spoil (s ++ (le4 (fcrc k s) ++ rest)) m a b := by
        rw [← hF, frame, show 4 + m = (hd4 s.length).length + m from rfl, List.append_assoc, List.append_assoc, spoil_right]
      have hlen : g.length = s.length := by
        rw [g5, hFs]
        simp only [hd4, List.cons_append, len2, nb_toNat]; omega
      have h5 : (spoil (s ++ (le4 (fcrc k s) ++ rest)) m a b).take (s.length + 4) = g ++ le4 (fcrc k g) := by
        have := congrArg (List.drop 4) g3
        rw [hFs, hlen, show 8 + s.length = (hd4 s.length).length + (s.length + 4) from by simp [hd4]; omega, List.take_length_add_append] at this
        rw [frame, List.append_assoc] at this
        simpa [hd4] using this
      by_cases hm : m < s.length
      · -- in the body
        have hsp : s = s.take m ++ s[m] :: s.drop (m + 1) := by rw [← List.drop_eq_getElem_cons hm, List.take_append_drop]
        generalize hu : s.take m = u at hsp
        generalize hx : s[m] = x at hsp
        generalize hv : s.drop (m + 1) = v at hsp
        have hum : u.length = m := by rw [← hu]; simp; omega
        clear hu hx hv
        subst hsp
        subst hum
        cases v with
        | cons y v =>
          rw [List.append_assoc, show u.length = u.length + 0 from rfl, spoil_right] at h5
          simp only [List.cons_append, spoil] at h5
          rw [show u ++ (x ^^^ a) :: (y ^^^ b) :: (v ++ (le4 (fcrc k (u ++ x :: y :: v)) ++ rest)) = (u ++ (x ^^^ a) :: (y ^^^ b) :: v) ++ (le4 (fcrc k (u ++ x :: y :: v)) ++ rest) from by simp, List.take_append, List.take_of_length_le (by simp)] at h5
          obtain ⟨hg, hc⟩ := List.append_inj h5 (by rw [hlen]; simp)
          rw [show (u ++ x :: y :: v).length + 4 - (u ++ (x ^^^ a) :: (y ^^^ b) :: v).length = (le4 (fcrc k (u ++ x :: y :: v))).length from by simp [le4], List.take_left'] at hc
          · have := le4_inj (crc_lt _) (crc_lt _) hc
            rw [← hg] at this
            have := crc_inj this
            rw [show be4 k ++ (u ++ x :: y :: v) = ((be4 k ++ u) ++ [x, y]) ++ v from by simp, show be4 k ++ (u ++ (x ^^^ a) :: (y ^^^ b) :: v) = ((be4 k ++ u) ++ [x ^^^ a, y ^^^ b]) ++ v from by simp, reg_append, reg_append _ _ v] at this
            have h8 := reg_inj v (reg_lt _ (by omega)) (reg_lt _ (by omega)) this
            rw [reg_append, reg_append _ _ [x ^^^ a, y ^^^ b]] at h8
            exact reg_two (reg_lt _ (by omega)) x y a b ha h8.symm
          · rfl
        | nil =>
          rw [List.append_assoc, show u.length = u.length + 0 from rfl, spoil_right] at h5
          simp only [List.cons_append, le4, spoil, List.nil_append] at h5
          have e : u ++ (x ^^^ a) :: (nb (fcrc k (u ++ [x])) ^^^ b) :: nb (fcrc k (u ++ [x]) / 256) :: nb (fcrc k (u ++ [x]) / 65536) :: nb (fcrc k (u ++ [x]) / 16777216) :: rest = (u ++ [x ^^^ a]) ++ ([nb (fcrc k (u ++ [x])) ^^^ b, nb (fcrc k (u ++ [x]) / 256), nb (fcrc k (u ++ [x]) / 65536), nb (fcrc k (u ++ [x]) / 16777216)] ++ rest) := by simp
          rw [e] at h5
          rw [List.take_append, List.take_of_length_le (by simp)] at h5
          obtain ⟨hg, hc⟩ := List.append_inj h5 (by rw [hlen]; simp)
          rw [show (u ++ [x]).length + 4 - (u ++ [x ^^^ a]).length = 4 from by simp, List.take_append_of_le_length (by simp), List.take_of_length_le (by simp)] at hc
          have h6 := le4_head (c := fcrc k (u ++ [x])) (b := b) (crc_lt _) (crc_lt _) hc.symm
          rw [← hg] at h6
          unfold fcrc at h6
          rw [← List.append_assoc, ← List.append_assoc] at h6
          exact crc_edge ha h6
      · -- in the sum
        obtain ⟨j, rfl⟩ : ∃ j, m = s.length + j := ⟨m - s.length, by omega⟩
        rw [spoil_right, List.take_append, List.take_of_length_le (by omega)] at h5
        have hg := congrArg (List.take s.length) h5
        rw [List.take_left' rfl, List.take_left' hlen] at hg
        have hc := congrArg (List.drop s.length) h5
        rw [List.drop_left' rfl, List.drop_left' hlen, Nat.add_sub_cancel_left, ← hg] at hc
        have hj : j = 0 ∨ j = 1 ∨ j = 2 ∨ j = 3 := by omega
        rcases hj with rfl | rfl | rfl | rfl
        all_goals
          cases rest <;> simp only [le4, List.cons_append, List.nil_append, spoil, List.take_succ_cons, List.take_zero, List.cons.injEq] at hc
          all_goals
            first
              | exact ha (xor_self_of hc.1)
              | exact ha (xor_self_of hc.2.1)
              | exact ha (xor_self_of hc.2.2.1)
              | exact ha (xor_self_of hc.2.2.2.1)
theorem recAll_spoilt (a b : UInt8) (ha : a ≠ 0) : ∀ (l : List (List UInt8)) (k n : Nat), (∀ s ∈ l, s.length ≤ 1000) → n < (writeL k l).length → recAll k (spoil (writeL k l) n a b) = (l.take (whole k l n).1, (whole k l n).2)
  | [], k, n, _, hn => by simp [writeL] at hn
  | s :: l, k, n, h, hn => by
    rw [writeL, whole]
    by_cases hf : n < (frame k s).length
    · rw [if_pos hf, recAll_none (rec1_spoilt k s _ n a b (h s (by simp)) ha hf)]
      simp
    · obtain ⟨m, rfl⟩ : ∃ m, n = (frame k s).length + m := ⟨n - (frame k s).length, by omega⟩
      rw [writeL, List.length_append] at hn
      rw [if_neg hf, spoil_right, recAll_cons k s _ (h s (by simp)), Nat.add_sub_cancel_left, recAll_spoilt a b ha l (k + 1) m (fun x hx => h x (by simp [hx])) (by omega)]
      simp
end Lg
end Go.Proofs.Ytefbfkbmkajknaa
