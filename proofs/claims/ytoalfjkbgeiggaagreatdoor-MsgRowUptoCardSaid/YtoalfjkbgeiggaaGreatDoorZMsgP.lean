/- msg: what is read and written, in plain words; what more bytes do; what is written is read. -/
import Derived.Test.YtoalfjkbgeiggaaGreatDoorZip3
import Derived.Test.YtoalfjkbgeiggaaGreatDoorZip4
import Derived.Test.YtoalfjkbgeiggaaGreatDoorZBodyB
namespace Go.Proofs.YtoalfjkbgeiggaaGreatDoor
set_option maxRecDepth 20000
open Go.RowKit
open Ck
namespace Ms
open Bd Ln
/-- Fields and a body, read: fields, text, how many bytes. -/
def readF (req : Bool) (m : ByteArray) (code : Int) (s : List UInt8) : Except Int (List Fp × List UInt8 × Nat) :=
  match parseA s with
  | .error c => .error c
  | .ok (l, r) =>
    if (kindF req m code l).2.2 ≠ 0 then .error (kindF req m code l).2.2
    else if (kindF req m code l).1 = 2 then (if (r.length : Int) < (kindF req m code l).2.1 then .error 8 else .ok (l, r.take (kindF req m code l).2.1.toNat, s.length - r.length + (kindF req m code l).2.1.toNat))
    else if (kindF req m code l).1 = 4 then (if 5000 < r.length then .error 2 else .ok (l, r, s.length))
    else if (kindF req m code l).1 = 3 then (match dec .head [] r with
      | .short _ _ _ => .error 8
      | .err c => .error c
      | .done b r' => .ok (l, b, s.length - r.length + (r.length - r'.length)))
    else .ok (l, [], s.length - r.length)
/-- A request, read: method, target, fields, text, how many bytes. -/
def readR (s : List UInt8) : Except Int (ByteArray × ByteArray × List Fp × List UInt8 × Nat) :=
  if (parseR s).2.2.2 ≠ 0 then .error (parseR s).2.2.2
  else match readF true (parseR s).1 0 (s.drop (parseR s).2.2.1.toNat) with
    | .error c => .error c
    | .ok (l, b, n) => .ok ((parseR s).1, (parseR s).2.1, l, b, (parseR s).2.2.1.toNat + n)
/-! ### More bytes. -/
theorem firstF_more {s a : List UInt8} (t : List UInt8) (h : firstF s = .ok a) : firstF (s ++ t) = .ok a := by
  unfold firstF at h ⊢
  cases hc : cutL2 s with
  | none => rw [hc] at h; dsimp only at h; split at h <;> cases h
  | some p =>
    obtain ⟨x, r⟩ := p
    rw [hc] at h
    rw [cutL2_more t hc]
    exact h
theorem firstF_err {s : List UInt8} {c : Int} (t : List UInt8) (h : firstF s = .error c) (h8 : c ≠ 8) : firstF (s ++ t) = .error c := by
  unfold firstF at h ⊢
  cases hc : cutL2 s with
  | some p =>
    obtain ⟨x, r⟩ := p
    rw [hc] at h
    rw [cutL2_more t hc]
    exact h
  | none =>
    rw [hc] at h
    dsimp only at h
    split at h
    · rename_i hlen
      injection h with h
      subst h
      cases hc2 : cutL2 (s ++ t) with
      | none => dsimp only; rw [if_pos (by rw [List.length_append]; omega)]
      | some p =>
        obtain ⟨a, r⟩ := p
        have := cutL2_far hc hc2
        dsimp only
        rw [if_pos (by omega)]
    · injection h with h; exact absurd h.symm h8
theorem firstF_code {s : List UInt8} {c : Int} (h : firstF s = .error c) : c = 2 ∨ c = 8 := by
  unfold firstF at h
  split at h
  · split at h <;> injection h with h <;> omega
  · split at h
    · injection h with h; omega
    · cases h
/-- What a request's line answers, in one of three ways. -/
theorem parseR_cases (s : List UInt8) : (∃ c, firstF s = .error c ∧ parseR s = (ByteArray.empty, ByteArray.empty, 0, c)) ∨ ∃ a, firstF s = .ok a ∧ ((∃ m t, parseR s = (m, t, (a.length : Int) + 2, 0)) ∨ parseR s = (ByteArray.empty, ByteArray.empty, 0, 3)) := by
  cases h : firstF s with
  | error c => exact .inl ⟨c, rfl, by unfold parseR; rw [h]⟩
  | ok a =>
    refine .inr ⟨a, rfl, ?_⟩
    unfold parseR
    rw [h]
    dsimp only
    split
    · split
      · exact .inl ⟨_, _, rfl⟩
      · exact .inr rfl
    · exact .inr rfl
theorem parseR_of {s s' : List UInt8} {a : List UInt8} (h : firstF s = .ok a) (h' : firstF s' = .ok a) : parseR s = parseR s' := by
  unfold parseR; rw [h, h']
theorem parseR_more {s : List UInt8} (t : List UInt8) (h : (parseR s).2.2.2 ≠ 8) : parseR (s ++ t) = parseR s := by
  rcases parseR_cases s with ⟨c, h1, h2⟩ | ⟨a, h1, -⟩
  · rw [h2] at h
    have h3 := firstF_err t h1 h
    rw [h2]; unfold parseR; rw [h3]
  · exact (parseR_of h1 (firstF_more t h1)).symm
theorem firstF_len {s a : List UInt8} (h : firstF s = .ok a) : a.length + 2 ≤ s.length := by
  unfold firstF at h
  split at h
  · split at h <;> cases h
  · rename_i x r hc
    split at h
    · cases h
    · injection h with h
      subst h
      have := cutL2_short hc
      omega
theorem parseR_at {s : List UInt8} (h : (parseR s).2.2.2 = 0) : (parseR s).2.2.1.toNat ≤ s.length ∧ 0 ≤ (parseR s).2.2.1 := by
  rcases parseR_cases s with ⟨c, h1, h2⟩ | ⟨a, h1, ⟨m, t, h2⟩ | h2⟩
  · rw [h2] at h
    have := firstF_code h1
    dsimp only at h
    omega
  · have := firstF_len h1
    rw [h2]
    dsimp only
    omega
  · rw [h2] at h; cases h
theorem readF_more {m : ByteArray} {s : List UInt8} (t : List UInt8) :
    match readF true m 0 s with
    | .ok x => readF true m 0 (s ++ t) = .ok x
    | .error c => c ≠ 8 → readF true m 0 (s ++ t) = .error c := by
  unfold readF
  cases hp : parseA s with
  | error c =>
    dsimp only
    intro h8
    rw [parseA_err t hp h8]
  | ok p =>
    obtain ⟨l, r⟩ := p
    have hlen : r.length ≤ s.length := parseA_len _ _ hp
    rw [parseA_more t hp]
    dsimp only
    have hL : (s ++ t).length - (r ++ t).length = s.length - r.length := by rw [List.length_append, List.length_append]; omega
    rw [hL]
    obtain ⟨k, n, e, hk, hin⟩ := kindF_in true m 0 l
    rw [hk]
    dsimp only
    by_cases he : e = 0
    · rw [if_neg (Classical.not_not.2 he), if_neg (Classical.not_not.2 he)]
      by_cases h2 : k = 2
      · rw [if_pos h2, if_pos h2]
        by_cases hr : (r.length : Int) < n
        · rw [if_pos hr]
          intro h8; exact absurd rfl h8
        · rw [if_neg hr, if_neg (by rw [List.length_append]; omega)]
          dsimp only
          rw [List.take_append_of_le_length (by omega)]
      · rw [if_neg h2, if_neg h2]
        have h4 : ¬ k = 4 := by
          rcases hin with h | ⟨_, _, h | h | ⟨_, h⟩⟩ | h
          · omega
          · omega
          · omega
          · cases h
          · omega
        rw [if_neg h4, if_neg h4]
        by_cases h3 : k = 3
        · rw [if_pos h3, if_pos h3]
          have hm := dec_more _ .head [] r t (Nat.le_refl _)
          cases hd : dec .head [] r with
          | short st b r' => dsimp only; intro h8; exact absurd rfl h8
          | err c => rw [hd] at hm; dsimp only at hm ⊢; intro _; rw [hm]
          | done b r' =>
            rw [hd] at hm
            dsimp only at hm ⊢
            rw [hm.1]
            dsimp only
            rw [List.length_append, List.length_append, Nat.add_sub_add_right]
        · rw [if_neg h3, if_neg h3]
    · rw [if_pos he, if_pos he]
      dsimp only
      intro _; rfl
/-- MsgPipe. -/
theorem readR_more (s t : List UInt8) :
    match readR s with
    | .ok x => readR (s ++ t) = .ok x
    | .error c => c ≠ 8 → readR (s ++ t) = .error c := by
  unfold readR
  by_cases h0 : (parseR s).2.2.2 = 0
  · have hat := (parseR_at h0).1
    rw [parseR_more t (by omega), if_neg (Classical.not_not.2 h0), if_neg (Classical.not_not.2 h0), List.drop_append_of_le_length hat]
    have hm := readF_more (m := (parseR s).1) (s := s.drop (parseR s).2.2.1.toNat) t
    cases hf : readF true (parseR s).1 0 (s.drop (parseR s).2.2.1.toNat) with
    | ok x =>
      obtain ⟨l, b, n⟩ := x
      rw [hf] at hm
      dsimp only at hm ⊢
      rw [hm]
    | error c =>
      rw [hf] at hm
      dsimp only at hm ⊢
      intro h8
      rw [hm h8]
  · rw [if_pos h0]
    dsimp only
    intro h8
    rw [parseR_more t h8, if_pos h0]
end Ms
end Go.Proofs.YtoalfjkbgeiggaaGreatDoor
