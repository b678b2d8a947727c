/- msg: what is written is read; a proper beginning is too short; what is read is written. -/
import Derived.Test.YtoalfjkbgeiggaaGreatDoorZMsgP
namespace Go.Proofs.YtoalfjkbgeiggaaGreatDoor
set_option maxRecDepth 20000
open Go.RowKit
open Ck
namespace Ms
open Bd Ln
/-- Fields and a body, written. -/
def writeF (req : Bool) (m : ByteArray) (code : Int) (l : List Fp) (text : List UInt8) : Except Int (List UInt8) :=
  if chkAll l ≠ 0 then .error (chkAll l)
  else if (kindF req m code l).2.2 ≠ 0 then .error (kindF req m code l).2.2
  else if ((kindF req m code l).1 = 1 ∧ text ≠ []) ∨ ((kindF req m code l).1 = 2 ∧ (text.length : Int) ≠ (kindF req m code l).2.1) then .error 10
  else if (kindF req m code l).1 = 4 ∧ 5000 < text.length then .error 2
  else if (kindF req m code l).1 = 3 then (if 5000 < text.length then .error 2 else .ok (printF l ++ encL text.length 64 text))
  else .ok (printF l ++ text)
def writeR (m t : ByteArray) (l : List Fp) (text : List UInt8) : Except Int (List UInt8) :=
  if isM m = true ∧ isT t = true then (match writeF true m 0 l text with
    | .error c => .error c
    | .ok x => .ok (reqL (sl m) (sl t) ++ [13, 10] ++ x))
  else .error 3
theorem chkAll_good {l : List Fp} (h : chkAll l = 0) : (∀ f ∈ l, GoodF f) ∧ l.length ≤ 30 := by
  unfold chkAll at h
  split at h
  · cases h
  · exact ⟨(chkL_good l).1 h, by omega⟩
theorem good_chkAll {l : List Fp} (h : ∀ f ∈ l, GoodF f) (h30 : l.length ≤ 30) : chkAll l = 0 := by
  unfold chkAll
  rw [if_neg (by omega)]
  exact (chkL_good l).2 h
theorem parseA_print {l : List Fp} (h : ∀ f ∈ l, GoodF f) (h30 : l.length ≤ 30) (rest : List UInt8) : parseA (printF l ++ rest) = .ok (l, rest) :=
  parse_print l 0 _ rest h (by omega) (Nat.le_refl _)
theorem readF_write {req : Bool} {m : ByteArray} {code : Int} {l : List Fp} {text x : List UInt8} (h : writeF req m code l text = .ok x) (rest : List UInt8) (h4 : (kindF req m code l).1 = 4 → rest = []) : readF req m code (x ++ rest) = .ok (l, text, x.length) := by
  unfold writeF at h
  split at h
  · cases h
  · rename_i hc
    obtain ⟨hg, h30⟩ := chkAll_good (Classical.not_not.1 hc)
    obtain ⟨k, n, e, hk, hin⟩ := kindF_in req m code l
    rw [hk] at h h4
    dsimp only at h h4
    unfold readF
    split at h
    · cases h
    · rename_i he
      have he0 : e = 0 := Classical.not_not.1 he
      split at h
      · cases h
      · rename_i hno
        split at h
        · cases h
        · rename_i hno4
          split at h
          · rename_i h3
            split at h
            · cases h
            · rename_i hlen
              injection h with h
              subst h
              have hd := dec_enc 64 (by omega) rest text.length text [] (Nat.le_refl _) (by simp; omega)
              rw [List.append_assoc, parseA_print hg h30]
              dsimp only
              rw [hk]
              dsimp only
              rw [if_neg he, if_neg (by omega), if_neg (by omega), if_pos h3, hd]
              dsimp only
              rw [List.nil_append]
              congr 3
              simp only [List.length_append]
              omega
          · rename_i h3
            injection h with h
            subst h
            rw [List.append_assoc, parseA_print hg h30]
            dsimp only
            rw [hk]
            dsimp only
            rw [if_neg he]
            by_cases h2 : k = 2
            · have hn : (text.length : Int) = n := by
                by_cases hn : (text.length : Int) = n
                · exact hn
                · exact absurd (.inr ⟨h2, hn⟩) hno
              have hnn : n.toNat = text.length := by omega
              rw [if_pos h2, if_neg (by rw [List.length_append]; omega), hnn, List.take_left' rfl]
              congr 3
              simp only [List.length_append]
              omega
            · rw [if_neg h2]
              by_cases h44 : k = 4
              · have hr := h4 h44
                subst hr
                rw [if_pos h44, if_neg (by rw [List.append_nil]; omega), List.append_nil]
              · rw [if_neg h44, if_neg h3]
                have h1 : k = 1 := by omega
                have ht : text = [] := by
                  by_cases ht : text = []
                  · exact ht
                  · exact absurd (.inl ⟨h1, ht⟩) hno
                subst ht
                congr 3
                simp only [List.length_append, List.nil_append, List.append_nil]
                omega
/-- MsgBack. -/
theorem readR_write {m t : ByteArray} {l : List Fp} {text x : List UInt8} (h : writeR m t l text = .ok x) (rest : List UInt8) : readR (x ++ rest) = .ok (m, t, l, text, x.length) := by
  unfold writeR at h
  split at h
  · rename_i hmt
    split at h
    · cases h
    · rename_i y hy
      injection h with h
      subst h
      have hb := line_back hmt.1 hmt.2 (y ++ rest)
      have e : reqL (sl m) (sl t) ++ [13, 10] ++ y ++ rest = reqL (sl m) (sl t) ++ 13 :: 10 :: (y ++ rest) := by simp
      unfold readR
      rw [e, hb]
      dsimp only
      have hl : ((m.size : Int) + t.size + 12).toNat = (reqL (sl m) (sl t)).length + 2 := by rw [req_len, sl_len, sl_len]; omega
      have hd : (reqL (sl m) (sl t) ++ 13 :: 10 :: (y ++ rest)).drop ((reqL (sl m) (sl t)).length + 2) = y ++ rest := by
        rw [List.drop_append, List.drop_of_length_le (by omega), List.nil_append, Nat.add_sub_cancel_left]
        rfl
      rw [if_neg (by simp), hl, hd, readF_write hy rest (fun h4 => by
        obtain ⟨k, n, e, hk, hin⟩ := kindF_in true m 0 l
        rw [hk] at h4
        rcases hin with h | ⟨_, _, h | h | ⟨_, h⟩⟩ | h
        · dsimp only at h4; omega
        · dsimp only at h4; omega
        · dsimp only at h4; omega
        · cases h
        · dsimp only at h4; omega)]
      dsimp only
      congr 4
      try simp only [List.length_append, List.length_cons, List.length_nil]
      try omega
  · cases h
theorem readF_len {req : Bool} {m : ByteArray} {code : Int} {s : List UInt8} {l : List Fp} {b : List UInt8} {n : Nat} (h : readF req m code s = .ok (l, b, n)) : n ≤ s.length := by
  unfold readF at h
  split at h
  · cases h
  · rename_i l' r hp
    have hlen : r.length ≤ s.length := parseA_len _ _ hp
    split at h
    · cases h
    · split at h
      · split at h
        · cases h
        · injection h with h; injection h with _ h; injection h with _ h; omega
      · split at h
        · split at h
          · cases h
          · injection h with h; injection h with _ h; injection h with _ h; omega
        · split at h
          · split at h
            · cases h
            · cases h
            · injection h with h; injection h with _ h; injection h with _ h; omega
          · injection h with h; injection h with _ h; injection h with _ h; omega
theorem readR_len {s : List UInt8} {m t : ByteArray} {l : List Fp} {b : List UInt8} {n : Nat} (h : readR s = .ok (m, t, l, b, n)) : n ≤ s.length := by
  unfold readR at h
  split at h
  · cases h
  · rename_i h0
    have hat := (parseR_at (Classical.not_not.1 h0)).1
    split at h
    · cases h
    · rename_i l' b' n' hf
      injection h with h
      injection h with _ h; injection h with _ h; injection h with _ h; injection h with _ h
      have := readF_len hf
      rw [List.length_drop] at this
      omega
/-- MsgShort. -/
theorem readR_short {m t : ByteArray} {l : List Fp} {text x : List UInt8} (h : writeR m t l text = .ok x) {k : Nat} (hk : k < x.length) : readR (x.take k) = .error 8 := by
  have hw := readR_write h []
  rw [List.append_nil] at hw
  have hm := readR_more (x.take k) (x.drop k)
  rw [List.take_append_drop, hw] at hm
  cases hr : readR (x.take k) with
  | ok y =>
    obtain ⟨m', t', l', b', n'⟩ := y
    rw [hr] at hm
    dsimp only at hm
    injection hm with hm
    injection hm with _ hm; injection hm with _ hm; injection hm with _ hm; injection hm with _ hm
    have := readR_len hr
    rw [List.length_take] at this
    omega
  | error c =>
    rw [hr] at hm
    dsimp only at hm
    by_cases h8 : c = 8
    · rw [h8]
    · have := hm h8
      cases this
/-! ### What is read is written. -/
theorem run_body : ∀ (n : Nat) (st : St) (b s b' r : List UInt8), b.length ≤ 5000 → (∀ k, st = .data k → b.length + k ≤ 5000) → run n st b s = .done b' r → b'.length ≤ 5000
  | 0, st, b, s, b', r, _, _, h => by simp [run] at h
  | n + 1, st, b, s, b', r, hb, hk, h => by
    rw [run] at h
    cases hst : Ck.step st b s with
    | short => rw [hst] at h; cases h
    | err c => rw [hst] at h; cases h
    | fin k => rw [hst] at h; injection h with h1 h2; subst h1; exact hb
    | go k st2 b2 =>
      rw [hst] at h
      have key : b2.length ≤ 5000 ∧ ∀ k, st2 = .data k → b2.length + k ≤ 5000 := by
        cases st with
        | head =>
          rw [step_head] at hst
          split at hst
          · cases hst
          · split at hst
            · unfold atEnd at hst; split at hst <;> cases hst
            · unfold atEnd at hst
              split at hst
              · cases hst
              · cases hst
              · injection hst with h1 h2 h3
                subst h3
                refine ⟨hb, fun k' hk' => ?_⟩
                rw [← h2] at hk'
                split at hk'
                · cases hk'
                · injection hk' with hk'; omega
              · cases hst
        | data left =>
          have := hk left rfl
          rw [step_data] at hst
          split at hst
          · cases hst
          · unfold atEnd at hst
            split at hst
            · cases hst
            · cases hst
            · injection hst with h1 h2 h3
              subst h2 h3
              refine ⟨by rw [List.length_append, List.length_take]; omega, fun k' hk' => by cases hk'⟩
            · cases hst
        | trailer =>
          rw [step_trailer] at hst
          split at hst
          · split at hst <;> cases hst
          · cases hst
      exact run_body n _ _ _ _ _ key.1 key.2 h
theorem dec_body {s b r : List UInt8} (h : dec .head [] s = .done b r) : b.length ≤ 5000 := run_body _ _ _ _ _ _ (by simp) (fun k hk => by cases hk) h
theorem writeF_read {req : Bool} {m : ByteArray} {code : Int} {s : List UInt8} {l : List Fp} {b : List UInt8} {n : Nat} (h : readF req m code s = .ok (l, b, n)) : ∃ x, writeF req m code l b = .ok x := by
  unfold readF at h
  split at h
  · cases h
  · rename_i l' r hp
    obtain ⟨hg, h30, -⟩ := parse_good _ _ _ _ _ (by omega) hp
    have hchk := good_chkAll hg (by omega)
    obtain ⟨k, nn, e, hk, hin⟩ := kindF_in req m code l'
    rw [hk] at h
    dsimp only at h
    split at h
    · cases h
    · rename_i he
      have fin : ∀ b : List UInt8, ¬ ((k = 1 ∧ b ≠ []) ∨ (k = 2 ∧ (b.length : Int) ≠ nn)) → ¬ (k = 4 ∧ 5000 < b.length) → (k = 3 → b.length ≤ 5000) → ∃ x, writeF req m code l' b = .ok x := by
        intro b h1 h2 h3
        unfold writeF
        rw [hk]
        dsimp only
        rw [if_neg (Classical.not_not.2 hchk), if_neg he, if_neg h1, if_neg h2]
        by_cases hk3 : k = 3
        · rw [if_pos hk3, if_neg (by have := h3 hk3; omega)]
          exact ⟨_, rfl⟩
        · rw [if_neg hk3]
          exact ⟨_, rfl⟩
      split at h
      · rename_i h2
        split at h
        · cases h
        · rename_i hr
          injection h with h; injection h with hl h; injection h with hb _
          subst hl hb
          refine fin _ (fun h => ?_) (fun h => by omega) (fun h => by omega)
          rcases h with ⟨h, _⟩ | ⟨_, h⟩
          · omega
          · apply h
            rw [List.length_take]
            have : 0 ≤ nn := by omega
            omega
      · rename_i h2
        split at h
        · rename_i h4
          split at h
          · cases h
          · rename_i hr
            injection h with h; injection h with hl h; injection h with hb _
            subst hl hb
            exact fin _ (fun h => by omega) (fun h => hr h.2) (fun h => by omega)
        · rename_i h4
          split at h
          · rename_i h3
            split at h
            · cases h
            · cases h
            · rename_i b' r' hd
              injection h with h; injection h with hl h; injection h with hb _
              subst hl hb
              exact fin _ (fun h => by omega) (fun h => by omega) (fun _ => dec_body hd)
          · rename_i h3
            injection h with h; injection h with hl h; injection h with hb _
            subst hl hb
            exact fin _ (fun h => h.elim (fun h => h.2 rfl) (fun h => h2 h.1)) (fun h => h4 h.1) (fun h => absurd h h3)
/-- MsgAgain. -/
theorem writeR_read {s : List UInt8} {m t : ByteArray} {l : List Fp} {b : List UInt8} {n : Nat} (h : readR s = .ok (m, t, l, b, n)) : ∃ x, writeR m t l b = .ok x := by
  unfold readR at h
  rcases parse_cases s with ⟨c, hc, hp⟩ | ⟨m', t', r, hm, ht, -, hp⟩
  · rw [hp] at h
    dsimp only at h
    rw [if_pos hc] at h
    cases h
  · rw [hp] at h
    dsimp only at h
    rw [if_neg (by simp)] at h
    split at h
    · cases h
    · rename_i l' b' n' hf
      injection h with h
      injection h with h1 h; injection h with h2 h; injection h with h3 h; injection h with h4 h
      subst h1 h2 h3 h4
      obtain ⟨x, hx⟩ := writeF_read hf
      exact ⟨_, by unfold writeR; rw [if_pos ⟨hm, ht⟩, hx]⟩
end Ms
end Go.Proofs.YtoalfjkbgeiggaaGreatDoor
