/- date's number: what it answers. -/
import Derived.Test.YtiijgbgknolmcaaDoorDatV
namespace Go.Proofs.YtiijgbgknolmcaaDoor
set_option maxRecDepth 20000
open Go.RowKit
namespace Dt
def numI (l : List UInt8) : Int := match num l 0 with | some k => (k : Int) | none => -1
theorem num_bound : ∀ (l : List UInt8) (n k : Nat), num l n = some k → k + 1 ≤ (n + 1) * 10 ^ l.length
  | [], n, k, h => by unfold num at h; injection h with h; subst h; simp
  | c :: l, n, k, h => by
    unfold num at h
    split at h
    · rename_i hc
      have ih := num_bound l _ k h
      have h57 : c.toNat ≤ 57 := hc.2
      rw [List.length_cons, Nat.pow_succ]
      refine Nat.le_trans ih ?_
      have : 10 * n + (c.toNat - 48) + 1 ≤ (n + 1) * 10 := by omega
      calc (10 * n + (c.toNat - 48) + 1) * 10 ^ l.length ≤ ((n + 1) * 10) * 10 ^ l.length := Nat.mul_le_mul_right _ this
        _ = (n + 1) * (10 ^ l.length * 10) := by rw [Nat.mul_assoc, Nat.mul_comm 10]
    · cases h
theorem numI_bound (l : List UInt8) (h : l.length ≤ 4) : -1 ≤ numI l ∧ numI l ≤ 9999 := by
  unfold numI
  cases hn : num l 0 with
  | none => simp
  | some k =>
    have := num_bound l 0 k hn
    have hp : 10 ^ l.length ≤ 10 ^ 4 := Nat.pow_le_pow_right (by omega) h
    simp only
    omega
theorem numI_bound2 (l : List UInt8) (h : l.length ≤ 2) : -1 ≤ numI l ∧ numI l ≤ 99 := by
  unfold numI
  cases hn : num l 0 with
  | none => simp
  | some k =>
    have := num_bound l 0 k hn
    have hp : 10 ^ l.length ≤ 10 ^ 2 := Nat.pow_le_pow_right (by omega) h
    simp only
    omega
end Dt
set_option maxHeartbeats 800000 in
theorem number_any (s : ByteArray) (w : World) (hs : s.size ≤ 4) :
    Calls Tryd.prog 79 #[.string s] w fun e w' => e = .returned (.int .i64 (Dt.numI (sl s))) ∧ w = w' := by
  go_enter Tryd.func79, Tryd.ntmps79
  go_wp2_with fail
  go_loop [3, 7] (fun n i => ∃ (j k : Nat), j ≤ s.size ∧ i = .int .i64 j ∧ n = .int .i64 k ∧ k < 10 ^ j ∧ Dt.num (sl s) 0 = Dt.num ((sl s).drop j) k) (fun _ i => s.size - (intOf i).toNat)
  case atStart => exact ⟨0, 0, by omega, rfl, rfl, by simp, rfl⟩
  case round =>
    obtain ⟨j, k, hj, rfl, rfl, hk, hn⟩ := hrel
    have HN := Lib.hid hn
    have hp : 10 ^ j ≤ 10 ^ 4 := Nat.pow_le_pow_right (by omega) (by omega)
    have hk4 : k < 10000 := by omega
    clear hn
    by_cases hlt : j < s.size
    · have hc := sl_getElem? s j hlt
      have hd : (sl s).drop j = s[j] :: (sl s).drop (j + 1) := by
        rw [List.drop_eq_getElem_cons (by rw [sl_len]; exact hlt), sl_getElem s j hlt]
      have HD := Lib.hid hd
      have hj1 : (j : Int) < (s.size : Int) := by omega
      clear hc hd
      obtain ⟨c, hc⟩ : ∃ c, s[j] = c := ⟨_, rfl⟩
      rw [hc] at HD
      have hcl := c.toNat_lt
      by_cases hdig : 48 ≤ c ∧ c ≤ 57
      · have h48 : 48 ≤ c.toNat := hdig.1
        have h57 : c.toNat ≤ 57 := hdig.2
        have HS : Hid (Dt.num (sl s) 0 = Dt.num ((sl s).drop (j + 1)) (10 * k + (c.toNat - 48))) := by
          show _ = _
          rw [HN.out, HD.out]
          show (if _ then _ else _) = _
          rw [if_pos hdig]
        have hpk : 10 * k + (c.toNat - 48) < 10 ^ (j + 1) := by rw [Nat.pow_succ]; omega
        have HPK := Lib.hid hpk
        have d1 : decide ((c.toNat : Int) < 48) = false := decide_eq_false (by omega)
        have d2 : decide ((57 : Int) < (c.toNat : Int)) = false := decide_eq_false (by omega)
        have d1' : decide (c.toNat < 48) = false := decide_eq_false (by omega)
        have d2' : decide (57 < c.toNat) = false := decide_eq_false (by omega)
        clear hdig hpk hp hk
        go_wp2_with fail
        go_round
        case rel => exact ⟨j + 1, 10 * k + (c.toNat - 48), by omega, by go_num, by go_num, HPK.out, HS.out⟩
        case measure => simp [intOf]; omega
      · have HS : Hid (Dt.numI (sl s) = -1) := by
          show _ = _
          unfold Dt.numI
          rw [HN.out, HD.out]
          have : Dt.num (c :: (sl s).drop (j + 1)) k = none := by
            show (if _ then _ else _) = _
            rw [if_neg hdig]
          rw [this]
        have hor : c.toNat < 48 ∨ 57 < c.toNat := by
          rcases Nat.lt_or_ge c.toNat 48 with h | h
          · exact .inl h
          · rcases Nat.lt_or_ge 57 c.toNat with h2 | h2
            · exact .inr h2
            · exact absurd ⟨h, h2⟩ hdig
        clear hdig hp hk
        rcases hor with h | h
        · have d1 : decide (c.toNat < 48) = true := decide_eq_true h
          go_wp2_with fail
          go_ret
          exact ⟨ret_int HS.out.symm, rfl⟩
        · have d1 : decide (c.toNat < 48) = false := decide_eq_false (by omega)
          have d2 : decide (57 < c.toNat) = true := decide_eq_true h
          go_wp2_with fail
          go_ret
          exact ⟨ret_int HS.out.symm, rfl⟩
    · have HS : Hid (Dt.numI (sl s) = (k : Int)) := by
        show _ = _
        unfold Dt.numI
        rw [HN.out, List.drop_of_length_le (by rw [sl_len]; omega)]
        rfl
      clear hp hk
      go_wp2_with fail
      go_ret
      exact ⟨ret_int HS.out.symm, rfl⟩
end Go.Proofs.YtiijgbgknolmcaaDoor
