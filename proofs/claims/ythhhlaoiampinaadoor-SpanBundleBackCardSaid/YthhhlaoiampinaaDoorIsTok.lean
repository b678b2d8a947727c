/- What token's isTokenByte and IsToken compute. -/
import Derived.Test.YthhhlaoiampinaaDoorShelf
import Derived.Test.YthhhlaoiampinaaDoorIdx
namespace Go.Proofs.YthhhlaoiampinaaDoor
open Go.RowKit
namespace Tok
def signs : List UInt8 := [33, 35, 36, 37, 38, 39, 42, 43, 45, 46, 94, 95, 96, 124, 126]
def alnum (c : UInt8) : Bool := (97 ≤ c && c ≤ 122) || (65 ≤ c && c ≤ 90) || (48 ≤ c && c ≤ 57)
def tokB (c : UInt8) : Bool := alnum c || signs.contains c
def isTok (s : ByteArray) : Bool := (sl s).all tokB && decide (0 < s.size)
end Tok
theorem alnum_iff (c : UInt8) : Tok.alnum c = true ↔ (97 ≤ (c.toNat : Int) ∧ (c.toNat : Int) ≤ 122) ∨ (65 ≤ (c.toNat : Int) ∧ (c.toNat : Int) ≤ 90) ∨ (48 ≤ (c.toNat : Int) ∧ (c.toNat : Int) ≤ 57) := by
  simp [Tok.alnum, u8_le]
  omega
set_option maxHeartbeats 800000 in
theorem isTokenByte_any (c : UInt8) (w : World) :
    Calls Tryd.prog 30 #[.int .u8 c.toNat] w fun e w' => e = .returned (.bool (Tok.tokB c)) ∧ w = w' := by
  have hb := c.toNat_lt
  cases ha : Tok.alnum c
  · have hn : ¬ _ := fun h => by have := (alnum_iff c).2 h; rw [ha] at this; cases this
    have hi : decide (0 ≤ Lib.indexByte Tok.signs c) = Tok.tokB c := by rw [indexByte_nn]; unfold Tok.tokB; rw [ha, Bool.false_or]
    have hc : (c.toNat : Int).toNat.toUInt8 = c := by simp
    have HI := Lib.hid (Tryd.strings_IndexByte ⟨Tok.signs.toArray⟩ (c.toNat : Int))
    rw [hc] at HI
    have HD := Lib.hid hi
    clear hc hi ha
    simp only [not_or, not_and, Int.not_le] at hn
    obtain ⟨n1, n2, n3⟩ := hn
    go_enter Tryd.func30, Tryd.ntmps30
    go_wp2_with ((go_at_call 47; refine (HI.out _).mono ?_); rintro e w' ⟨rfl, rfl⟩)
    all_goals
      first
        | (exfalso; omega)
        | (go_ret
           exact ⟨ret_bool HD.out, rfl⟩)
  · have hy := (alnum_iff c).1 ha
    have HT : Hid (Tok.tokB c = true) := by show _ = _; unfold Tok.tokB; rw [ha]; rfl
    clear ha
    go_enter Tryd.func30, Tryd.ntmps30
    go_wp2_with fail
    all_goals
      first
        | (exfalso; omega)
        | (go_ret
           exact ⟨ret_bool HT.out.symm, rfl⟩)
set_option maxHeartbeats 800000 in
theorem isToken_any (s : ByteArray) (w : World) (hs : s.size ≤ 9223372036854775807) :
    Calls Tryd.prog 14 #[.string s] w fun e w' => e = .returned (.bool (Tok.isTok s)) ∧ w = w' := by
  go_enter Tryd.func14, Tryd.ntmps14
  go_wp2_with fail
  go_loop [6] (fun i => ∃ k : Nat, k ≤ s.size ∧ i = .int .i64 k ∧ ((sl s).take k).all Tok.tokB = true) (fun i => s.size - (intOf i).toNat)
  case atStart => exact ⟨0, by omega, rfl, by simp⟩
  case round =>
    obtain ⟨k, hk, rfl, hall⟩ := hrel
    have HA := Lib.hid hall
    clear hall
    by_cases hlt : k < s.size
    · have HC := Lib.hid (sl_getElem? s k hlt)
      cases hq : Tok.tokB s[k]
      all_goals
        have HQ := Lib.hid hq
        have HI := Lib.hid (isTokenByte_any s[k])
        rw [hq] at HI
        clear hq
        go_wp2_with fail
        refine (HI.out _).mono ?_
        rintro e w' ⟨rfl, rfl⟩
        go_wp2_with fail
      · go_ret
        exact ⟨ret_bool (by unfold Tok.isTok; rw [all_false HC.out HQ.out]; rfl), rfl⟩
      · go_round
        case rel => exact ⟨k + 1, by omega, by go_num, all_take_succ HC.out HA.out HQ.out⟩
        case measure => simp [intOf]; omega
    · have HF : Hid ((!s.toList.isEmpty) = Tok.isTok s) := by
        show _ = _
        unfold Tok.isTok
        have := HA.out
        rw [List.take_of_length_le (by rw [sl_len]; omega)] at this
        rw [this, Bool.true_and, ba_toList]
        rcases Nat.eq_zero_or_pos s.size with h | h
        · rw [empty_of_size s h]; rfl
        · rw [sl_cons s h, decide_eq_true h]; rfl
      go_wp2_with fail
      go_ret
      exact ⟨ret_bool HF.out, rfl⟩
end Go.Proofs.YthhhlaoiampinaaDoor
