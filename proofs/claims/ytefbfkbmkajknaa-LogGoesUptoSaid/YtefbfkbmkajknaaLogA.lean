/- What the journal's Crc computes. -/
import Derived.Test.YtefbfkbmkajknaaChecked
import Derived.Test.YtefbfkbmkajknaaBase
import Derived.Test.YtefbfkbmkajknaaLogRec
import Derived.Laws.BitsAllLaws
namespace Go.Proofs.Ytefbfkbmkajknaa
open Go.RowKit
theorem crc_in (N c : Nat) (hN : N < 4294967296) (hc : c < 256) : bits BinOp.xor IntKind.u32 (N : Int) (c : Int) = ((N ^^^ c : Nat) : Int) := u32_xor_nat N c hN (by omega)
theorem crc_step (m : Nat) (hm : m < 4294967296) : bits BinOp.xor IntKind.u32 ((m : Int) / 2) (bits BinOp.and IntKind.u32 (m : Int) 1 * 2197175160 % 4294967296) = ((Lg.step m : Nat) : Int) := by
  have h1 : bits BinOp.and IntKind.u32 (m : Int) 1 = ((m &&& 1 : Nat) : Int) := u32_and_nat m 1 hm (by omega)
  have h2 : (m &&& 1) * 2197175160 < 4294967296 := by rw [Nat.and_one_is_mod]; have := Nat.mod_lt m (y := 2) (by omega); omega
  have h3 : (m : Int) / (2 : Int) = ((m >>> 1 : Nat) : Int) := by rw [Nat.shiftRight_eq_div_pow]; show _ = ((m / 2 : Nat) : Int); omega
  rw [h1, show ((m &&& 1 : Nat) : Int) * 2197175160 % 4294967296 = (((m &&& 1) * 2197175160 : Nat) : Int) from by omega, h3]
  exact u32_xor_nat _ _ (by rw [Nat.shiftRight_eq_div_pow]; omega) h2
theorem crc_end (N : Nat) (hN : N < 4294967296) : bits BinOp.xor IntKind.u32 IntKind.u32.max (N : Int) = ((4294967295 - N : Nat) : Int) := by
  rw [Lg.not_xor hN, Nat.xor_comm]
  exact u32_xor_nat 4294967295 N (by omega) hN
set_option maxHeartbeats 800000 in
theorem crc_any (s : ByteArray) (w : World) (hs : s.size ≤ 140737488351232) :
    Calls Try.prog 15 #[.string s] w fun e w' => e = .returned (.int .u32 (Lg.crc (sl s) : Nat)) ∧ w = w' := by
  go_enter Try.func15, Try.ntmps15
  go_wp2_with fail
  go_loop [3, 4, 7] (fun n c i => ∃ k : Nat, k ≤ s.size ∧ i = .int .i64 k ∧ n = .int .u32 (Lg.reg 4294967295 ((sl s).take k) : Nat)) (fun _ _ i => s.size - (intOf i).toNat)
  case atStart => exact ⟨0, Nat.zero_le _, rfl, rfl⟩
  case round =>
    obtain ⟨k, hk, rfl, rfl⟩ := hrel
    have hn := Lg.reg_lt ((sl s).take k) (n := 4294967295) (by omega)
    generalize hN : Lg.reg 4294967295 ((sl s).take k) = N at hn
    have HN := Lib.hid hN
    clear hN
    by_cases hlt : k < s.size
    · have hb := Lg.byte_lt s[k]
      go_wp2
      go_loop [3, 16] (fun n j => ∃ i m : Nat, i ≤ 8 ∧ m < 4294967296 ∧ j = .int .i64 i ∧ n = .int .u32 m ∧ m = Lg.steps i (N ^^^ s[k].toNat)) (fun _ j => 8 - (intOf j).toNat)
      case atStart => exact ⟨0, N ^^^ s[k].toNat, by omega, Nat.xor_lt_two_pow (n := 32) hn (by omega), rfl, by rw [crc_in N _ hn hb], rfl⟩
      case round => 
        obtain ⟨i, m, hi, hm, rfl, rfl, hmm⟩ := hrel
        have HM := Lib.hid hmm
        clear hmm
        by_cases h8 : i < 8
        · go_wp2
          go_round
          case rel => exact ⟨i + 1, Lg.step m, by omega, Lg.step_lt hm, by go_num, by rw [crc_step m hm], by rw [HM.out]; rfl⟩
          case measure => simp [intOf]; omega
        · have hm8 : Hid (m = Lg.reg 4294967295 ((sl s).take (k + 1))) := by
            show _ = _
            rw [HM.out, show i = 8 from by omega, List.take_add_one, sl_getElem? s k hlt, Lg.reg_append, HN.out]; rfl
          go_wp2
          go_round
          case rel => exact ⟨k + 1, by omega, by go_num, by rw [hm8.out]⟩
          case measure => simp [intOf]; omega
    · have hE : Hid (4294967295 - N = Lg.crc (sl s)) := by
        show _ = _
        rw [← HN.out, List.take_of_length_le (by rw [sl_len]; omega)]; rfl
      go_wp2
      go_ret
      exact ⟨ret_int (by rw [crc_end N hn, hE.out]), rfl⟩
/-- LogKnown. -/
theorem logKnown_walk (w : World) :
    Calls Try.prog 3 #[] w fun e w' => e = .returned (.bool true) ∧ Below w.heap.size w w' := by
  have c1 : Lg.crc (sl ⟨#[49, 50, 51, 52, 53, 54, 55, 56, 57]⟩) = 3808858755 := by decide +kernel
  have c2 : Lg.crc (sl ⟨#[]⟩) = 0 := by decide +kernel
  have C1 := Lib.hid c1
  have C2 := Lib.hid c2
  clear c1 c2
  go_enter Try.func3, Try.ntmps3
  go_wp2_with fail
  refine (crc_any _ _ (by decide)).mono ?_
  rintro e w' ⟨rfl, rfl⟩
  rw [C1.out]
  go_wp2_with fail
  refine (crc_any _ _ (by decide)).mono ?_
  rintro e w' ⟨rfl, rfl⟩
  rw [C2.out]
  go_wp2_with fail
  go_ret
  exact ⟨rfl, Below.refl _ _⟩
end Go.Proofs.Ytefbfkbmkajknaa
