/- What the journal's Frame computes. -/
import Derived.Test.YtefbfkbmkajknaaLogA
import Derived.Test.YtefbfkbmkajknaaBytes
namespace Go.Proofs.Ytefbfkbmkajknaa
open Go.RowKit
set_option maxHeartbeats 800000 in
theorem frame_neg (s : ByteArray) (w : World) :
    Calls Try.prog 20 #[.int .i64 (-1), .string s] w fun e w' => e = .returned (.tuple #[.string ByteArray.empty, .int .i64 1]) ∧ w = w' := by
  go_enter Try.func20, Try.ntmps20
  go_wp2_with fail
  go_ret2
  exact ⟨rfl, rfl⟩
set_option maxHeartbeats 800000 in
theorem frame_large (n : Nat) (s : ByteArray) (w : World) (hn : n ≤ 2147483648) (hs : 1000 < s.size) (hs2 : s.size ≤ 140737488351232) :
    Calls Try.prog 20 #[.int .i64 n, .string s] w fun e w' => e = .returned (.tuple #[.string ByteArray.empty, .int .i64 2]) ∧ w = w' := by
  go_enter Try.func20, Try.ntmps20
  go_wp2_with fail
  go_ret2
  exact ⟨rfl, rfl⟩
theorem nbv (m : Nat) (x : Int) (h : ((m % 256 : Nat) : Int) = x) : Value.int .u8 x = bv (Lg.nb m) := by
  unfold bv; rw [Lg.nb_toNat, h]
theorem not_byte (m : Nat) (h : m < 256) : bits BinOp.xor IntKind.u8 IntKind.u8.max (m : Int) = ((255 - m : Nat) : Int) := by
  have e : bits BinOp.xor IntKind.u8 (255 : Nat) (m : Int) = ((255 ^^^ m : Nat) : Int) := u8_xor_nat 255 m (by omega) h
  have e2 : 255 - m = 255 ^^^ m := by
    have e : (~~~ (BitVec.ofNat 8 m)).toNat = (BitVec.ofNat 8 m ^^^ BitVec.allOnes 8).toNat := by rw [BitVec.xor_allOnes]
    rw [BitVec.toNat_not, BitVec.toNat_xor, BitVec.toNat_ofNat, BitVec.toNat_allOnes, Nat.mod_eq_of_lt (by omega)] at e
    rw [Nat.xor_comm]; simpa using e
  rw [e2]; exact e
theorem be4_cells (n : Nat) (hn : n ≤ 2147483648) : #[Value.int IntKind.u8 ((n : Int) / 16777216), Value.int IntKind.u8 ((n : Int) / 65536 % 256), Value.int IntKind.u8 ((n : Int) / 256 % 256), Value.int IntKind.u8 ((n : Int) % 256)] = #[bv (Lg.nb (n / 16777216)), bv (Lg.nb (n / 65536)), bv (Lg.nb (n / 256)), bv (Lg.nb n)] := by
  rw [nbv (n / 16777216) _ (by omega), nbv (n / 65536) _ (by omega), nbv (n / 256) _ (by omega), nbv n _ (by omega)]
theorem hd4_cells (m : Nat) (hm : m ≤ 1000) : #[Value.int IntKind.u8 ((m : Int) / 256), Value.int IntKind.u8 ((m : Int) % 256), Value.int IntKind.u8 (bits BinOp.xor IntKind.u8 IntKind.u8.max ((m : Int) / 256)), Value.int IntKind.u8 (bits BinOp.xor IntKind.u8 IntKind.u8.max ((m : Int) % 256))].toList = (Lg.hd4 m).flatMap eb := by
  have h1 : ((m : Int) / 256) = ((m / 256 : Nat) : Int) := by omega
  have h2 : ((m : Int) % 256) = ((m % 256 : Nat) : Int) := by omega
  rw [h1, h2, not_byte _ (by omega), not_byte _ (by omega), nbv (m / 256) _ (by omega), nbv m _ (by omega), nbv (255 - m / 256 % 256) _ (by omega), nbv (255 - m % 256) _ (by omega)]
  rfl
theorem le4_cells (C : Nat) (hC : C < 4294967296) : [Value.int IntKind.u8 ((C : Int) % 256), Value.int IntKind.u8 ((C : Int) / 256 % 256), Value.int IntKind.u8 ((C : Int) / 65536 % 256), Value.int IntKind.u8 ((C : Int) / 16777216)] = (Lg.le4 C).flatMap eb := by
  rw [nbv C _ (by omega), nbv (C / 256) _ (by omega), nbv (C / 65536) _ (by omega), nbv (C / 16777216) _ (by omega)]
  rfl
set_option maxRecDepth 100000 in
set_option maxHeartbeats 1600000 in
theorem frame_any (n : Nat) (s : ByteArray) (w : World) (hn : n ≤ 2147483648) (hs : s.size ≤ 1000) :
    Calls Try.prog 20 #[.int .i64 n, .string s] w fun e w' => e = .returned (.tuple #[.string (mkS (Lg.frame n (sl s))), .int .i64 0]) ∧ Below w.heap.size w w' := by
  obtain ⟨B, hB4, hB⟩ : ∃ B, B.size ≤ 4 ∧ mkS (Lg.be4 n) = B := ⟨_, Nat.le_refl 4, rfl⟩
  have hcv : ∀ A, Sem.run Try.prog (convert 37 9 (Value.slice (some ⟨w.heap.size + 1, 0, none⟩) 4 4)) ((w.alloc (.cells A 5)).alloc (.cells #[Value.int IntKind.u8 ((n : Int) / 16777216), Value.int IntKind.u8 ((n : Int) / 65536 % 256), Value.int IntKind.u8 ((n : Int) / 256 % 256), Value.int IntKind.u8 ((n : Int) % 256)] 5)) = .ok (.string B) ((w.alloc (.cells A 5)).alloc (.cells #[Value.int IntKind.u8 ((n : Int) / 16777216), Value.int IntKind.u8 ((n : Int) / 65536 % 256), Value.int IntKind.u8 ((n : Int) / 256 % 256), Value.int IntKind.u8 ((n : Int) % 256)] 5)) := by
    intro A
    rw [be4_cells n hn, ← hB]
    have := run_string_four Try.underlying37 Try.underlying5 Try.underlying9 (w.alloc (.cells A 5)) (Lg.nb (n / 16777216)) (Lg.nb (n / 65536)) (Lg.nb (n / 256)) (Lg.nb n)
    rw [World.size_alloc] at this
    exact this
  have hE : Lg.crc (sl (B ++ s)) = Lg.fcrc n (sl s) := by rw [← hB, sl_append, sl_mkS]; rfl
  have HE := Lib.hid hE
  have HB := Lib.hid hB
  have hz : (B ++ s).size ≤ 140737488351232 := by rw [ByteArray.size_append]; omega
  clear hE hB
  have d0 : decide ((n : Int) < 0) = false := by simp
  have d1 : decide (2147483648 < (n : Int)) = false := by simp; omega
  have d2 : decide (1000 < (s.size : Int)) = false := by simp; omega
  go_enter Try.func20, Try.ntmps20
  go_wp2_with fail
  refine (crc_any _ _ hz).mono ?_
  rintro e w' ⟨rfl, rfl⟩
  rw [HE.out]
  have hC : Lg.fcrc n (sl s) < 4294967296 := Lg.crc_lt _
  generalize hCe : Lg.fcrc n (sl s) = C at hC
  have HC := Lib.hid hCe
  clear hCe HE hz
  have o1 : ∀ A, Owns ((w.alloc (.cells #[Value.int IntKind.u8 ((s.size : Int) / 256), Value.int IntKind.u8 ((s.size : Int) % 256), Value.int IntKind.u8 (bits BinOp.xor IntKind.u8 IntKind.u8.max ((s.size : Int) / 256)), Value.int IntKind.u8 (bits BinOp.xor IntKind.u8 IntKind.u8.max ((s.size : Int) % 256))] 5)).alloc A) w.heap.size 5 1 eb (.slice (some ⟨w.heap.size, 0, none⟩) 4 4) (Lg.hd4 s.size) := fun A =>
    (Owns.lit (size := 1) (enc := eb) w w.heap.size _ (Lg.hd4 s.size) (Nat.le_refl _) (by simp [maxLen, Lg.hd4]) (by rfl) (hd4_cells s.size hs)).alloc A
  have O1 := Lib.hid o1
  clear o1
  have hle := Lib.hid (le4_cells C hC)
  have hfin : Hid (mkS (Lg.hd4 s.size ++ sl s ++ Lg.le4 C) = mkS (Lg.frame n (sl s))) := by show _ = _; rw [← HC.out, Lg.frame, sl_len]
  go_wp2_with (first | (at_builtin; (refine wpList_append_text rfl (.tmp 51) (.tmp 52) _ _ rfl w.heap.size 5 Try.underlying37 Try.underlying9 byteInfo _ (Lg.hd4 s.size) rfl (O1.out _) s rfl (by simp [Lg.hd4]; omega) (by simp; omega) ?_); intro v1 w1 hown1 hg1) | (at_builtin; go_must (refine wpList_append_owns rfl (.tmp 54) (.tmp 66) _ rfl w.heap.size 5 (.int .u8 0) 1 1 eb Try.underlying37 byteInfo rfl (by decide) _ _ rfl (hown1.alloc _) ⟨w1.heap.size, 0, none⟩ 4 4 (Lg.le4 C) rfl rfl rfl (by rw [← hle.out]; exact new_cells _ _ _) (eb_one _) (by simp [maxLen, Lg.hd4, Lg.le4, sl_len]; omega) (by simp [Lg.hd4, Lg.le4, sl_len]; omega) (by have := hg1.size; simp at this ⊢; omega) ?_); intro v2 w2 hown2 hg2; have hrs := run_string_own (dst := 9) Try.underlying37 Try.underlying5 Try.underlying9 (by rw [← eb_map]; exact hown2)))
  go_ret2
  refine ⟨ret_si hfin.out rfl, ?_⟩
  have b1 := ((Below.refl w.heap.size w).alloc (Nat.le_refl _) (.cells #[Value.int IntKind.u8 ((s.size : Int) / 256), Value.int IntKind.u8 ((s.size : Int) % 256), Value.int IntKind.u8 (bits BinOp.xor IntKind.u8 IntKind.u8.max ((s.size : Int) / 256)), Value.int IntKind.u8 (bits BinOp.xor IntKind.u8 IntKind.u8.max ((s.size : Int) % 256))] 5)).alloc (by simp) (.cells #[Value.int IntKind.u8 ((n : Int) / 16777216), Value.int IntKind.u8 ((n : Int) / 65536 % 256), Value.int IntKind.u8 ((n : Int) / 256 % 256), Value.int IntKind.u8 ((n : Int) % 256)] 5)
  exact bel_append (bel_append0 b1 (Nat.le_refl _) (O1.out _) hg1) (Nat.le_refl _) hown1 hg2
end Go.Proofs.Ytefbfkbmkajknaa
