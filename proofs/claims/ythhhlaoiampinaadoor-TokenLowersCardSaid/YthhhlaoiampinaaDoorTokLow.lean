/- TokenLowers: the law's walk. -/
import Derived.Test.YthhhlaoiampinaaDoorEqFold
namespace Go.Proofs.YthhhlaoiampinaaDoor
set_option maxRecDepth 20000
open Go.RowKit
theorem tokB_low : ∀ c : UInt8, Tok.tokB (Tok.lowB c) = Tok.tokB c := by
  have h0 : ∀ n : Fin 256, Tok.tokB (Tok.lowB (UInt8.ofNat n.val)) = Tok.tokB (UInt8.ofNat n.val) := by decide +kernel
  intro c
  have := h0 ⟨c.toNat, c.toNat_lt⟩
  simpa only [UInt8.ofNat_toNat] using this
theorem isTok_low (s : ByteArray) : Tok.isTok (mkS (Tok.low (sl s))) = Tok.isTok s := by
  unfold Tok.isTok
  rw [sl_mkS, mkS_size, Tok.low_len, sl_len]
  congr 1
  unfold Tok.low
  rw [List.all_map]
  congr 1
  funext c
  exact tokB_low c
theorem low_ab : mkS (Tok.low (sl ⟨#[65, 98]⟩)) = ⟨#[97, 98]⟩ := by decide +kernel
set_option maxHeartbeats 1600000 in
theorem tokenLowers_walk (s : ByteArray) (w : World) (hs : s.size ≤ 140737488351232) (hu : HasU8 w) :
    Calls Tryd.prog 5 #[.string s] w fun e w' => e = .returned (.bool true) ∧ Below w.heap.size w w' := by
  have hz : (mkS (Tok.low (sl s))).size = s.size := by rw [mkS_size, Tok.low_len, sl_len]
  have HT : Hid (mkS (Tok.low (sl (mkS (Tok.low (sl s))))) = mkS (Tok.low (sl s))) := by show _ = _; rw [sl_mkS, Tok.low_low]
  have H1 := Lib.hid (fun w' => lower_any s w' hs)
  have H2 := Lib.hid (fun w' => lower_any (mkS (Tok.low (sl s))) w' (by omega))
  rw [HT.out] at H2
  have HI1 := Lib.hid (fun w' => isToken_any s w' (by omega))
  have HI2 := Lib.hid (fun w' => isToken_any (mkS (Tok.low (sl s))) w' (by omega))
  rw [isTok_low] at HI2
  have HE := Lib.hid (fun w' (hb : Below w.heap.size w w') => equalFold_low s (mkS (Tok.low (sl s))) w' hs (by rw [sl_mkS]) (hu.below rfl hb))
  have HA := Lib.hid (fun w' => lower_any ⟨#[65, 98]⟩ w' (by decide))
  rw [low_ab] at HA
  have hzz : (((mkS (Tok.low (sl s))).size : Int) == (s.size : Int)) = true := by rw [hz]; exact beq_self_eq_true _
  have hzn : ((mkS (Tok.low (sl s))).size == s.size) = true := by rw [hz]; exact beq_self_eq_true _
  clear HT hu hz
  generalize mkS (Tok.low (sl s)) = T at *
  generalize Tok.isTok s = q at *
  have hqq : (q == q) = true := by cases q <;> rfl
  go_enter Tryd.func5, Tryd.ntmps5
  go_wp2_with fail
  refine (H1.out _).mono ?_
  rintro e w1 ⟨rfl, b1⟩
  go_wp2_with fail
  refine (H2.out _).mono ?_
  rintro e w2 ⟨rfl, b2⟩
  have B2 := belT b1 b2
  go_wp2_with fail
  refine (HI1.out _).mono ?_
  rintro e w' ⟨rfl, rfl⟩
  go_wp2_with fail
  refine (HI2.out _).mono ?_
  rintro e w' ⟨rfl, rfl⟩
  go_wp2_with fail
  refine (HE.out _ B2).mono ?_
  rintro e w3 ⟨rfl, b3⟩
  have B3 := belT B2 b3
  go_wp2_with fail
  refine (HA.out _).mono ?_
  rintro e w4 ⟨rfl, b4⟩
  go_wp2_with fail
  go_ret
  exact ⟨rfl, belT B3 b4⟩
end Go.Proofs.YthhhlaoiampinaaDoor
