/- LineBack, LineShort: the laws' walks. -/
import Derived.Test.YthocoplaehbncaaDoorLineR
namespace Go.Proofs.YthocoplaehbncaaDoor
set_option maxRecDepth 20000
open Go.RowKit
namespace Ln
theorem sl_reqS (m t : ByteArray) : sl (reqS m t) = reqL (sl m) (sl t) ++ [13, 10] := by unfold reqS; rw [sl_mkS]
end Ln
open Ln
abbrev HasMax := Has2
set_option maxHeartbeats 1600000 in
theorem lineBack_walk (m t r : ByteArray) (w : World) (hm : m.size ≤ 1048576) (ht : t.size ≤ 1048576) (hr : r.size ≤ 1048576) (hx : HasMax w) :
    Calls Tryd.prog 4 #[.string m, .string t, .string r] w fun e w' => e = .returned (.bool true) ∧ Below w.heap.size w w' := by
  have HP := Lib.hid (fun w => printR_any m t w (by omega) (by omega))
  have HQ := Lib.hid (fun s w' (hs : s.size < 4294967281) (hb : Below w.heap.size w w') => parseReq_any s w' hs (hx.below hb))
  have HE := Lib.hid (fun w' (hb : Below w.heap.size w w') => parseReq_any ByteArray.empty w' (by decide) (hx.below hb))
  unfold ParseAns at HE
  rw [sl_empty, parse_empty] at HE
  by_cases hg : isM m = true ∧ isT t = true
  · have hm30 := (isM_iff hg.1).2
    have ht200 := (isT_iff hg.2).2
    rw [sl_len] at hm30 ht200
    have hsz := reqS_size m t
    have hS3 : (reqS m t).size ≤ 300 := by omega
    have hpar : parseR (sl (reqS m t ++ r)) = (m, t, ((reqS m t).size : Int), 0) := by
      rw [sl_append, sl_reqS, List.append_assoc, show [13, 10] ++ sl r = 13 :: 10 :: sl r from rfl, line_back hg.1 hg.2, hsz]
      simp
    have HQ2 := Lib.hid (fun w' (hb : Below w.heap.size w w') => HQ.out (reqS m t ++ r) w' (by rw [ByteArray.size_append]; omega) hb)
    unfold ParseAns at HQ2
    rw [hpar] at HQ2
    rw [if_pos hg] at HP
    clear hpar hsz hg HQ hx
    generalize reqS m t = S at *
    go_enter Tryd.func4, Tryd.ntmps4
    go_wp2_with fail
    refine (HP.out _).mono ?_
    rintro e w' ⟨rfl, rfl⟩
    go_wp2_with fail
    refine (HE.out _ (Below.refl _ _)).mono ?_
    rintro e w1 ⟨rfl, b1⟩
    go_wp2_with fail
    refine (HQ2.out _ b1).mono ?_
    rintro e w2 ⟨rfl, b2⟩
    have B2 := belT b1 b2
    go_wp2_with fail
    go_ret
    exact ⟨rfl, B2⟩
  · rw [if_neg hg] at HP
    clear hg HQ hx
    go_enter Tryd.func4, Tryd.ntmps4
    go_wp2_with fail
    refine (HP.out _).mono ?_
    rintro e w' ⟨rfl, rfl⟩
    go_wp2_with fail
    refine (HE.out _ (Below.refl _ _)).mono ?_
    rintro e w1 ⟨rfl, b1⟩
    go_wp2_with fail
    go_ret
    exact ⟨rfl, b1⟩
set_option maxHeartbeats 1600000 in
theorem lineShort_walk (s : ByteArray) (a0 : Int) (w : World) (hs : s.size ≤ 1048576) (ha : (Lit.int .i64 a0).wf = true) (hx : HasMax w) :
    Calls Tryd.prog 5 #[.string s, .int .i64 a0] w fun e w' => e = .returned (.bool true) ∧ Below w.heap.size w w' := by
  have HQ := Lib.hid (fun s w' (hs : s.size < 4294967281) (hb : Below w.heap.size w w') => parseReq_any s w' hs (hx.below hb))
  have HS := Lib.hid (fun w' (hb : Below w.heap.size w w') => parseReq_any s w' (by omega) (hx.below hb))
  have HE := Lib.hid (fun w' (hb : Below w.heap.size w w') => parseReq_any ByteArray.empty w' (by decide) (hx.below hb))
  unfold ParseAns at HE HS
  rw [sl_empty, parse_empty] at HE
  rcases parse_cases (sl s) with ⟨c, hc, hp⟩ | ⟨m, t, r, hm, ht, hl, hp⟩
  · rw [hp] at HS
    have hne : (c != 0) = true := by simpa using hc
    clear hp hx HQ hc
    go_enter Tryd.func5, Tryd.ntmps5
    go_wp2_with fail
    refine (HS.out _ (Below.refl _ _)).mono ?_
    rintro e w1 ⟨rfl, b1⟩
    go_wp2_with fail
    refine (HE.out _ b1).mono ?_
    rintro e w2 ⟨rfl, b2⟩
    have B2 := belT b1 b2
    go_wp2_with fail
    go_ret
    exact ⟨rfl, B2⟩
  · have hm30 := (isM_iff hm).2
    have ht200 := (isT_iff ht).2
    rw [sl_len] at hm30 ht200
    have hsz := reqS_size m t
    have hS3 : (reqS m t).size ≤ 300 := by omega
    have hS0 : 0 < (reqS m t).size := by omega
    have HP := Lib.hid (fun w => printR_any m t w (by omega) (by omega))
    rw [if_pos ⟨hm, ht⟩] at HP
    have hn : (m.size : Int) + t.size + 12 = ((reqS m t).size : Int) := by rw [hsz]; simp
    rw [hp, hn] at HS
    have hsl : sl s = sl (reqS m t) ++ r := by
      rw [hl, sl_reqS, List.append_assoc]; rfl
    have hle : (reqS m t).size ≤ s.size := by
      have := congrArg List.length hsl
      rw [List.length_append, sl_len, sl_len] at this; omega
    have hext : s.extract 0 (reqS m t).size = reqS m t := by
      apply sl_inj
      rw [sl_extract, List.drop_zero, Nat.sub_zero, hsl, List.take_left' (by rw [sl_len])]
    obtain ⟨k, hk, hk2⟩ : ∃ k : Nat, a0 % ((reqS m t).size : Int) = (k : Int) ∧ k < (reqS m t).size :=
      ⟨(a0 % ((reqS m t).size : Int)).toNat, by have := Int.emod_nonneg a0 (b := ((reqS m t).size : Int)) (by omega); omega, by have := Int.emod_lt_of_pos a0 (b := ((reqS m t).size : Int)) (by omega); have := Int.emod_nonneg a0 (b := ((reqS m t).size : Int)) (by omega); omega⟩
    have HR := Lib.hid (fun w => rest_any a0 ((reqS m t).size : Int) w (wide_of ha) (by omega))
    rw [hk] at HR
    have hpar : parseR (sl ((reqS m t).extract 0 k)) = (ByteArray.empty, ByteArray.empty, 0, 8) := by
      rw [sl_extract, List.drop_zero, Nat.sub_zero, sl_reqS, line_short hm ht (by omega)]
    have HQ2 := Lib.hid (fun w' (hb : Below w.heap.size w w') => HQ.out ((reqS m t).extract 0 k) w' (by rw [ext_size _ _ _ (by omega)]; omega) hb)
    unfold ParseAns at HQ2
    rw [hpar] at HQ2
    clear hpar hsz hn hsl hl hp hk HQ hx
    generalize reqS m t = S at *
    go_enter Tryd.func5, Tryd.ntmps5
    go_wp2_with fail
    refine (HS.out _ (Below.refl _ _)).mono ?_
    rintro e w1 ⟨rfl, b1⟩
    go_wp2_with fail
    refine (HE.out _ b1).mono ?_
    rintro e w2 ⟨rfl, b2⟩
    have B2 := belT b1 b2
    go_wp2_with fail
    refine (HP.out _).mono ?_
    rintro e w' ⟨rfl, rfl⟩
    go_wp2_with fail
    refine (HR.out _).mono ?_
    rintro e w' ⟨rfl, rfl⟩
    go_wp2_with fail
    refine (HQ2.out _ B2).mono ?_
    rintro e w3 ⟨rfl, b3⟩
    have B3 := belT B2 b3
    go_wp2_with fail
    go_ret
    exact ⟨rfl, B3⟩
end Go.Proofs.YthocoplaehbncaaDoor
