/- MsgShort: the walk. -/
import Derived.Test.YtoalfjkbgeiggaaGreatDoorZMsgV
namespace Go.Proofs.YtoalfjkbgeiggaaGreatDoor
set_option maxRecDepth 20000
open Go.RowKit
open Ck Ms Bd Ln
set_option maxHeartbeats 4000000 in
theorem msgShort_walk (m t : ByteArray) (v : Value) (b : ByteArray) (l : List Fp) (at_ : Int) (w : World) (h : SlR w e_ss v l) (hwt : (l.map (fun d => d.1.size + d.2.size + 2)).sum ≤ 1048576) (hms : m.size ≤ 1048576) (hts : t.size ≤ 1048576) (hbs : b.size ≤ 1048576) (ha : (Lit.int .i64 at_).wf = true) (hm : HasMax w) (he : HasErr w) (hz : HasTz w) :
    Calls Tryz.prog 5 #[.agg #[.string m, .string t, v, .string b], .int .i64 at_] w fun e w' => e = .returned (.bool true) ∧ Below w.heap.size w w' := by
  have hwd := wide_of ha
  have HN := Lib.hid (fun w' (hb : Below w.heap.size w w') => readNil2_any w' (hm.below hb) (he.below hb))
  have hX1 := Blk.new w 24 #[.string m, .string t, v, .string b]
  have bX1 := (Below.refl w.heap.size w).alloc (Nat.le_refl _) (.cells #[.string m, .string t, v, .string b] 24)
  have hv1 := h.alloc (.cells #[.string m, .string t, v, .string b] 24)
  cases hx : writeR m t l (sl b) with
  | error c =>
    have HW := Lib.hid (writeErr_any m t v l b c _ hx hv1 hwt hms hts hbs (hz.below bX1) (he.below bX1))
    obtain ⟨A1, cc1, rfl, -⟩ := h.form
    clear hx hwt hm he hz
    go_enter Tryz.func5, Tryz.ntmps5
    go_wp2_with fail
    refine HW.out.mono ?_
    rintro e w1 ⟨⟨rfl, hc⟩, g1⟩
    have hne : (c != 0) = true := by rw [bne_iff_ne]; exact hc
    have bX2 := bX1.trans (g1.mono bX1.size)
    go_wp2_with fail
    refine (HN.out _ bX2).mono ?_
    rintro e w2 ⟨rfl, g2⟩
    have bX3 := bX2.trans (g2.mono bX2.size)
    have bX4 := bX3.alloc bX3.size (.cells #[.string ⟨#[]⟩, .string ⟨#[]⟩, .slice none 0 0, .string ⟨#[]⟩] 24)
    go_wp2_with fail
    go_ret
    exact ⟨rfl, bX4⟩
  | ok x =>
    obtain ⟨-, -, -, h30, -, hx8, hx0⟩ := writeR_ok hx
    obtain ⟨X, hX⟩ : ∃ X, mkS x = X := ⟨_, rfl⟩
    have hXs : sl X = x := by rw [← hX, sl_mkS]
    have hXz : X.size = x.length := by rw [← sl_len, hXs]
    have hXe : X.toList.isEmpty = false := isEmpty_no X (by omega)
    have HW := Lib.hid (writeOk_any m t v l b x _ hx hv1 (hz.below bX1) (he.below bX1))
    rw [hX] at HW
    have hk0 := Int.emod_nonneg at_ (b := (X.size : Int)) (by omega)
    have hk1 := Int.emod_lt_of_pos at_ (show (0 : Int) < (X.size : Int) by omega)
    obtain ⟨k, hk⟩ : ∃ k : Nat, at_ % (X.size : Int) = (k : Int) := ⟨(at_ % (X.size : Int)).toNat, by omega⟩
    have hR := Lib.hid (fun w' => rest_any at_ X.size w' hwd ⟨by omega, by omega⟩)
    rw [hk] at hR
    have hkX : k ≤ X.size := by omega
    have hsh := readR_short hx (k := k) (by omega)
    have hks : sl (X.extract 0 k) = x.take k := by rw [sl_extract, List.drop_zero, Nat.sub_zero, hXs]
    have hkz : (X.extract 0 k).size ≤ 80000 := by rw [ext_size X 0 k hkX]; omega
    have HQ2 := Lib.hid (fun w' (hb : Below w.heap.size w w') => readReq_any (X.extract 0 k) w' (by omega) (hm.below hb) (he.below hb))
    rw [hks, hsh] at HQ2
    unfold ReqAns vRq at HQ2
    dsimp only at HQ2
    obtain ⟨A1, cc1, rfl, -⟩ := h.form
    clear hx hX hXs hXz hwt hm he hz hk hk0 hk1 hsh hks hkz hwd ha
    go_enter Tryz.func5, Tryz.ntmps5
    go_wp2_with fail
    refine HW.out.mono ?_
    rintro e w1 ⟨rfl, g1⟩
    have bX2 := bX1.trans (g1.mono bX1.size)
    go_wp2_with fail
    refine (HN.out _ bX2).mono ?_
    rintro e w2 ⟨rfl, g2⟩
    have bX3 := bX2.trans (g2.mono bX2.size)
    have bX4 := bX3.alloc bX3.size (.cells #[.string ⟨#[]⟩, .string ⟨#[]⟩, .slice none 0 0, .string ⟨#[]⟩] 24)
    go_wp2_with fail
    generalize hWY : w2.alloc (.cells #[.string ⟨#[]⟩, .string ⟨#[]⟩, .slice none 0 0, .string ⟨#[]⟩] 24) = x3 at *
    refine (hR.out _).mono ?_
    rintro e w4 ⟨rfl, rfl⟩
    go_wp2_with fail
    refine (HQ2.out _ bX4).mono ?_
    rintro e w5 ⟨⟨rfl, -⟩, g5⟩
    have bX5 := bX4.trans (g5.mono bX4.size)
    have bX6 := bX5.alloc bX5.size (.cells #[.string ByteArray.empty, .string ByteArray.empty, .slice none 0 0, .string ByteArray.empty] 24)
    go_wp2_with fail
    refine (sameReq_true ⟨#[]⟩ ⟨#[]⟩ ⟨#[]⟩ (.slice none 0 0) (.slice none 0 0) [] _ (SlR.nil _ _) (SlR.nil _ _) (by simp)).mono ?_
    rintro e w6 ⟨rfl, g6⟩
    go_wp2_with fail
    go_ret
    exact ⟨by simp, bX6.trans (g6.mono bX6.size)⟩
end Go.Proofs.YtoalfjkbgeiggaaGreatDoor
