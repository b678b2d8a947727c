/- MsgBack, MsgShort: the walks. -/
import Derived.Test.YtoalfjkbgeiggaaGreatDoorZMsgU
namespace Go.Proofs.YtoalfjkbgeiggaaGreatDoor
set_option maxRecDepth 20000
open Go.RowKit
open Ck Ms Bd Ln
theorem writeErr_any (m t : ByteArray) (v : Value) (l : List Fp) (b : ByteArray) (c : Int) (w : World) (hx : writeR m t l (sl b) = .error c) (h : SlR w e_ss v l) (hwt : wt l ≤ 1048576) (hm : m.size ≤ 1048576) (ht : t.size ≤ 1048576) (hb : b.size ≤ 1048576) (hz : HasTz w) (he : HasErr w) :
    Calls Tryz.prog 9 #[.agg #[.string m, .string t, v, .string b]] w fun e w' => (e = .returned (.tuple #[.string ByteArray.empty, .int .i64 c]) ∧ c ≠ 0) ∧ Below w.heap.size w w' := by
  have hw := writeReq_any m t v l b w h hwt hm ht hb hz he
  rw [hx] at hw
  exact hw
set_option maxHeartbeats 4000000 in
theorem msgBack_walk (m t : ByteArray) (v : Value) (b : ByteArray) (l : List Fp) (rest : ByteArray) (w : World) (h : SlR w e_ss v l) (hwt : (l.map (fun d => d.1.size + d.2.size + 2)).sum ≤ 1048576) (hms : m.size ≤ 1048576) (hts : t.size ≤ 1048576) (hbs : b.size ≤ 1048576) (hr : rest.size ≤ 1048576) (hm : HasMax w) (he : HasErr w) (hz : HasTz w) :
    Calls Tryz.prog 3 #[.agg #[.string m, .string t, v, .string b], .string rest] w fun e w' => e = .returned (.bool true) ∧ Below w.heap.size w w' := by
  have HN := Lib.hid (fun w' (hb : Below w.heap.size w w') => readNil2_any w' (hm.below hb) (he.below hb))
  have hX1 := Blk.new w 24 #[.string m, .string t, v, .string b]
  have bX1 := (Below.refl w.heap.size w).alloc (Nat.le_refl _) (.cells #[.string m, .string t, v, .string b] 24)
  have hv1 := h.alloc (.cells #[.string m, .string t, v, .string b] 24)
  cases hx : writeR m t l (sl b) with
  | error c =>
    have HW := Lib.hid (writeErr_any m t v l b c _ hx hv1 hwt hms hts hbs (hz.below bX1) (he.below bX1))
    obtain ⟨A1, cc1, rfl, -⟩ := h.form
    clear hx hwt hm he hz
    go_enter Tryz.func3, Tryz.ntmps3
    go_wp2_with fail
    refine HW.out.mono ?_
    rintro e w1 ⟨⟨rfl, hc⟩, g1⟩
    have hne : (c != 0) = true := by rw [bne_iff_ne]; exact hc
    have bX2 := bX1.trans (g1.mono bX1.size)
    go_wp2_with fail
    refine (HN.out _ bX2).mono ?_
    rintro e w2 ⟨rfl, g2⟩
    have bX3 := bX2.trans (g2.mono bX2.size)
    have bX4 := bX3.alloc bX3.size (.cells #[.string ⟨#[]⟩, .string ⟨#[]⟩, .slice none 0 0, .string ⟨#[]⟩] 24)
    go_wp2_with fail
    go_ret
    exact ⟨rfl, bX4⟩
  | ok x =>
    obtain ⟨-, -, -, h30, -, hx8, -⟩ := writeR_ok hx
    have hrw := readR_write hx (sl rest)
    obtain ⟨X, hX⟩ : ∃ X, mkS x = X := ⟨_, rfl⟩
    have hXs : sl X = x := by rw [← hX, sl_mkS]
    have hXz : X.size = x.length := by rw [← sl_len, hXs]
    have HW := Lib.hid (writeOk_any m t v l b x _ hx hv1 (hz.below bX1) (he.below bX1))
    rw [hX] at HW
    have HQ2 := Lib.hid (fun w' (hb : Below w.heap.size w w') => readReq_any (X ++ rest) w' (by rw [ByteArray.size_append]; omega) (hm.below hb) (he.below hb))
    rw [sl_append, hXs, hrw] at HQ2
    unfold ReqAns vRq at HQ2
    dsimp only at HQ2
    rw [mkS_sl, ← hXz] at HQ2
    have hz1 : X.size + rest.size ≤ 9223372036854775807 := by omega
    obtain ⟨A1, cc1, rfl, -⟩ := h.form
    clear hx hrw hX hXs hXz hwt hm he hz
    go_enter Tryz.func3, Tryz.ntmps3
    go_wp2_with fail
    refine HW.out.mono ?_
    rintro e w1 ⟨rfl, g1⟩
    have hX2 := Blk.below hX1 g1 hX1.lt
    have hv2 := hv1.below g1
    have bX2 := bX1.trans (g1.mono bX1.size)
    go_wp2_with fail
    refine (HN.out _ bX2).mono ?_
    rintro e w2 ⟨rfl, g2⟩
    have hX3 := (Blk.below hX2 g2 hX2.lt).alloc (.cells #[.string ⟨#[]⟩, .string ⟨#[]⟩, .slice none 0 0, .string ⟨#[]⟩] 24)
    have hv3 := (hv2.below g2).alloc (.cells #[.string ⟨#[]⟩, .string ⟨#[]⟩, .slice none 0 0, .string ⟨#[]⟩] 24)
    have bX3 := bX2.trans (g2.mono bX2.size)
    have bX4 := bX3.alloc bX3.size (.cells #[.string ⟨#[]⟩, .string ⟨#[]⟩, .slice none 0 0, .string ⟨#[]⟩] 24)
    go_wp2_with fail
    generalize hWY : w2.alloc (.cells #[.string ⟨#[]⟩, .string ⟨#[]⟩, .slice none 0 0, .string ⟨#[]⟩] 24) = x3 at *
    refine (HQ2.out _ bX4).mono ?_
    rintro e w5 ⟨⟨v5, rfl, hown5⟩, g5⟩
    have hu5 := SlR.of_owns hown5
    obtain ⟨A5, cc5, rfl, -⟩ := hu5.form
    have hX5 := Blk.below hX3 g5 hX3.lt
    have hv5 := hv3.below g5
    have bX5 := bX4.trans (g5.mono bX4.size)
    have hlt5 := hX5.lt
    have hX6 := hX5.alloc (.cells #[.string m, .string t, .slice A5 l.length cc5, .string b] 24)
    have hv6 := hv5.alloc (.cells #[.string m, .string t, .slice A5 l.length cc5, .string b] 24)
    have hu6 := hu5.alloc (.cells #[.string m, .string t, .slice A5 l.length cc5, .string b] 24)
    have bX6 := bX5.alloc bX5.size (.cells #[.string m, .string t, .slice A5 l.length cc5, .string b] 24)
    have d0 := hX6.cell 0
    have d1 := hX6.cell 1
    have d2 := hX6.cell 2
    have d3 := hX6.cell 3
    clear hown5
    go_wp2_with fail
    refine (sameReq_true m t b _ _ l _ hv6 hu6 (by omega)).mono ?_
    rintro e w6 ⟨rfl, g6⟩
    go_wp2_with fail
    go_ret
    exact ⟨by simp, bX6.trans (g6.mono bX6.size)⟩
end Go.Proofs.YtoalfjkbgeiggaaGreatDoor
