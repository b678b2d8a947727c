/- MsgAgain: the walk. -/
import Derived.Test.YtoalfjkbgeiggaaGreatDoorZMsgT
import Derived.Test.YtoalfjkbgeiggaaGreatDoorZMsgW
namespace Go.Proofs.YtoalfjkbgeiggaaGreatDoor
set_option maxRecDepth 20000
open Go.RowKit
open Ck Ms Bd Ln
namespace Ms
theorem writeR_ok {m t : ByteArray} {l : List Fp} {b x : List UInt8} (h : writeR m t l b = .ok x) : isM m = true ∧ isT t = true ∧ (∀ f ∈ l, GoodF f) ∧ l.length ≤ 30 ∧ b.length ≤ 5000 ∧ x.length ≤ 80000 ∧ 0 < x.length := by
  unfold writeR at h
  split at h
  · rename_i hmt
    have hm30 := (isM_iff hmt.1).2
    have ht200 := (isT_iff hmt.2).2
    split at h
    · cases h
    · rename_i y hy
      injection h with h
      subst h
      have hl := req_len (sl m) (sl t)
      unfold writeF at hy
      split at hy
      · cases hy
      · rename_i hc
        obtain ⟨hg, h30⟩ := chkAll_good (Classical.not_not.1 hc)
        have hpl := printF_len l hg h30
        obtain ⟨k, n, e, hk, hin⟩ := kindF_in true m 0 l
        rw [hk] at hy
        dsimp only at hy
        split at hy
        · cases hy
        · rename_i he
          split at hy
          · cases hy
          · rename_i hno
            split at hy
            · cases hy
            · split at hy
              · split at hy
                · cases hy
                · rename_i h5
                  injection hy with hy
                  subst hy
                  have := encL_len b.length 64 b (by omega) (by omega)
                  refine ⟨hmt.1, hmt.2, hg, h30, by omega, ?_, ?_⟩
                  · simp only [List.length_append, List.length_cons, List.length_nil]; omega
                  · simp only [List.length_append, List.length_cons, List.length_nil]; omega
              · rename_i h3
                injection hy with hy
                subst hy
                have hb : b.length ≤ 5000 := by
                  rcases hin with ⟨h, _⟩ | ⟨_, _, h | h | ⟨_, h⟩⟩ | ⟨_, h2, _, hn⟩
                  · exact absurd h he
                  · by_cases hb : b = []
                    · rw [hb]; simp
                    · exact absurd (.inl ⟨h, hb⟩) hno
                  · exact absurd h h3
                  · cases h
                  · by_cases hbn : (b.length : Int) = n
                    · omega
                    · exact absurd (.inr ⟨h2, hbn⟩) hno
                refine ⟨hmt.1, hmt.2, hg, h30, hb, ?_, ?_⟩
                · simp only [List.length_append, List.length_cons, List.length_nil]; omega
                · simp only [List.length_append, List.length_cons, List.length_nil]; omega
  · cases h
theorem empty_app (a : ByteArray) : ByteArray.empty ++ a = a := sl_inj (by rw [sl_append, sl_empty]; rfl)
end Ms
/-- What WriteRequest answers where it writes. -/
theorem writeOk_any (m t : ByteArray) (v : Value) (l : List Fp) (b : ByteArray) (x : List UInt8) (w : World) (hx : writeR m t l (sl b) = .ok x) (h : SlR w e_ss v l) (hz : HasTz w) (he : HasErr w) :
    Calls Tryz.prog 9 #[.agg #[.string m, .string t, v, .string b]] w fun e w' => e = .returned (.tuple #[.string (mkS x), .int .i64 0]) ∧ Below w.heap.size w w' := by
  obtain ⟨hm, ht, hg, h30, hb, -, -⟩ := writeR_ok hx
  have hwt := good_wt l hg
  have hm30 := (isM_iff hm).2
  have ht200 := (isT_iff ht).2
  rw [sl_len] at hm30 ht200 hb
  have hw := writeReq_any m t v l b w h (by omega) (by omega) (by omega) (by omega) hz he
  rw [hx] at hw
  refine hw.mono ?_
  rintro e w' ⟨ha, hb'⟩
  unfold WrAns at ha
  dsimp only at ha
  rw [empty_app] at ha
  exact ⟨ha, hb'⟩
set_option maxHeartbeats 4000000 in
theorem msgAgain_walk (s : ByteArray) (w : World) (hs : s.size ≤ 1048576) (hm : HasMax w) (he : HasErr w) (hz : HasTz w) :
    Calls Tryz.prog 6 #[.string s] w fun e w' => e = .returned (.bool true) ∧ Below w.heap.size w w' := by
  have HQ := Lib.hid (readReq_any s w (by omega) hm he)
  have HN := Lib.hid (fun w' (hb : Below w.heap.size w w') => readNil2_any w' (hm.below hb) (he.below hb))
  have HMX := Lib.hid hm
  have HER := Lib.hid he
  have HTZ := Lib.hid hz
  clear hm he hz
  cases hq : readR (sl s) with
  | error c =>
    rw [hq] at HQ
    unfold ReqAns vRq at HQ
    dsimp only at HQ
    clear hq
    go_enter Tryz.func6, Tryz.ntmps6
    go_wp2_with fail
    refine HQ.out.mono ?_
    rintro e w1 ⟨⟨rfl, hc⟩, g1⟩
    have hne : (c != 0) = true := by rw [bne_iff_ne]; exact hc
    have hX1 := Blk.new w1 24 #[.string ByteArray.empty, .string ByteArray.empty, .slice none 0 0, .string ByteArray.empty]
    have bX1 := g1.alloc g1.size (.cells #[.string ByteArray.empty, .string ByteArray.empty, .slice none 0 0, .string ByteArray.empty] 24)
    go_wp2_with fail
    generalize hWX : w1.alloc (.cells #[.string ByteArray.empty, .string ByteArray.empty, .slice none 0 0, .string ByteArray.empty] 24) = x1 at *
    refine (HN.out _ bX1).mono ?_
    rintro e w2 ⟨rfl, g2⟩
    have hX2 := Blk.below hX1 g2 hX1.lt
    have bX2 := bX1.trans (g2.mono bX1.size)
    have hX3 := hX2.alloc (.cells #[.string ⟨#[]⟩, .string ⟨#[]⟩, .slice none 0 0, .string ⟨#[]⟩] 24)
    have bX3 := bX2.alloc bX2.size (.cells #[.string ⟨#[]⟩, .string ⟨#[]⟩, .slice none 0 0, .string ⟨#[]⟩] 24)
    have d0 := hX3.cell 0
    have d1 := hX3.cell 1
    have d2 := hX3.cell 2
    have d3 := hX3.cell 3
    have hlt := hX2.lt
    go_wp2_with fail
    refine (sameReq_true ⟨#[]⟩ ⟨#[]⟩ ⟨#[]⟩ (.slice none 0 0) (.slice none 0 0) [] _ (SlR.nil _ _) (SlR.nil _ _) (by simp)).mono ?_
    rintro e w3 ⟨rfl, g3⟩
    go_wp2_with fail
    go_ret
    exact ⟨rfl, bX3.trans (g3.mono bX3.size)⟩
  | ok y =>
    obtain ⟨m, t, l, b, n⟩ := y
    rw [hq] at HQ
    unfold ReqAns vRq at HQ
    dsimp only at HQ
    obtain ⟨x, hx⟩ := writeR_read hq
    have hnl := readR_len hq
    rw [sl_len] at hnl
    obtain ⟨-, -, -, h30, -, hx8, -⟩ := writeR_ok hx
    have hrw := readR_write hx []
    rw [List.append_nil] at hrw
    obtain ⟨B, hB⟩ : ∃ B, mkS b = B := ⟨_, rfl⟩
    have hBs : sl B = b := by rw [← hB, sl_mkS]
    obtain ⟨X, hX⟩ : ∃ X, mkS x = X := ⟨_, rfl⟩
    have hXs : sl X = x := by rw [← hX, sl_mkS]
    have hXz : X.size = x.length := by rw [← sl_len, hXs]
    rw [hB] at HQ
    have HW := Lib.hid (fun v w' (hv : SlR w' e_ss v l) (hb : Below w.heap.size w w') => writeOk_any m t v l B x w' (by rw [hBs]; exact hx) hv (HTZ.out.below hb) (HER.out.below hb))
    rw [hX] at HW
    have HQ2 := Lib.hid (fun w' (hb : Below w.heap.size w w') => readReq_any X w' (by omega) (HMX.out.below hb) (HER.out.below hb))
    rw [hXs, hrw] at HQ2
    unfold ReqAns vRq at HQ2
    dsimp only at HQ2
    rw [hB, ← hXz] at HQ2
    have hnd : decide ((n : Int) ≤ (s.size : Int)) = true := decide_eq_true (by omega)
    have hnd' : decide (n ≤ s.size) = true := decide_eq_true hnl
    clear hq hx hrw hB hBs hX hXs
    go_enter Tryz.func6, Tryz.ntmps6
    go_wp2_with fail
    refine HQ.out.mono ?_
    rintro e w1 ⟨⟨v, rfl, hown⟩, g1⟩
    have hv := SlR.of_owns hown
    obtain ⟨A1, cc1, rfl, -⟩ := hv.form
    have hX1 := Blk.new w1 24 #[.string m, .string t, .slice A1 l.length cc1, .string B]
    have bX1 := g1.alloc g1.size (.cells #[.string m, .string t, .slice A1 l.length cc1, .string B] 24)
    have hv1 := hv.alloc (.cells #[.string m, .string t, .slice A1 l.length cc1, .string B] 24)
    clear hown
    go_wp2_with fail
    generalize hWX : w1.alloc (.cells #[.string m, .string t, .slice A1 l.length cc1, .string B] 24) = x1 at *
    refine (HN.out _ bX1).mono ?_
    rintro e w2 ⟨rfl, g2⟩
    have hX2 := Blk.below hX1 g2 hX1.lt
    have hv2 := hv1.below g2
    have bX2 := bX1.trans (g2.mono bX1.size)
    have hX3 := hX2.alloc (.cells #[.string ⟨#[]⟩, .string ⟨#[]⟩, .slice none 0 0, .string ⟨#[]⟩] 24)
    have hv3 := hv2.alloc (.cells #[.string ⟨#[]⟩, .string ⟨#[]⟩, .slice none 0 0, .string ⟨#[]⟩] 24)
    have bX3 := bX2.alloc bX2.size (.cells #[.string ⟨#[]⟩, .string ⟨#[]⟩, .slice none 0 0, .string ⟨#[]⟩] 24)
    have d0 := hX3.cell 0
    have d1 := hX3.cell 1
    have d2 := hX3.cell 2
    have d3 := hX3.cell 3
    have hlt := hX2.lt
    go_wp2_with fail
    clear d0 d1 d2 d3
    generalize hWY : w2.alloc (.cells #[.string ⟨#[]⟩, .string ⟨#[]⟩, .slice none 0 0, .string ⟨#[]⟩] 24) = x3 at *
    refine (HW.out _ _ hv3 bX3).mono ?_
    rintro e w4 ⟨rfl, g4⟩
    have hX4 := Blk.below hX3 g4 hX3.lt
    have hv4 := hv3.below g4
    have bX4 := bX3.trans (g4.mono bX3.size)
    go_wp2_with fail
    refine (HQ2.out _ bX4).mono ?_
    rintro e w5 ⟨⟨v5, rfl, hown5⟩, g5⟩
    have hu5 := SlR.of_owns hown5
    obtain ⟨A5, cc5, rfl, -⟩ := hu5.form
    have hX5 := Blk.below hX4 g5 hX4.lt
    have hv5 := hv4.below g5
    have bX5 := bX4.trans (g5.mono bX4.size)
    have hlt5 := hX5.lt
    have hX6 := hX5.alloc (.cells #[.string m, .string t, .slice A5 l.length cc5, .string B] 24)
    have hv6 := hv5.alloc (.cells #[.string m, .string t, .slice A5 l.length cc5, .string B] 24)
    have hu6 := hu5.alloc (.cells #[.string m, .string t, .slice A5 l.length cc5, .string B] 24)
    have bX6 := bX5.alloc bX5.size (.cells #[.string m, .string t, .slice A5 l.length cc5, .string B] 24)
    have d0 := hX6.cell 0
    have d1 := hX6.cell 1
    have d2 := hX6.cell 2
    have d3 := hX6.cell 3
    clear hown5
    go_wp2_with fail
    refine (sameReq_true m t B _ _ l _ hu6 hv6 (by omega)).mono ?_
    rintro e w6 ⟨rfl, g6⟩
    go_wp2_with fail
    go_ret
    exact ⟨by simp, bX6.trans (g6.mono bX6.size)⟩
end Go.Proofs.YtoalfjkbgeiggaaGreatDoor
