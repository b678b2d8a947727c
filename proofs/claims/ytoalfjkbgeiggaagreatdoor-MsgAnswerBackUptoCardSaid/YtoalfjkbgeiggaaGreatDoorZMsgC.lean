/- MsgAnswerBack: the walk. -/
import Derived.Test.YtoalfjkbgeiggaaGreatDoorZMsgB
namespace Go.Proofs.YtoalfjkbgeiggaaGreatDoor
set_option maxRecDepth 20000
open Go.RowKit
open Ck Ms Bd Ln
namespace Ms
theorem writeF_ok {req : Bool} {m : ByteArray} {code : Int} {l : List Fp} {b x : List UInt8} (h : writeF req m code l b = .ok x) : l.length ≤ 30 ∧ b.length ≤ 5000 ∧ x.length ≤ 80000 := by
  unfold writeF at h
  split at h
  · cases h
  · rename_i hc
    obtain ⟨hg, h30⟩ := chkAll_good (Classical.not_not.1 hc)
    have hpl := printF_len l hg h30
    obtain ⟨k, n, e, hk, hin⟩ := kindF_in req m code l
    rw [hk] at h
    dsimp only at h
    split at h
    · cases h
    · rename_i he
      split at h
      · cases h
      · rename_i hno
        split at h
        · cases h
        · rename_i h45
          split at h
          · split at h
            · cases h
            · rename_i h5
              injection h with h
              subst h
              have := encL_len b.length 64 b (by omega) (by omega)
              refine ⟨h30, by omega, ?_⟩
              simp only [List.length_append]; omega
          · rename_i h3
            injection h with h
            subst h
            have hb : b.length ≤ 5000 := by
              rcases hin with ⟨h, _⟩ | ⟨_, _, h | h | ⟨h, _⟩⟩ | ⟨_, h2, _, hn⟩
              · exact absurd h he
              · by_cases hb : b = []
                · rw [hb]; simp
                · exact absurd (.inl ⟨h, hb⟩) hno
              · exact absurd h h3
              · by_cases h5 : 5000 < b.length
                · exact absurd ⟨h, h5⟩ h45
                · omega
              · by_cases hbn : (b.length : Int) = n
                · omega
                · exact absurd (.inr ⟨h2, hbn⟩) hno
            refine ⟨h30, hb, ?_⟩
            simp only [List.length_append]; omega
end Ms
set_option maxHeartbeats 4000000 in
theorem msgAnswerBack_walk (mm : ByteArray) (c : Int) (r : ByteArray) (v : Value) (b : ByteArray) (l : List Fp) (rest : ByteArray) (w : World) (hmm : mm.size ≤ 1048576) (h : SlR w e_ss v l) (hwt : (l.map (fun d => d.1.size + d.2.size + 2)).sum ≤ 1048576) (hwf : (Lit.int .i64 c).wf = true) (hr : r.size ≤ 1048576) (hb : b.size ≤ 1048576) (hrest : rest.size ≤ 1048576) (hm : HasMax w) (he : HasErr w) (hz : HasTz w) :
    Calls Tryz.prog 8 #[.string mm, .agg #[.int .i64 c, .string r, v, .string b], .string rest] w fun e w' => e = .returned (.bool true) ∧ Below w.heap.size w w' := by
  have HN := Lib.hid (fun w' (hbb : Below w.heap.size w w') => readResp_nil ⟨#[]⟩ w' (hm.below hbb))
  have hX1 := Blk.new w 39 #[.int .i64 c, .string r, v, .string b]
  have bX1 := (Below.refl w.heap.size w).alloc (Nat.le_refl _) (.cells #[.int .i64 c, .string r, v, .string b] 39)
  have hv1 := h.alloc (.cells #[.int .i64 c, .string r, v, .string b] 39)
  have HW := Lib.hid (writeResp_any mm c r v l b _ hv1 hwt hr hb (hm.below bX1) (hz.below bX1) (he.below bX1))
  have HK := Lib.hid (fun (wc : World) (hbb : Below w.heap.size w wc) => kind_any false mm c v l wc ⟨h.below hbb, Nat.le_trans hwt (by decide)⟩ (he.below hbb))
  have HRO := Lib.hid (fun (n : Nat) (R : ByteArray) (bb : List UInt8) (k : Nat) (wc : World) (hbb : Below w.heap.size w wc) h0 h1 hrs hR hrf => readResp_ok mm n r R l bb k wc h0 h1 hrs hR hrf (hm.below hbb) (he.below hbb))
  obtain ⟨kk, kn, ke, hk, hin⟩ := kindF_in false mm c l
  rw [hk] at HK
  dsimp only at HK
  have HKE := Lib.hid hk
  obtain ⟨A1, cc1, rfl, -⟩ := h.form
  clear hm he hz hwt hwf hmm hk
  go_enter Tryz.func8, Tryz.ntmps8
  go_wp2_with fail
  refine HW.out.mono ?_
  rintro e w1 ⟨ha, g1⟩
  have hX2 := Blk.below hX1 g1 hX1.lt
  have hv2 := hv1.below g1
  have bX2 := bX1.trans (g1.mono bX1.size)
  rcases ha with ⟨k, hk0, rfl⟩ | ⟨n, x, rfl, h0, h1, hrs, hwr, rfl⟩
  · have hne : (k != 0) = true := by rw [bne_iff_ne]; exact hk0
    go_wp2_with fail
    refine (HN.out _ bX2).mono ?_
    rintro e w2 ⟨rfl, g2⟩
    have bX3 := bX2.trans (g2.mono bX2.size)
    have bX4 := bX3.alloc bX3.size (.cells #[.int .i64 0, .string ⟨#[]⟩, .slice none 0 0, .string ⟨#[]⟩] 39)
    go_wp2_with fail
    go_ret
    exact ⟨rfl, bX4⟩
  · obtain ⟨h30, hb5, hx8⟩ := writeF_ok hwr
    have hz15 := statS_size h0 h1 r
    have hr100 := (isRs_iff hrs).1
    obtain ⟨T, hT⟩ : ∃ T, statS n r ++ mkS x = T := ⟨_, rfl⟩
    have hTz : T.size = (statS n r).size + x.length := by rw [← hT, ByteArray.size_append, mkS_size]
    rw [hT]
    go_wp2_with fail
    refine (HN.out _ bX2).mono ?_
    rintro e w2 ⟨rfl, g2⟩
    have hX3 := (Blk.below hX2 g2 hX2.lt).alloc (.cells #[.int .i64 0, .string ⟨#[]⟩, .slice none 0 0, .string ⟨#[]⟩] 39)
    have hv3 := (hv2.below g2).alloc (.cells #[.int .i64 0, .string ⟨#[]⟩, .slice none 0 0, .string ⟨#[]⟩] 39)
    have bX3 := bX2.trans (g2.mono bX2.size)
    have bX4 := bX3.alloc bX3.size (.cells #[.int .i64 0, .string ⟨#[]⟩, .slice none 0 0, .string ⟨#[]⟩] 39)
    have hlt2 := (Blk.below hX2 g2 hX2.lt).lt
    have d0 := hX3.cell 0
    have d2 := hX3.cell 2
    go_wp2_with fail
    clear d0 d2
    generalize hWY : w2.alloc (.cells #[.int .i64 0, .string ⟨#[]⟩, .slice none 0 0, .string ⟨#[]⟩] 39) = x3 at *
    refine (HK.out _ bX4).mono ?_
    rintro e w3 ⟨rfl, g3⟩
    have hX5 := Blk.below hX3 g3 hX3.lt
    have hv5 := hv3.below g3
    have bX5 := bX4.trans (g3.mono bX4.size)
    by_cases h4 : kk = 4
    · have hrd := readF_write hwr [] (fun _ => rfl)
      rw [List.append_nil] at hrd
      have hRO := HRO.out n (mkS x) (sl b) x.length w3 bX5 h0 h1 hrs (by rw [mkS_size]; omega) (by rw [sl_mkS]; exact hrd)
      rw [hT, ← hTz, mkS_sl] at hRO
      have hTe : T ++ (⟨#[]⟩ : ByteArray) = T := sl_inj (by rw [sl_append]; exact List.append_nil _)
      have HRD := Lib.hid hRO
      have h4b : (kk == 4) = true := by rw [h4]; rfl
      have hz1 : T.size + (⟨#[]⟩ : ByteArray).size ≤ 9223372036854775807 := by have : (⟨#[]⟩ : ByteArray).size = 0 := rfl; omega
      clear hrd hRO h4 hwr hT hTz hz15 hr100 hin
      go_wp2_with fail
      refine HRD.out.mono ?_
      rintro e w5 ⟨⟨v5, rfl, hu5⟩, g5⟩
      obtain ⟨A5, cc5, rfl, -⟩ := hu5.form
      have hX6 := (Blk.below hX5 g5 hX5.lt).alloc (.cells #[.int .i64 (n : Int), .string r, .slice A5 l.length cc5, .string b] 39)
      have hv6 := (hv5.below g5).alloc (.cells #[.int .i64 (n : Int), .string r, .slice A5 l.length cc5, .string b] 39)
      have hu6 := hu5.alloc (.cells #[.int .i64 (n : Int), .string r, .slice A5 l.length cc5, .string b] 39)
      have bX6 := bX5.trans (g5.mono bX5.size)
      have bX7 := bX6.alloc bX6.size (.cells #[.int .i64 (n : Int), .string r, .slice A5 l.length cc5, .string b] 39)
      have hlt5 := (Blk.below hX5 g5 hX5.lt).lt
      have d0 := hX6.cell 0
      have d1 := hX6.cell 1
      have d2 := hX6.cell 2
      have d3 := hX6.cell 3
      go_wp2_with fail
      refine (sameResp_true n r b _ _ l _ hv6 hu6 (by omega)).mono ?_
      rintro e w6 ⟨rfl, g6⟩
      go_wp2_with fail
      go_ret
      exact ⟨by simp, bX7.trans (g6.mono bX7.size)⟩
    · have hrd := readF_write hwr (sl rest) (fun h => absurd (by rw [HKE.out] at h; exact h) h4)
      have hRO := HRO.out n (mkS x ++ rest) (sl b) x.length w3 bX5 h0 h1 hrs (by rw [ByteArray.size_append, mkS_size]; omega) (by rw [sl_append, sl_mkS]; exact hrd)
      rw [← ba_assoc, hT, ← hTz, mkS_sl] at hRO
      have HRD := Lib.hid hRO
      have h4b : (kk == 4) = false := by rw [beq_eq_false_iff_ne]; exact h4
      have hz1 : T.size + rest.size ≤ 9223372036854775807 := by omega
      clear hrd hRO h4 hwr hT hTz hz15 hr100 hin
      go_wp2_with fail
      refine HRD.out.mono ?_
      rintro e w5 ⟨⟨v5, rfl, hu5⟩, g5⟩
      obtain ⟨A5, cc5, rfl, -⟩ := hu5.form
      have hX6 := (Blk.below hX5 g5 hX5.lt).alloc (.cells #[.int .i64 (n : Int), .string r, .slice A5 l.length cc5, .string b] 39)
      have hv6 := (hv5.below g5).alloc (.cells #[.int .i64 (n : Int), .string r, .slice A5 l.length cc5, .string b] 39)
      have hu6 := hu5.alloc (.cells #[.int .i64 (n : Int), .string r, .slice A5 l.length cc5, .string b] 39)
      have bX6 := bX5.trans (g5.mono bX5.size)
      have bX7 := bX6.alloc bX6.size (.cells #[.int .i64 (n : Int), .string r, .slice A5 l.length cc5, .string b] 39)
      have hlt5 := (Blk.below hX5 g5 hX5.lt).lt
      have d0 := hX6.cell 0
      have d1 := hX6.cell 1
      have d2 := hX6.cell 2
      have d3 := hX6.cell 3
      go_wp2_with fail
      refine (sameResp_true n r b _ _ l _ hv6 hu6 (by omega)).mono ?_
      rintro e w6 ⟨rfl, g6⟩
      go_wp2_with fail
      go_ret
      exact ⟨by simp, bX7.trans (g6.mono bX7.size)⟩
end Go.Proofs.YtoalfjkbgeiggaaGreatDoor
