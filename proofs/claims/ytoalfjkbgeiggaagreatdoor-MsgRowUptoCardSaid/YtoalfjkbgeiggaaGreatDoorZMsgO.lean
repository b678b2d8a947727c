/- MsgRow: the walk. -/
import Derived.Test.YtoalfjkbgeiggaaGreatDoorZMsgN
import Derived.Test.YtoalfjkbgeiggaaGreatDoorZMsgV
namespace Go.Proofs.YtoalfjkbgeiggaaGreatDoor
set_option maxRecDepth 20000
open Go.RowKit
open Ck Ms Bd Ln
theorem reqInfo : ElemInfo Tryz.prog 24 (.agg #[.string ByteArray.empty, .string ByteArray.empty, .slice none 0 0, .string ByteArray.empty]) 4 72 := by unfold ElemInfo; kernel_rfl
theorem flat_get {α : Type} {en : α → List Value} {size : Nat} (hen : ∀ x, (en x).length = size) : ∀ (xs : List α) (k j : Nat) (hk : k < xs.length), j < size → (xs.flatMap en)[k * size + j]? = (en xs[k])[j]?
  | [], k, j, hk, _ => by simp at hk
  | x :: xs, 0, j, _, hj => by
    rw [List.flatMap_cons, Nat.zero_mul, Nat.zero_add, List.getElem?_append_left (by rw [hen]; exact hj)]; rfl
  | x :: xs, k + 1, j, hk, hj => by
    rw [List.flatMap_cons, List.getElem?_append_right (by rw [hen, Nat.succ_mul]; omega), hen, Nat.succ_mul]
    have := flat_get hen xs k j (by simpa using hk) hj
    rw [show k * size + size + j - size = k * size + j by omega, this]
    rfl
theorem SlR.rowN {α : Type} {w : World} {en : α → List Value} {size : Nat} {v : Value} {xs : List α} (hen : ∀ x, (en x).length = size) (h : SlR w en v xs) (hn : 0 < xs.length) :
    ∃ b off c, v = .slice (some ⟨b, off, none⟩) xs.length c ∧ xs.length ≤ c ∧ b < w.heap.size ∧ ∀ k (hk : k < xs.length) j u, (en xs[k])[j]? = some u → w.cell? ⟨b, off + (k * size + j), none⟩ = some u := by
  obtain ⟨A, c, hv, hc, hx⟩ := h
  obtain ⟨b, off, rfl, hb, hcell⟩ := hx hn
  refine ⟨b, off, c, hv, hc, hb, fun k hk j u hu => hcell _ _ ?_⟩
  rw [flat_get hen xs k j hk]
  · exact hu
  · have := (List.getElem?_eq_some_iff.1 hu).1
    rwa [hen] at this
theorem rq_one (q : Rq) (h : q.v.oneCell' = true) : ∀ u ∈ [q].flatMap e_rq, u.oneCell' = true := by
  intro u hu
  simp only [e_rq, List.flatMap_cons, List.flatMap_nil, List.append_nil, List.mem_cons, List.not_mem_nil, or_false] at hu
  rcases hu with rfl | rfl | rfl | rfl
  · rfl
  · rfl
  · exact h
  · rfl
theorem wt_take (xs : List Rq) (k : Nat) : ((xs.take k).map Rq.wt).sum ≤ (xs.map Rq.wt).sum := by
  conv => rhs; rw [← List.take_append_drop k xs, List.map_append, List.sum_append]
  omega
set_option maxHeartbeats 8000000 in
theorem msgRow_walk (v : Value) (xs : List Rq) (w : World) (h : SlR w e_rq v xs) (hb : (xs.map Rq.wt).sum ≤ 1048576) (hq : ∀ q ∈ xs, SlR w e_ss q.v q.l) (hm : HasMax w) (he : HasErr w) (hz : HasTz w) :
    Calls Tryz.prog 4 #[v] w fun e w' => e = .returned (.bool true) ∧ Below w.heap.size w w' := by
  have hlen : xs.length ≤ 1048576 := Nat.le_trans (sum_len Rq.wt (fun q => by unfold Rq.wt; omega) xs) hb
  have HB := Lib.hid hb
  have HQ := Lib.hid hq
  have HV := Lib.hid (fun hn => h.rowN (size := 4) (fun _ => rfl) hn)
  have HN := Lib.hid (fun w' (hbb : Below w.heap.size w w') => readNil2_any w' (hm.below hbb) (he.below hbb))
  have HMX := Lib.hid hm
  have HER := Lib.hid he
  have HTZ := Lib.hid hz
  obtain ⟨A, c, rfl, hc⟩ := h.form
  clear hq hm he hz hb h
  go_enter Tryz.func4, Tryz.ntmps4
  go_wp2_with fail
  go_loopw [3, 4, 19] (fun sv wv iv wr => ∃ (k : Nat) (S : ByteArray) (zs : List Rq), iv = .int .i64 (k : Int) ∧ k ≤ xs.length ∧ sv = .string S ∧ Hid (sl S = (okR (xs.take k)).flatMap (·.2)) ∧ Hid ((okR (xs.take k)).map (·.1) = zs) ∧ Owns wr w.heap.size 24 4 e_rq wv zs ∧ Below w.heap.size w wr) (fun _ _ iv _ => xs.length - (intOf iv).toNat)
  case atStart => exact ⟨0, ByteArray.empty, [], rfl, Nat.zero_le _, rfl, rfl, rfl, Owns.nil .., Below.refl _ _⟩
  case round =>
    obtain ⟨k, S, zs, rfl, hk, rfl, HS, HZ, how, hbel⟩ := hrel
    have hSz : S.size ≤ 14680064 := by
      have h1 := congrArg List.length HS.out
      have h2 := HB.out
      have hol := okR_len (xs.take k)
      have hwt := wt_take xs k
      rw [sl_len] at h1
      omega
    have hon : zs.length ≤ 1048576 := by
      have hol := (okR_len (xs.take k)).2
      have h1 := congrArg List.length HZ.out
      rw [List.length_map] at h1
      rw [List.length_take] at hol
      omega
    have HO := Lib.hid how
    obtain ⟨A2, c2, rfl⟩ := how.slice
    clear how
    by_cases hlt : k < xs.length
    · obtain ⟨bb, off, c3, hv2, hc3, hbb, hcell⟩ := HV.out (by omega)
      injection hv2 with g1 g2 g3
      subst g1 g3
      have hqs := HQ.out xs[k] (List.getElem_mem hlt)
      have hqw : (xs[k]).wt ≤ 1048576 := Nat.le_trans (sum_mem Rq.wt (List.getElem_mem hlt)) HB.out
      have HSN : Hid (okR (xs.take (k + 1)) = okR (xs.take k) ++ (match writeR (xs[k]).m (xs[k]).t (xs[k]).l (sl (xs[k]).b) with | .ok x => [(xs[k], x)] | .error _ => [])) := by
        show _ = _
        rw [List.take_add_one, List.getElem?_eq_getElem hlt, Option.toList_some, okR_snoc]
        cases writeR (xs[k]).m (xs[k]).t (xs[k]).l (sl (xs[k]).b) <;> rfl
      have c0 := (hbel.cell (p := ⟨bb, off + (k * 4 + 0), none⟩) hbb).trans (hcell k hlt 0 _ rfl)
      have c1 := (hbel.cell (p := ⟨bb, off + (k * 4 + 1), none⟩) hbb).trans (hcell k hlt 1 _ rfl)
      have c2' := (hbel.cell (p := ⟨bb, off + (k * 4 + 2), none⟩) hbb).trans (hcell k hlt 2 _ rfl)
      have c3 := (hbel.cell (p := ⟨bb, off + (k * 4 + 3), none⟩) hbb).trans (hcell k hlt 3 _ rfl)
      clear hcell g2
      generalize xs[k] = q at *
      obtain ⟨m, t, b, qv, l⟩ := q
      dsimp only at hqs HSN c0 c1 c2' c3
      unfold Rq.wt at hqw
      dsimp only at hqw
      have hwl : wt l ≤ 1048576 := Nat.le_trans (Nat.le_trans (Nat.le_add_left _ (m.size + t.size + b.size)) (Nat.le_add_right _ 4)) hqw
      obtain ⟨A1, cc1, rfl, -⟩ := hqs.form
      rw [Nat.add_zero] at c0
      rw [← Nat.add_assoc] at c1 c2' c3
      have bX := hbel.alloc hbel.size (.cells #[.string m, .string t, .slice A1 l.length cc1, .string b] 24)
      have hX := Blk.new wr 24 #[.string m, .string t, .slice A1 l.length cc1, .string b]
      have hvX := (hqs.below hbel).alloc (.cells #[.string m, .string t, .slice A1 l.length cc1, .string b] 24)
      have HOX := Lib.hid (HO.out.alloc (.cells #[.string m, .string t, .slice A1 l.length cc1, .string b] 24))
      go_wp2_with fail
      cases hx : writeR m t l (sl b) with
      | error cd =>
        rw [hx] at HSN
        dsimp only at HSN
        rw [List.append_nil] at HSN
        refine (writeErr_any m t _ l b cd _ hx hvX hwl (by omega) (by omega) (by omega) (HTZ.out.below bX) (HER.out.below bX)).mono ?_
        rintro e w1 ⟨⟨rfl, hcd⟩, g1⟩
        have hne : (cd == 0) = false := by rw [beq_eq_false_iff_ne]; exact hcd
        have bX2 := bX.trans (g1.mono bX.size)
        have hO2 := HOX.out.below g1
        clear hx hcd hvX
        go_wp2_with fail
        go_roundw
        case rel => exact ⟨k + 1, S, zs, by go_num, by omega, rfl, by rw [HSN.out]; exact HS, by rw [HSN.out]; exact HZ, hO2, bX2⟩
        case measure => simp [intOf]; omega
      | ok x =>
        rw [hx] at HSN
        dsimp only at HSN
        obtain ⟨-, -, -, -, -, hx8, -⟩ := writeR_ok hx
        have HW := Lib.hid (writeOk_any m t _ l b x _ hx hvX (HTZ.out.below bX) (HER.out.below bX))
        obtain ⟨X, hX'⟩ : ∃ X, mkS x = X := ⟨_, rfl⟩
        have hXz : X.size ≤ 80000 := by rw [← hX', mkS_size]; exact hx8
        have HXS : Hid (sl X = x) := by show _ = _; rw [← hX', sl_mkS]
        rw [hX'] at HW
        clear hx hX' hx8
        refine HW.out.mono ?_
        rintro e w1 ⟨rfl, g1⟩
        have hX2 := Blk.below hX g1 hX.lt
        have bX2 := bX.trans (g1.mono bX.size)
        have HO2 := Lib.hid (HOX.out.below g1)
        have d0 := hX2.cell 0
        have d1 := hX2.cell 1
        have d2 := hX2.cell 2
        have d3 := hX2.cell 3
        have hz1 : S.size + X.size ≤ 9223372036854775807 := by omega
        have HNC := new_cells w1 [.string m, .string t, .slice A1 l.length cc1, .string b] 24
        clear HW hvX hX
        go_wp2_with (at_builtin; go_must (refine wpList_append_owns rfl (.tmp 33) (.tmp 35) _ rfl w.heap.size 24 (.agg #[.string ByteArray.empty, .string ByteArray.empty, .slice none 0 0, .string ByteArray.empty]) 4 72 e_rq Tryz.underlying32 reqInfo rfl (by decide) _ zs rfl (HO2.out.alloc _) ⟨w1.heap.size, 0, none⟩ 1 1 [⟨m, t, b, .slice A1 l.length cc1, l⟩] rfl rfl rfl HNC (rq_one _ rfl) (by simp only [maxLen]; omega) (by omega) (bel_size bX2 (Nat.le_refl _) _) ?_); intro v3 w3 hown3 hg3)
        go_roundw
        case rel =>
          refine ⟨k + 1, S ++ X, zs ++ [⟨m, t, b, .slice A1 l.length cc1, l⟩], by go_num, by omega, rfl, ?_, ?_, hown3, (bX2.alloc bX2.size _).grown hg3 (bel_size bX2 (Nat.le_refl _) _) (fun k hk => (HO2.out.lt k hk).1)⟩
          · show _ = _
            rw [HSN.out, sl_append, HS.out, HXS.out]; simp
          · show _ = _
            rw [HSN.out, List.map_append, HZ.out]; rfl
        case measure => simp [intOf]; omega
    · have hE : xs.take k = xs := List.take_of_length_le (by omega)
      rw [hE] at HS HZ
      have HME := Lib.hid (fun p (hp : p ∈ okR xs) => okR_mem hp)
      generalize okR xs = ys at *
      have hzl : zs.length = ys.length := by rw [← HZ.out, List.length_map]
      go_wp2_with fail
      refine (HN.out _ hbel).mono ?_
      rintro e w2 ⟨rfl, g2⟩
      have bX3 := hbel.trans (g2.mono hbel.size)
      have bX4 := bX3.alloc bX3.size (.cells #[.string ⟨#[]⟩, .string ⟨#[]⟩, .slice none 0 0, .string ⟨#[]⟩] 24)
      have hR4 := (SlR.of_owns (HO.out.below g2)).alloc (.cells #[.string ⟨#[]⟩, .string ⟨#[]⟩, .slice none 0 0, .string ⟨#[]⟩] 24)
      have HV4 := Lib.hid (fun hn => hR4.rowN (size := 4) (fun _ => rfl) hn)
      clear hR4
      go_wp2_with fail
      generalize hWX : w2.alloc (.cells #[.string ⟨#[]⟩, .string ⟨#[]⟩, .slice none 0 0, .string ⟨#[]⟩] 24) = w4 at *
      go_loopw [3, 47] (fun sv iv wr => ∃ (k : Nat) (S : ByteArray), iv = .int .i64 (k : Int) ∧ k ≤ zs.length ∧ sv = .string S ∧ Hid (sl S = (ys.drop k).flatMap (·.2)) ∧ S.size ≤ 14680064 ∧ Below w4.heap.size w4 wr) (fun _ iv _ => zs.length - (intOf iv).toNat)
      case atStart => exact ⟨0, S, rfl, Nat.zero_le _, rfl, by rw [List.drop_zero]; exact HS, hSz, Below.refl _ _⟩
      case round =>
        obtain ⟨k2, S2, rfl, hk2, rfl, HS2, hSz2, hbel2⟩ := hrel
        have bR := bX4.trans (hbel2.mono bX4.size)
        by_cases hlt2 : k2 < zs.length
        · obtain ⟨bb, off, c4, hv2, hc4, hbb, hcell⟩ := HV4.out (by omega)
          injection hv2 with g1' g2' g3'
          subst g1' g3'
          have hy2 : k2 < ys.length := by omega
          have hzy : zs[k2] = (ys[k2]).1 := by
            have := HZ.out
            subst this
            rw [List.getElem_map]
          have HM := HME.out ys[k2] (List.getElem_mem hy2)
          have hqs := HQ.out _ HM.1
          have hwr := HM.2
          have HSD : Hid (sl S2 = (ys[k2]).2 ++ (ys.drop (k2 + 1)).flatMap (·.2)) := by
            show _ = _
            rw [HS2.out, List.drop_eq_getElem_cons hy2, List.flatMap_cons]
          have c0 := (hbel2.cell (p := ⟨bb, off + (k2 * 4 + 0), none⟩) hbb).trans (hcell k2 hlt2 0 _ rfl)
          have c1 := (hbel2.cell (p := ⟨bb, off + (k2 * 4 + 1), none⟩) hbb).trans (hcell k2 hlt2 1 _ rfl)
          have c2' := (hbel2.cell (p := ⟨bb, off + (k2 * 4 + 2), none⟩) hbb).trans (hcell k2 hlt2 2 _ rfl)
          have c3 := (hbel2.cell (p := ⟨bb, off + (k2 * 4 + 3), none⟩) hbb).trans (hcell k2 hlt2 3 _ rfl)
          clear hcell g2' HM
          rw [hzy] at c0 c1 c2' c3
          generalize ys[k2] = p at *
          obtain ⟨q, x⟩ := p
          obtain ⟨m, t, b, qv, l⟩ := q
          dsimp only at hqs hwr HSD c0 c1 c2' c3
          obtain ⟨-, -, -, h30, -, hx8, hx0⟩ := writeR_ok hwr
          obtain ⟨A1, cc1, rfl, -⟩ := hqs.form
          rw [Nat.add_zero] at c0
          rw [← Nat.add_assoc] at c1 c2' c3
          obtain ⟨rest, hrest⟩ : ∃ rest, (ys.drop (k2 + 1)).flatMap (·.2) = rest := ⟨_, rfl⟩
          have HRE := Lib.hid hrest
          rw [hrest] at HSD
          have hxS : x.length ≤ S2.size := by
            have := congrArg List.length HSD.out
            rw [sl_len, List.length_append] at this
            omega
          have hrw := readR_write hwr rest
          have HSE := HSD
          have hX := Blk.new wr 24 #[.string m, .string t, .slice A1 l.length cc1, .string b]
          have bX := hbel2.alloc hbel2.size (.cells #[.string m, .string t, .slice A1 l.length cc1, .string b] 24)
          have bXR := bR.alloc bR.size (.cells #[.string m, .string t, .slice A1 l.length cc1, .string b] 24)
          have hvX := (hqs.below bR).alloc (.cells #[.string m, .string t, .slice A1 l.length cc1, .string b] 24)
          have HQ2 := Lib.hid (readReq_any S2 _ (by omega) (HMX.out.below bXR) (HER.out.below bXR))
          rw [HSD.out, hrw] at HQ2
          unfold ReqAns vRq at HQ2
          dsimp only at HQ2
          rw [mkS_sl] at HQ2
          have hn1 : ¬ ((x.length : Int) < 1) := by omega
          have hn2 : ¬ ((S2.size : Int) < (x.length : Int)) := by omega
          have hn3 : ¬ ((x.length : Int) > (S2.size : Int)) := by omega
          clear hrw hrest hwr hqs hzy HSD
          go_wp2_with fail
          refine HQ2.out.mono ?_
          rintro e w5 ⟨⟨v5, rfl, hown5⟩, g5⟩
          have hu5 := SlR.of_owns hown5
          obtain ⟨A5, cc5, rfl, -⟩ := hu5.form
          have hX6 := (Blk.below hX g5 hX.lt).alloc (.cells #[.string m, .string t, .slice A5 l.length cc5, .string b] 24)
          have hv6 := (hvX.below g5).alloc (.cells #[.string m, .string t, .slice A5 l.length cc5, .string b] 24)
          have hu6 := hu5.alloc (.cells #[.string m, .string t, .slice A5 l.length cc5, .string b] 24)
          have bX6 := (bX.trans (g5.mono bX.size)).alloc (bX.trans (g5.mono bX.size)).size (.cells #[.string m, .string t, .slice A5 l.length cc5, .string b] 24)
          have hlt5 := (Blk.below hX g5 hX.lt).lt
          have d0 := hX6.cell 0
          have d1 := hX6.cell 1
          have d2 := hX6.cell 2
          have d3 := hX6.cell 3
          clear hown5 HQ2 hX hvX
          go_wp2_with fail
          refine (sameReq_true m t b _ _ l _ hu6 hv6 (by omega)).mono ?_
          rintro e w6 ⟨rfl, g6⟩
          go_wp2_with fail
          go_roundw
          case rel =>
            refine ⟨k2 + 1, S2.extract x.length S2.size, by go_num, by omega, rfl, ?_, ?_, bX6.trans (g6.mono bX6.size)⟩
            · show _ = _
              rw [sl_extract_end, HSE.out, HRE.out, List.drop_left' rfl]
            · have hz := congrArg List.length (sl_extract_end S2 x.length)
              rw [sl_len, List.length_drop, sl_len] at hz
              omega
          case measure => simp [intOf]; omega
        · have hS0 : S2 = ByteArray.empty := by
            apply sl_inj
            rw [HS2.out, List.drop_eq_nil_of_le (by omega)]
            rfl
          subst hS0
          go_wp2_with fail
          go_ret
          exact ⟨by simp, bR⟩
end Go.Proofs.YtoalfjkbgeiggaaGreatDoor
