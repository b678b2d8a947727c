/- What the journal's Recover computes. -/
import Derived.Test.YtefbfkbmkajknaaLogB
import Derived.Deep.QuietTactic
import Derived.BigQuiet
import Derived.IntWalk
namespace Go.Proofs.Ytefbfkbmkajknaa
open Go.RowKit
/-- A text's bytes from 'k' on, cut off after 'm'. -/
theorem recover_len2 (r : ByteArray) (h : 4 ≤ r.size) : Lg.len2 (sl r) = (r[0]'(by omega)).toNat * 256 + (r[1]'(by omega)).toNat := by
  have h0 := sl_getElem? r 0 (by omega)
  have h1 := sl_getElem? r 1 (by omega)
  match hl : sl r, h0, h1 with
  | a :: b :: t, h0, h1 =>
    simp at h0 h1
    simp [Lg.len2, h0, h1]
theorem len2_lt (l : List UInt8) : Lg.len2 l < 65536 := by
  unfold Lg.len2
  split
  · rename_i a b _; have := Lg.byte_lt a; have := Lg.byte_lt b; omega
  · omega
theorem i64_or_nat' (a b : Nat) (ha : a < 4294967296) (hb : b < 4294967296) : bits .or .i64 (a : Int) (b : Int) = ((a ||| b : Nat) : Int) := by
  have hx : a ||| b < 2 ^ 32 := Nat.or_lt_two_pow (by omega) (by omega)
  show IntKind.i64.wrap ((BitVec.ofInt 64 (a : Int) ||| BitVec.ofInt 64 (b : Int)).toNat : Int) = _
  rw [BitVec.toNat_or, BitVec.ofInt_natCast, BitVec.toNat_ofNat, BitVec.ofInt_natCast, BitVec.toNat_ofNat, Nat.mod_eq_of_lt (a := a) (by omega), Nat.mod_eq_of_lt (a := b) (by omega), IntWalk.i64_in _ (by omega)]
theorem or_head (a b : UInt8) : bits BinOp.or IntKind.i64 (wrap64 (wrap64 (a.toNat : Int) * 256)) (wrap64 (b.toNat : Int)) = ((a.toNat * 256 + b.toNat : Nat) : Int) := by
  have ha := Lg.byte_lt a
  have hb := Lg.byte_lt b
  have e1 : wrap64 (wrap64 (a.toNat : Int) * 256) = ((a.toNat * 256 : Nat) : Int) := by simp only [wrap64]; omega
  have e2 : wrap64 (b.toNat : Int) = ((b.toNat : Nat) : Int) := by simp only [wrap64]; omega
  rw [e1, e2, i64_or_nat' _ _ (by omega) (by omega), nat_join 8 _ _ (by omega) (by omega)]
def recN (p : List (List UInt8) × Nat) (base : Nat) (e : Ending) (w' : World) : Prop :=
  ∃ v, e = .returned (.tuple #[v, .int .i64 p.2]) ∧ Owns w' base 9 1 es v (p.1.map mkS)
theorem stringInfo' : ElemInfo Try.prog 9 (.string ByteArray.empty) 1 16 := by unfold ElemInfo; kernel_rfl
set_option maxRecDepth 100000 in
set_option maxHeartbeats 1600000 in
theorem recover_any (s : ByteArray) (w : World) (hs : s.size ≤ 2147483648) :
    Calls Try.prog 17 #[.string s] w fun e w' => recN (Lg.recAll 0 (sl s)) w.heap.size e w' ∧ Below w.heap.size w w' := by
  go_enter Try.func17, Try.ntmps17
  go_wp2_with fail
  go_loopw [4, 5] (fun v a wr => ∃ (out : List (List UInt8)) (at_ : Nat), at_ ≤ s.size ∧ out.length ≤ at_ ∧ a = .int .i64 at_ ∧ Owns wr w.heap.size 9 1 es v (out.map mkS) ∧ Lg.recAll 0 (sl s) = (out ++ (Lg.recAll out.length ((sl s).drop at_)).1, at_ + (Lg.recAll out.length ((sl s).drop at_)).2) ∧ Below w.heap.size w wr) (fun _ a _ => s.size - (intOf a).toNat)
  case atStart => exact ⟨[], 0, by omega, by simp, rfl, Owns.nil .., by simp, Below.refl _ _⟩
  case round =>
    obtain ⟨out, k, hk, ho, rfl, hown, hrec, hbel⟩ := hrel
    have HR := Lib.hid hrec
    clear hrec
    obtain ⟨r, hr, hrz⟩ : ∃ r, s.extract k s.size = r ∧ r.size = s.size - k := ⟨_, rfl, by rw [ext_size _ _ _ (Nat.le_refl _)]⟩
    have HX : Hid (sl r = (sl s).drop k) := by show _ = _; rw [← hr, sl_extract_end]
    have HZ := Lib.hid hrz
    have hrs : r.size ≤ 2147483648 := by omega
    clear hrz
    by_cases h4 : r.size < 4
    · have HF : Hid (Lg.recAll 0 (sl s) = (out, k)) := by
        show _ = _
        rw [HR.out, ← HX.out, Lg.recAll_none (Lg.rec1_short _ _ (by rw [sl_len]; exact h4))]
        simp
      go_wp2_with fail
      go_ret2
      exact ⟨by unfold recN; rw [HF.out]; exact ⟨_, rfl, hown⟩, hbel⟩
    · have d4 : decide ((r.size : Int) < 4) = false := by simp; omega
      have g0 : 0 < r.size := by omega
      have g1 : 1 < r.size := by omega
      have gi0 : (0 : Int) < (r.size : Int) := by omega
      have gi1 : (1 : Int) < (r.size : Int) := by omega
      have hlen := recover_len2 r (by omega)
      have hlt := len2_lt (sl r)
      have hor : bits BinOp.or IntKind.i64 (wrap64 (wrap64 (r[0].toNat : Int) * 256)) (wrap64 (r[1].toNat : Int)) = ((Lg.len2 (sl r) : Nat) : Int) := by rw [hlen]; exact or_head _ _
      generalize hm : Lg.len2 (sl r) = m at hlen hlt hor
      have HM := Lib.hid hm
      clear hm hlen
      obtain ⟨A, cap, hv⟩ : ∃ A cap, u4 = .slice A out.length cap := by
        rcases hown.form with ⟨h1, h2⟩ | ⟨g, c, h1⟩
        · have : out = [] := by simpa using h2
          subst this
          exact ⟨_, _, h1⟩
        · exact ⟨_, _, by rw [h1, List.length_map]⟩
      subst hv
      by_cases h8 : (r.size : Int) < 8 + m
      · have d8 : decide ((r.size : Int) < 4 + (m : Int) + 4) = true := by simp; omega
        have HF : Hid (Lg.recAll 0 (sl s) = (out, k)) := by
          show _ = _
          rw [HR.out, ← HX.out, Lg.recAll_none]
          · simp
          · unfold Lg.rec1; rw [HM.out, sl_len, if_neg h4, if_pos (by omega)]
        clear h4 h8
        go_wp2_with fail
        go_quiet (fail)
        go_wp2_with fail
        go_ret2
        exact ⟨by unfold recN; rw [HF.out]; exact ⟨_, rfl, hown⟩, below_drewN hbel _⟩
      · have d8 : decide ((r.size : Int) < 4 + (m : Int) + 4) = false := by simp; omega
        have i1 : (4 : Int) + (m : Int) ≤ (r.size : Int) := by omega
        have i2 : (4 : Int) ≤ 4 + (m : Int) := by omega
        clear h4
        go_wp2_with fail
        go_quiet (fail)
        go_wp2_with fail
        have hbz : (r.extract 4 (4 + m)).size = m := by rw [ext_size _ _ _ (by omega)]; omega
        have hsb : sl (r.extract 4 (4 + m)) = ((sl r).drop 4).take m := by rw [sl_extract, Nat.add_sub_cancel_left]
        generalize hb : r.extract 4 (4 + m) = b at hbz hsb
        have HB := Lib.hid hb
        have HBZ := Lib.hid hbz
        have HSB := Lib.hid hsb
        have hb1 : b.size ≤ 65536 := by omega
        have hon : out.length ≤ 2147483648 := by omega
        clear hb hbz hsb
        have bel1 := below_drewN hbel nq
        by_cases hm1 : 1000 < b.size
        · have HF : Hid (Lg.recAll 0 (sl s) = (out, k)) := by
            show _ = _
            rw [HR.out, ← HX.out, Lg.recAll_none]
            · simp
            · unfold Lg.rec1; rw [HM.out, sl_len, if_neg (by omega), if_neg (by omega), if_neg (by have := HBZ.out; omega)]
          refine (frame_large out.length b _ hon hm1 (by omega)).mono ?_
          rintro e w' ⟨rfl, rfl⟩
          go_wp2_with fail
          go_ret2
          exact ⟨by unfold recN; rw [HF.out]; exact ⟨_, rfl, hown⟩, bel1⟩
        · refine (frame_any out.length b _ hon (by omega)).mono ?_
          rintro e w1 ⟨rfl, bel2⟩
          have hfz : (mkS (Lg.frame out.length (sl b))).size = b.size + 8 := by rw [mkS_size, Lg.frame_len, sl_len]
          have hfe : sl (mkS (Lg.frame out.length (sl b))) = Lg.frame out.length (sl b) := sl_mkS _
          generalize mkS (Lg.frame out.length (sl b)) = f at hfz hfe
          have HFZ := Lib.hid hfz
          have HFE := Lib.hid hfe
          have i3 : (f.size : Int) ≤ (r.size : Int) := by have := HBZ.out; omega
          have i4 : f.size ≤ 2000 := by omega
          clear hfz hfe
          have bel3 := bel1.trans (bel2.mono bel1.size)
          have hown' := Lib.hid ((show Owns (wr.drewN nq) _ _ _ _ _ _ from hown).below bel2)
          by_cases he : sl f = sl (r.extract 0 f.size)
          · have d9 : (!(f.toList == (r.extract 0 f.size).toList)) = false := by rw [ba_toList, ba_toList, he]; simp
            have H1 : Lg.rec1 out.length ((sl s).drop k) = some (sl b) := by
              rw [← HX.out]
              unfold Lg.rec1; rw [HM.out, sl_len, if_neg (by omega), if_neg (by omega), if_pos, HSB.out]
              refine ⟨by have := HBZ.out; omega, ?_⟩
              rw [← HSB.out, ← HFE.out, he, sl_extract, HFZ.out, HBZ.out]; simp [Nat.add_comm]
            have HF : Hid (Lg.recAll 0 (sl s) = ((out ++ [sl b]) ++ (Lg.recAll (out ++ [sl b]).length ((sl s).drop (k + f.size))).1, k + f.size + (Lg.recAll (out ++ [sl b]).length ((sl s).drop (k + f.size))).2)) := by
              show _ = _
              rw [HR.out, Lg.recAll_some H1, List.drop_drop, show 8 + (sl b).length = f.size from by rw [sl_len, HFZ.out]; omega]
              simp [Nat.add_assoc]
            have i5 : k + f.size ≤ s.size := by have := HZ.out; omega
            have i6 : 8 ≤ f.size := by have := HFZ.out; omega
            clear he H1
            have hbe := HB.out
            go_wp2_with (at_builtin; go_must (refine wpList_append_owns rfl (.tmp 56) (.tmp 61) _ rfl w.heap.size 9 (.string ByteArray.empty) 1 16 es Try.underlying25 stringInfo' rfl (by decide) _ _ rfl (hown'.out.alloc _) ⟨w1.heap.size, 0, none⟩ 1 1 [b] rfl rfl rfl (new_cells _ [.string b] _) (es_one [b]) (by simp [maxLen]; omega) (by simp; omega) (bel_size bel3 (Nat.le_refl _) _) ?_); intro v2 w2 hown2 hg2)
            go_roundw
            case rel => exact ⟨out ++ [sl b], k + f.size, i5, by simp; omega, by go_num, by rw [List.map_append, List.map_singleton, mkS_sl]; exact hown2, HF.out, bel_append bel3 (Nat.le_refl _) hown'.out hg2⟩
            case measure => simp [intOf]; omega
          · have d9 : (!(f.toList == (r.extract 0 f.size).toList)) = true := by rw [ba_toList, ba_toList]; simpa using he
            have HF : Hid (Lg.recAll 0 (sl s) = (out, k)) := by
              show _ = _
              rw [HR.out, ← HX.out, Lg.recAll_none]
              · simp
              · unfold Lg.rec1; rw [HM.out, sl_len, if_neg (by omega), if_neg (by omega), if_neg]
                rintro ⟨-, h⟩
                rw [← HSB.out, ← HFE.out] at h
                apply he
                rw [h, sl_extract, HFZ.out, HBZ.out]; simp [Nat.add_comm]
            go_wp2_with fail
            go_ret2
            exact ⟨by unfold recN; rw [HF.out]; exact ⟨_, rfl, hown'.out⟩, bel3⟩
end Go.Proofs.Ytefbfkbmkajknaa
