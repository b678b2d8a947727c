/- DigestPieces: the walk. -/
import Derived.Test.YtnobcehiahcfkaaDigO
namespace Go.Proofs.Ytnobcehiahcfkaa
set_option maxRecDepth 20000
open Go.RowKit Go.Shelf
set_option maxHeartbeats 4000000 in
theorem digestPieces_walk (v : Value) (l : List ByteArray) (w : World) (h : SlR w es v l) (hs : (l.map (fun s => s.size + 1)).sum ≤ 1048576) :
    Calls Try.prog 10 #[v] w fun e w' => e = .returned (.bool true) ∧ Below w.heap.size w w' := by
  have hlen : l.length ≤ 1048576 := Nat.le_trans (sum_len _ (fun _ => by omega) l) hs
  have HT := Lib.hid h
  obtain ⟨A, c, rfl, hc, hA⟩ := h
  have HF := Lib.hid (Nat.le_trans (flat_sum l) hs)
  have HSUM := Lib.hid (fun (k : Nat) (hk : k < l.length) => Nat.le_trans (Nat.add_le_add_right (flat_sum (l.take k)) (l[k].size + 1)) (Nat.le_trans (sum_take l k hk) hs))
  go_enter Try.func10, Try.ntmps10
  go_wp2_with fail
  refine (newH_any _).mono ?_
  rintro e w1 ⟨p, rfl, hp, hh1, b1⟩
  go_wp2_with fail
  refine (digest_any _ _ (by decide)).mono ?_
  rintro e w2 ⟨rfl, b2⟩
  have hz : (mkS (digB (sl ⟨#[]⟩))).size = 32 := by rw [mkS_size, digB_len]
  have hh2 := hh1.below b2
  have bA := b1.trans (b2.mono b1.size)
  clear hh1 b1 b2
  go_wp2_with fail
  go_loopw [4, 17] (fun t iv wr => ∃ (k : Nat) (T : ByteArray), iv = .int .i64 (k : Int) ∧ k ≤ l.length ∧ t = .string T ∧ sl T = ((l.take k).map sl).flatten ∧ Hsh wr w.heap.size p (absorb H0L 0 (sl T)).1 (absorb H0L 0 (sl T)).2.1 (absorb H0L 0 (sl T)).2.2 ∧ Below w.heap.size w wr) (fun _ iv _ => l.length - (intOf iv).toNat)
  case atStart => exact ⟨0, ⟨#[]⟩, rfl, Nat.zero_le _, rfl, rfl, by rw [show sl ⟨#[]⟩ = [] from rfl, absorb_end H0L 0 [] (by decide)]; exact hh2, bA⟩
  case round =>
    obtain ⟨k, T, rfl, hk, rfl, hT, hh, hbe⟩ := hrel
    have HHH := Lib.hid hh
    have HTT := Lib.hid hT
    clear hh hT hh2 bA
    by_cases hlt : k < l.length
    · obtain ⟨b, off, c2, hv, hc2, hb, hcell⟩ := HT.out.texts (by omega)
      injection hv with h1 h2 h3
      subst h1 h3
      have c0 := (hbe.cell (p := ⟨b, off + k, none⟩) hb).trans (hcell k hlt)
      have HTF : Hid (((l.take (k + 1)).map sl).flatten = ((l.take k).map sl).flatten ++ sl l[k]) := by
        show _ = _
        rw [List.take_add_one, List.getElem?_eq_getElem hlt, Option.toList_some, List.map_append, List.flatten_append]
        simp
      have HSK := Lib.hid (HSUM.out k hlt)
      clear hcell h2 hc2
      generalize l[k] = s at *
      have hts : T.size + s.size ≤ 1048576 := by have := HSK.out; have e := congrArg List.length HTT.out; rw [sl_len] at e; omega
      have HOK := Lib.hid (absorb_ok (sl T).length H0L 0 (sl T) (Nat.le_refl _) rfl)
      have htl : (sl T).length = T.size := sl_len T
      go_wp2_with fail
      refine (writeH_any w.heap.size p _ _ _ s _ HHH.out hp HOK.out.2.1 (by have := HOK.out.2.2; omega)).mono ?_
      rintro e w3 ⟨rfl, hh3, b3⟩
      rw [← absorb_app (sl s) (sl T).length H0L 0 (sl T) (Nat.le_refl _), ← sl_append] at hh3
      have hU : sl (T ++ s) = ((l.take (k + 1)).map sl).flatten := by rw [sl_append, HTT.out, HTF.out]
      have hus : (T ++ s).size = T.size + s.size := by simp [ByteArray.size_append]
      have hbe3 := hbe.trans b3
      have hust : (sl (T ++ s)).length = T.size + s.size := by rw [sl_len, hus]
      have HU := Lib.hid hU
      have HUS := Lib.hid hus
      have HO2 := Lib.hid (absorb_ok (sl (T ++ s)).length H0L 0 (sl (T ++ s)) (Nat.le_refl _) rfl)
      have HH3 := Lib.hid hh3
      have hi63 : ((T.size : Int) + (s.size : Int)) ≤ 9223372036854775807 := by omega
      clear hU hus b3 hh3
      go_wp2_with fail
      refine (sumH_any w.heap.size p _ _ _ w3 HH3.out HO2.out.2.1 (by have := HO2.out.2.2; omega)).mono ?_
      rintro e w4 ⟨rfl, b4⟩
      rw [show finB (absorb H0L 0 (sl (T ++ s))).1 (absorb H0L 0 (sl (T ++ s))).2.1 (absorb H0L 0 (sl (T ++ s))).2.2 = digB (sl (T ++ s)) from rfl]
      go_wp2_with fail
      refine (digest_any (T ++ s) w4 (by rw [HUS.out]; omega)).mono ?_
      rintro e w5 ⟨rfl, b5⟩
      have hh5 := (HH3.out.below b4).below b5
      have hbe5 := hbe3.trans ((b4.trans (b5.mono b4.size)).mono hbe3.size)
      have HH5 := Lib.hid hh5
      have HU5 : Hid ((T ++ s).size = T.size + s.size) := HUS.out
      clear hh5 b4 b5 hust
      go_wp2_with fail
      go_roundw
      case rel => exact ⟨k + 1, T ++ s, by go_num, hlt, rfl, HU.out, HH5.out, hbe5⟩
      case measure => exact meas_lt hlt
    · have hE : l.take k = l := List.take_of_length_le (by omega)
      rw [hE] at HTT
      have HOK := Lib.hid (absorb_ok (sl T).length H0L 0 (sl T) (Nat.le_refl _) rfl)
      have hts : T.size ≤ 1048576 := by rw [← sl_len, HTT.out]; exact HF.out
      have HSL : Hid ((sl T).length = T.size) := sl_len T
      have hHL : (mkS ((sl T).flatMap hexC)).size = 2 * T.size := by rw [mkS_size, hexC_len, sl_len]
      have HTX := Lib.hid (HT.out.below hbe)
      have hj : joinS l ByteArray.empty = T := by unfold joinS; rw [joinL_flat, ← HTT.out, mkS_sl]
      have HJ := Lib.hid hj
      have HHLL := Lib.hid hHL
      clear hE hj hHL
      go_wp2_with fail
      refine (sumH_any w.heap.size p _ _ _ wr HHH.out HOK.out.2.1 (by have := HOK.out.2.2; have := HSL.out; omega)).mono ?_
      rintro e w4 ⟨rfl, b4⟩
      rw [show finB (absorb H0L 0 (sl T)).1 (absorb H0L 0 (sl T)).2.1 (absorb H0L 0 (sl T)).2.2 = digB (sl T) from rfl]
      have HT4 := Lib.hid (HTX.out.below b4)
      have hb4 := hbe.trans (b4.mono hbe.size)
      clear b4
      go_wp2_with fail
      refine (join_any _ l ByteArray.empty w4 HT4.out (by omega) (by rw [joinL_flat]; exact Nat.le_trans HF.out (by decide))).mono ?_
      rintro e w5 ⟨rfl, b5⟩
      rw [HJ.out]
      have hb5 := hb4.trans (b5.mono hb4.size)
      clear b5
      go_wp2_with fail
      refine (digest_any T w5 (by omega)).mono ?_
      rintro e w6 ⟨rfl, b6⟩
      have hb6 := hb5.trans (b6.mono hb5.size)
      clear b6
      go_wp2_with fail
      refine (hex_any T w6 (by omega)).mono ?_
      rintro e w7 ⟨rfl, b7⟩
      have HB7 := Lib.hid (hb6.trans (b7.mono hb6.size))
      have hHL := HHLL.out
      have hHL' : (((mkS ((sl T).flatMap hexC)).size : Nat) : Int) = 2 * (T.size : Int) := by omega
      clear hHL b7
      go_wp2_with fail
      go_ret
      exact ⟨rfl, HB7.out⟩
end Go.Proofs.Ytnobcehiahcfkaa
