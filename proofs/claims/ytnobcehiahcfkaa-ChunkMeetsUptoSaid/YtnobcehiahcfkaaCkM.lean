/- ChunkMeets: two texts that end alike, cut at one place, 32 bytes at least into what is alike, are cut alike from there on. -/
import Derived.Test.YtnobcehiahcfkaaCkE
namespace Go.Proofs.Ytnobcehiahcfkaa
set_option maxRecDepth 20000
open Go.RowKit Go.Shelf
set_option maxHeartbeats 2000000 in
theorem chunkMeets_walk (a b s : ByteArray) (w : World) (ha : a.size ≤ 1048576) (hb : b.size ≤ 1048576) (hs : s.size ≤ 1048576) :
    Calls Try.prog 4 #[.string a, .string b, .string s] w fun e w' => e = .returned (.bool true) ∧ Below w.heap.size w w' := by
  have HM := Lib.hid (fun i k p q => Pc.meets gear (sl a) (sl b) (sl s) i k p q)
  have HS1 : Hid (sl (a ++ s) = sl a ++ sl s) := sl_append a s
  have HS2 : Hid (sl (b ++ s) = sl b ++ sl s) := sl_append b s
  have HB1 := Lib.hid (ed_len (sl a ++ sl s) (by rw [List.length_append, sl_len, sl_len]; omega))
  have HB2 := Lib.hid (ed_len (sl b ++ sl s) (by rw [List.length_append, sl_len, sl_len]; omega))
  have HE1 := Lib.hid (fun i q => ed_le (sl a ++ sl s) (i := i) (q := q))
  have HE2 := Lib.hid (fun i q => ed_le (sl b ++ sl s) (i := i) (q := q))
  rw [List.length_append, sl_len, sl_len] at HE1 HE2
  rw [sl_len, sl_len] at HM
  go_enter Try.func4, Try.ntmps4
  go_wp2_with fail
  refine (edges_any (a ++ s) w (by rw [ByteArray.size_append]; omega)).mono ?_
  rintro e w1 ⟨v1, rfl, ho1, b1⟩
  go_wp2_with fail
  refine (edges_any (b ++ s) w1 (by rw [ByteArray.size_append]; omega)).mono ?_
  rintro e w2 ⟨v2, rfl, ho2, b2⟩
  rw [HS1.out] at ho1
  rw [HS2.out] at ho2
  generalize Pc.ed gear (sl a ++ sl s) = xs at *
  generalize Pc.ed gear (sl b ++ sl s) = ys at *
  have bB := b1.trans (b2.mono b1.size)
  have HX := Lib.hid ((SlR.of_owns ho1).below b2)
  have HY := Lib.hid (SlR.of_owns ho2)
  obtain ⟨A, c, rfl, hcA⟩ := (SlR.of_owns ho1).form
  obtain ⟨B, d, rfl, hcB⟩ := (SlR.of_owns ho2).form
  have hx8 : xs.length ≤ 140737488351232 := HB1.out
  have hy8 : ys.length ≤ 140737488351232 := HB2.out
  clear ho1 ho2
  go_wp2_with fail
  refine (cut_x_any w2).mono ?_
  rintro e w3 ⟨⟨A', c', rfl⟩, b3⟩
  have bC := bB.trans (b3.mono bB.size)
  have HX3 := Lib.hid (HX.out.below b3)
  have HY3 := Lib.hid (HY.out.below b3)
  clear HX HY
  generalize hla : a.size = la at *
  generalize hlb : b.size = lb at *
  go_wp2_with fail
  go_loopw [27] (fun i wr => ∃ k : Nat, i = .int .i64 k ∧ k ≤ xs.length ∧ Below w3.heap.size w3 wr) (fun i _ => xs.length - (intOf i).toNat)
  case atStart => exact ⟨0, rfl, Nat.zero_le _, Below.refl _ _⟩
  case round =>
    obtain ⟨i, rfl, hi, hbl1⟩ := hrel
    by_cases hlt : i < xs.length
    · obtain ⟨ba, oa, c1, hv1, hc1, hb1, hcell1⟩ := HX3.out.nums (by omega)
      injection hv1 with g1 g2 g3
      subst g1 g3
      have c0 := (hbl1.cell (p := ⟨ba, oa + i, none⟩) hb1).trans (hcell1 i hlt)
      have hp? : xs[i]? = some xs[i] := List.getElem?_eq_getElem hlt
      have hpl := HE1.out _ _ hp?
      have HP := Lib.hid hp?
      have HC1 := Lib.hid hcell1
      clear hcell1 g2 hp?
      generalize xs[i] = p at *
      go_wp2_with fail
      go_loopw [34] (fun j wr2 => ∃ k : Nat, j = .int .i64 k ∧ k ≤ ys.length ∧ Below w3.heap.size w3 wr2) (fun j _ => ys.length - (intOf j).toNat)
      case atStart => exact ⟨0, rfl, Nat.zero_le _, hbl1⟩
      case round =>
        obtain ⟨k, rfl, hk, hbl2⟩ := hrel
        by_cases hlk : k < ys.length
        · obtain ⟨bb, ob, c2, hv2, hc2, hb2, hcell2⟩ := HY3.out.nums (by omega)
          injection hv2 with g1 g2 g3
          subst g1 g3
          have d0 := (hbl2.cell (p := ⟨bb, ob + k, none⟩) hb2).trans (hcell2 k hlk)
          have hq? : ys[k]? = some ys[k] := List.getElem?_eq_getElem hlk
          have hql := HE2.out _ _ hq?
          have HQ := Lib.hid hq?
          have HC2 := Lib.hid hcell2
          clear hcell2 g2 hq?
          generalize ys[k] = q at *
          by_cases hne : (p : Int) - (la : Int) = (q : Int) - (lb : Int)
          · have e1 : ((p : Int) - (la : Int) != (q : Int) - (lb : Int)) = false := by rw [hne]; simp
            by_cases h32 : (32 : Int) ≤ (p : Int) - (la : Int)
            · have e2 : decide ((p : Int) - (la : Int) < 32) = false := decide_eq_false (by omega)
              obtain ⟨hle, hall⟩ := HM.out i k p q HP.out HQ.out hne h32
              have HAL := Lib.hid hall
              have hle' : ((xs.length : Int) - (i : Int) != (ys.length : Int) - (k : Int)) = false := by
                rw [bne_eq_false_iff_eq]; omega
              have hmax : (xs.length : Int) - (i : Int) = ((xs.length - i : Nat) : Int) := by omega
              have HLE := Lib.hid hle
              have HNE := Lib.hid hne
              clear hle hall hne
              go_wp2_with fail
              go_loopw [68] (fun j wr3 => ∃ m : Nat, j = .int .i64 m ∧ m ≤ xs.length - i ∧ Below w3.heap.size w3 wr3) (fun j _ => xs.length - i - (intOf j).toNat)
              case atStart => exact ⟨0, rfl, Nat.zero_le _, hbl2⟩
              case round =>
                obtain ⟨m, rfl, hm, hbl3⟩ := hrel
                by_cases hml : m < xs.length - i
                · obtain ⟨u, v, hu, hv, huv⟩ := HAL.out m hml
                  obtain ⟨hiu, hu'⟩ := List.getElem?_eq_some_iff.1 hu
                  obtain ⟨hiv, hv'⟩ := List.getElem?_eq_some_iff.1 hv
                  have k1 := HC1.out (i + m) hiu
                  rw [hu'] at k1
                  have k2 := HC2.out (k + m) hiv
                  rw [hv'] at k2
                  have hul := HE1.out _ _ hu
                  have hvl := HE2.out _ _ hv
                  have e9 : ((u : Int) - (la : Int) != (v : Int) - (lb : Int)) = false := by rw [huv]; simp
                  have hmd : decide ((m : Int) < (xs.length : Int) - (i : Int)) = true := decide_eq_true (by omega)
                  have hmi : ((i : Int) + (m : Int)).toNat = i + m := by omega
                  have hmk : ((k : Int) + (m : Int)).toNat = k + m := by omega
                  have hw1 : IntKind.i64.wrap ((i : Int) + (m : Int)) = (i : Int) + (m : Int) := i64_small (by omega) (by omega)
                  have hw2 : IntKind.i64.wrap ((k : Int) + (m : Int)) = (k : Int) + (m : Int) := i64_small (by omega) (by omega)
                  have hw3 : IntKind.i64.wrap ((u : Int) - (la : Int)) = (u : Int) - (la : Int) := i64_small (by omega) (by omega)
                  have hw4 : IntKind.i64.wrap ((v : Int) - (lb : Int)) = (v : Int) - (lb : Int) := i64_small (by omega) (by omega)
                  have hx0 : (0 : Int) ≤ (i : Int) + (m : Int) := by omega
                  have hy0 : (0 : Int) ≤ (k : Int) + (m : Int) := by omega
                  have hx1 : (i : Int) + (m : Int) < (xs.length : Int) := by omega
                  have hy1 : (k : Int) + (m : Int) < (ys.length : Int) := by omega
                  clear hu' hv' hu hv huv
                  go_wp2_with fail
                  refine wp_region_seq [(true, 0), (true, 1), (true, 2), (true, 3), (true, 4), (true, 5), (true, 6), (true, 7), (true, 8), (true, 9), (true, 10), (true, 11), (true, 12), (true, 13), (true, 14), (true, 15), (true, 16), (true, 17), (true, 18)] (fun w' => Below w3.heap.size w3 w') (by kernel_rfl) (by kernel_rfl) (fun _ _ _ _ _ h => h) (by kernel_rfl) (by kernel_rfl) (by first | exact (Below.refl _ _).drew | exact Below.drew (by assumption)) ?_
                  have bS : Below w3.heap.size w3 _ := (by first | exact Below.drew (by assumption) | exact (Below.refl _ w3).drew)
                  iterate 19 (first
                    | (apply seqH_skip; (focus (simp only [List.getElem?_toArray, List.getElem?_cons_succ, List.getElem?_cons_zero]; rfl)); (focus rfl); simp only [Act.put, List.setIfInBounds_toArray, List.set_cons_zero, List.set_cons_succ])
                    | (apply seqH_take; (focus (simp only [List.getElem?_toArray, List.getElem?_cons_succ, List.getElem?_cons_zero]; rfl)); (focus rfl); (focus (intro w' hS; have k1' := (hS.cell (p := ⟨ba, oa + (i + m), none⟩) hb1).trans k1; have k2' := (hS.cell (p := ⟨bb, ob + (k + m), none⟩) hb2).trans k2; first | (go_simp; rfl) | (go_simp; done))); simp only [Act.put, List.setIfInBounds_toArray, List.set_cons_zero, List.set_cons_succ])
                    | (apply seqH_pass; (focus (simp only [List.getElem?_toArray, List.getElem?_cons_succ, List.getElem?_cons_zero]; rfl)); (focus rfl); (focus assumption); simp only [Act.put, List.setIfInBounds_toArray, List.set_cons_zero, List.set_cons_succ])
                    | (apply seqH_eff; (focus (simp only [List.getElem?_toArray, List.getElem?_cons_succ, List.getElem?_cons_zero]; rfl)); (focus rfl); intro K hK; go_simp; fail; rintro e wN ⟨rfl, bN⟩; refine hK _ _ (seq_next (by assumption) bN (fun bS' => ?_)); clear hK K))
                  refine seqH_nil ?_
                  go_wp2_with fail
                  go_roundw
                  case rel => exact ⟨m + 1, by go_num, hml, by assumption⟩
                  case measure => simp [intOf]; omega
                · have hmd : decide ((m : Int) < (xs.length : Int) - (i : Int)) = false := decide_eq_false (by omega)
                  go_wp2_with fail
                  go_roundw
                  case rel => exact ⟨k + 1, by go_num, hlk, by assumption⟩
                  case measure => simp [intOf]; omega
            · have e2 : decide ((p : Int) - (la : Int) < 32) = true := decide_eq_true (by omega)
              clear hne
              go_wp2_with fail
              go_roundw
              case rel => exact ⟨k + 1, by go_num, hlk, by assumption⟩
              case measure => simp [intOf]; omega
          · have e1 : ((p : Int) - (la : Int) != (q : Int) - (lb : Int)) = true := by rw [bne_iff_ne]; exact hne
            clear hne
            go_wp2_with fail
            go_roundw
            case rel => exact ⟨k + 1, by go_num, hlk, by assumption⟩
            case measure => simp [intOf]; omega
        · go_wp2_with fail
          go_roundw
          case rel => exact ⟨i + 1, by go_num, hlt, by assumption⟩
          case measure => simp [intOf]; omega
    · go_wp2_with fail
      go_ret
      exact ⟨rfl, bC.trans (hbl1.mono bC.size)⟩
end Go.Proofs.Ytnobcehiahcfkaa
