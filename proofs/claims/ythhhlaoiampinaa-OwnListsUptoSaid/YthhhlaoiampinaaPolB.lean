/- slices.IndexFunc and DeleteFunc over fields, by policy.without's closure. -/
import Derived.Test.YthhhlaoiampinaaPolA
namespace Go.Proofs.Ythhhlaoiampinaa
open Go.RowKit
namespace Pol
set_option maxHeartbeats 800000 in
theorem indexFldW_any (v : Value) (l : List Fld) (g : Nat) (n : List ByteArray) (w : World) (h : SlR w e_ss v l) (hl : l.length ≤ 140737488351232) (hz : Lims l) (w0 : World) (hc : CapW w w0 g n) (hns : n.length ≤ 140737488351232) :
    Calls Try.prog 36 #[v, wfn g] w fun e w' => e = .returned (.int .i64 (idxI (isW n) l)) ∧ Below w.heap.size w w' := by
  have h2 := Lib.hid (fun hn => fld_two h hn)
  obtain ⟨A, c, rfl, hcc, -⟩ := h
  have HC := Lib.hid hc
  clear hc
  unfold wfn
  go_enter Try.func36, Try.ntmps36
  go_wp2_with fail
  go_loopw [8] (fun i wr => ∃ k : Nat, k ≤ l.length ∧ i = .int .i64 k ∧ (l.take k).any (isW n) = false ∧ Below w.heap.size w wr) (fun i _ => l.length - (intOf i).toNat)
  case atStart => exact ⟨0, by omega, rfl, rfl, Below.refl _ _⟩
  case round =>
    obtain ⟨k, hk, rfl, hN, hbel⟩ := hrel
    have HN := Lib.hid hN
    clear hN
    by_cases hlt : k < l.length
    · obtain ⟨b, o, c', he, hb, hcell⟩ := h2.out (by omega)
      obtain ⟨rfl, rfl⟩ : A = some ⟨b, o, none⟩ ∧ c = c' := by injection he with h1 h2 h3; exact ⟨h1, h3⟩
      obtain ⟨q0, q1⟩ := hcell k hlt
      have c0 := (hbel.cell (p := ⟨b, o + k * 2, none⟩) hb).trans q0
      have c1 := (hbel.cell (p := ⟨b, o + k * 2 + 1, none⟩) hb).trans q1
      clear hcell h2 q0 q1 he
      have HT : Hid ((l.take (k + 1)).any (isW n) = isW n l[k]) := by
        show _ = _; rw [List.take_add_one, List.getElem?_eq_getElem hlt, List.any_append, HN.out]; simp
      have HI : Hid (isW n l[k] = true → idxI (isW n) l = k) := fun hp => idx_yes hlt HN.out hp
      have hf := hz _ (List.getElem_mem hlt)
      generalize l[k] = f at c0 c1 HT HI hf
      cases hq : isW n f
      all_goals
        have HQ := Lib.hid hq
        clear hq
        go_wp2_with fail
        refine (without1_any f g n _ w0 (HC.out.below hbel) hf hns).mono ?_
        rintro e w1 ⟨rfl, b1⟩
        rw [HQ.out]
        go_wp2_with fail
      · go_roundw
        case rel => exact ⟨k + 1, by omega, by go_num, by rw [HT.out, HQ.out], hbel.trans (b1.mono hbel.size)⟩
        case measure => simp [intOf]; omega
      · go_ret
        exact ⟨ret_int (HI.out HQ.out).symm, hbel.trans (b1.mono hbel.size)⟩
    · have HA : Hid (idxI (isW n) l = -1) := idx_no (by have := HN.out; rwa [List.take_of_length_le (by omega)] at this)
      go_wp2_with fail
      go_ret
      exact ⟨ret_int HA.out.symm, hbel⟩
def keepW (n : List ByteArray) (l : List Fld) : List Fld := l.filter (fun f => !isW n f)
theorem keepW_snoc {n : List ByteArray} {l : List Fld} {j : Nat} (h : j < l.length) : keepW n (l.take (j + 1)) = keepW n (l.take j) ++ (if isW n l[j] = true then [] else [l[j]]) := by
  unfold keepW
  rw [List.take_add_one, List.getElem?_eq_getElem h, List.filter_append]
  congr 1
  cases hq : isW n l[j] <;> simp [hq]
theorem keepW_none {n : List ByteArray} {l : List Fld} (h : l.any (isW n) = false) : keepW n l = l := by
  unfold keepW
  rw [List.filter_eq_self]
  intro x hx
  rw [List.any_eq_false] at h
  simpa using h x hx
set_option maxHeartbeats 3200000 in
set_option maxRecDepth 10000 in
theorem deleteFldW_any (v : Value) (l : List Fld) (base gn : Nat) (n : List ByteArray) (w : World) (h : Owns w base 31 2 e_ss v l) (hl : l.length ≤ 140737488351232) (hz : Lims l) (w0 : World) (hc : CapW w w0 gn n) (hns : n.length ≤ 140737488351232) (hne : v.ownBlock ≠ some gn) (hw0 : w0.heap.size ≤ base) :
    Calls Try.prog 39 #[v, wfn gn] w fun e w' => RetFlds base (keepW n l) e w' ∧ w.grownBy w' v.ownBlock := by
  have HO := Lib.hid h
  have HC := Lib.hid hc
  by_cases hany : l.any (isW n) = true
  · obtain ⟨k, hk, hi, hpre, hp⟩ := idx_some hany
    obtain ⟨g, cap, rfl⟩ : ∃ g cap, v = .slice (some ⟨g, 0, none⟩) l.length cap := by
      rcases h.form with ⟨_, h0⟩ | h0
      · rw [h0] at hk; simp at hk
      · exact h0
    obtain ⟨-, -, hcap, hcm, -⟩ := h.row
    unfold maxLen at hcm
    have hgn : gn ≠ g := fun e => hne (by rw [e]; rfl)
    have hgb : w0.heap.size ≤ g := Nat.le_trans hw0 (h.lt g rfl).1
    have HI := Lib.hid (indexFldW_any _ l gn n w (SlR.of_owns h) hl hz w0 hc hns)
    rw [hi] at HI
    have hK : Hid (l.take k = keepW n (l.take (k + 1))) := by
      show _ = _
      rw [keepW_snoc hk, if_pos hp, List.append_nil, keepW_none hpre]
    clear hi hpre hp hany h hc hne
    have hk1 : ((k : Int) == -1) = false := by rw [beq_eq_false_iff_ne]; omega
    unfold wfn at HI ⊢
    go_enter Try.func39, Try.ntmps39
    go_wp2_with fail
    refine HI.out.mono ?_
    rintro e w1 ⟨rfl, b1⟩
    have HO1 := Lib.hid (HO.out.below b1)
    have HC1 := Lib.hid (HC.out.below b1)
    go_wp2_with fail
    go_loopw [5, 6] (fun i j wr => ∃ (i' j' : Nat) (L : List Fld), i' < j' ∧ j' ≤ l.length ∧ L.length = l.length ∧ i = .int .i64 i' ∧ j = .int .i64 j' ∧ L.take i' = keepW n (l.take j') ∧ L.drop j' = l.drop j' ∧ Owns wr base 31 2 e_ss (.slice (some ⟨g, 0, none⟩) l.length cap) L ∧ w1.grownBy wr (some g)) (fun _ j _ => l.length - (intOf j).toNat)
    case atStart => exact ⟨k, k + 1, l, by omega, by omega, rfl, rfl, by go_num, hK.out, rfl, HO1.out, World.grownBy.refl _ _⟩
    case round =>
      obtain ⟨i, j, L, hij, hj, hL, rfl, rfl, htk, hdr, hown, hgr⟩ := hrel
      have HL := Lib.hid hL
      have HT := Lib.hid htk
      have HD := Lib.hid hdr
      have HW := Lib.hid hown
      have hglt : g < wr.heap.size := (hown.lt g rfl).2
      clear hL htk hdr hown
      by_cases hlt : j < l.length
      · have hjL : j < L.length := by rw [HL.out]; exact hlt
        have hiL : i < L.length := by omega
        have hLj : L[j] = l[j] := by
          have e := HD.out
          rw [List.drop_eq_getElem_cons hjL, List.drop_eq_getElem_cons hlt] at e
          injection e
        obtain ⟨c0, c1, -, -⟩ := HW.out.cells2 (fun _ => rfl) j hjL _ _ rfl rfl
        obtain ⟨q0, q1, f0, f1⟩ := HW.out.cells2 (fun _ => rfl) i hiL _ _ rfl rfl
        rw [hLj] at c0 c1
        have hf := hz _ (List.getElem_mem hlt)
        have HS := Lib.hid (keepW_snoc (n := n) hlt)
        have HP := Lib.hid (fun x : Fld => HW.out.put2 (fun _ => rfl) i hiL x (.string x.1) (.string x.2) rfl)
        generalize L[i] = fi at q0 q1
        generalize l[j] = f at c0 c1 hf HS
        clear hLj
        have b0 : Below wr.heap.size wr (wr.alloc (.cells #[.string f.1, .string f.2] 31)) := (Below.refl _ _).alloc (Nat.le_refl _) _
        have HCr := Lib.hid (((HC1.out.grown hgr hgn hgb).below b0))
        cases hq : isW n f
        all_goals
          have HQ := Lib.hid hq
          clear hq
          go_wp2_with fail
          refine (without1_any f gn n _ w0 HCr.out hf hns).mono ?_
          rintro e w2 ⟨rfl, b2⟩
          rw [HQ.out]
          have bw := b0.trans (b2.mono (by simp))
          have hgr2 := gr_below hgr bw
          have HS2 := HS.out
          rw [HQ.out] at HS2
          have HS3 := Lib.hid HS2
          clear HS2
        · have e0 : w2.cell? ⟨wr.heap.size, 0, none⟩ = some (.string f.1) := (b2.cell (by simp)).trans (by go_simp)
          have e1 : w2.cell? ⟨wr.heap.size, 1, none⟩ = some (.string f.2) := (b2.cell (by simp)).trans (by go_simp)
          have d0 : w2.cell? ⟨g, i * 2, none⟩ = some (.string fi.1) := (bw.cell hglt).trans q0
          have d1 : w2.cell? ⟨g, i * 2 + 1, none⟩ = some (.string fi.2) := (bw.cell hglt).trans q1
          have g0 : w2.frozen? ⟨g, i * 2, none⟩ = false := (bw.frozen hglt).trans f0
          have g1 : w2.frozen? ⟨g, i * 2 + 1, none⟩ = false := (bw.frozen hglt).trans f1
          have HW2 := Lib.hid ((HW.out.below bw).put2 (fun _ => rfl) i hiL f (.string f.1) (.string f.2) rfl)
          clear q0 q1 f0 f1 c0 c1
          go_wp2_with fail
          go_roundw
          case rel =>
            refine ⟨i + 1, j + 1, L.set i f, by omega, by omega, by rw [List.length_set]; exact HL.out, by go_num, by go_num, ?_, ?_, HW2.out, gr_set (gr_set hgr2 _ _) _ _⟩
            · rw [HS3.out, ← HT.out, if_neg (by decide), List.take_add_one, List.take_set_of_le (Nat.le_refl _), List.getElem?_set_self hiL]; rfl
            · rw [List.drop_set_of_lt (by omega)]
              have e := HD.out
              rw [List.drop_eq_getElem_cons hjL, List.drop_eq_getElem_cons hlt] at e
              injection e
          case measure => simp [intOf]; omega
        · go_wp2_with fail
          go_roundw
          case rel =>
            refine ⟨i, j + 1, L, by omega, by omega, HL.out, rfl, by go_num, ?_, ?_, HW.out.below bw, hgr2⟩
            · rw [HS3.out, ← HT.out, if_pos trivial, List.append_nil]
            · have e := HD.out
              rw [List.drop_eq_getElem_cons hjL, List.drop_eq_getElem_cons hlt] at e
              injection e
          case measure => simp [intOf]; omega
      · have hE : Hid (L.take i = keepW n l) := by
          show _ = _; rw [HT.out, List.take_of_length_le (by omega)]
        have hiL : i ≤ L.length := by rw [HL.out]; omega
        have HWc : Hid (Owns wr base 31 2 e_ss (.slice (some ⟨g, 0, none⟩) L.length cap) L) := by rw [HL.out]; exact HW.out
        have i1 : (i : Int) ≤ (l.length : Int) := by omega
        go_wp2_with ((refine wpList_clear_owns (size := 2) rfl (.tmp 38) 29 rfl _ Try.underlying29 Try.zeroValue31 rfl (by decide) fld_z (fun _ => rfl) HW.out i (l.length - i) _ (by rw [HL.out]; omega) rfl ?_); intro w3 ho3 hg3)
        go_ret
        refine ⟨⟨_, rfl, by rw [← hE.out]; exact ho3⟩, gr_trans (gr_trans (gr_of b1) hgr) hg3⟩
  · have hidx : idxI (isW n) l = -1 := idx_no (by simpa using hany)
    have hkp : keepW n l = l := keepW_none (by simpa using hany)
    have HI := Lib.hid (indexFldW_any v l gn n w (SlR.of_owns h) hl hz w0 hc hns)
    rw [hidx] at HI
    rw [hkp]
    clear hany h hidx hkp hc
    unfold wfn at HI ⊢
    go_enter Try.func39, Try.ntmps39
    go_wp2_with fail
    refine HI.out.mono ?_
    rintro e w1 ⟨rfl, b1⟩
    go_wp2_with fail
    go_ret
    exact ⟨⟨_, rfl, HO.out.below b1⟩, gr_of b1⟩
end Pol
end Go.Proofs.Ythhhlaoiampinaa
