/- slices.Clone, IndexFunc and DeleteFunc over slices, by Merge's closure. -/
import Derived.Test.YthhhlaoiampinaaRows2
import Derived.Test.YthhhlaoiampinaaMrgP
import Derived.Test.YthhhlaoiampinaaFieldC
namespace Go.Proofs.Ythhhlaoiampinaa
open Go.RowKit
namespace Mrg
theorem slcInfoB : ElemInfo Try.prog 26 (.agg #[.int .i64 0, .int .i64 0]) 2 16 := by unfold ElemInfo; kernel_rfl
theorem ii_oneB (l : List (Int × Int)) : ∀ u ∈ l.flatMap e_ii, u.oneCell' = true := by
  intro u hu
  obtain ⟨d, _, hd⟩ := List.mem_flatMap.1 hu
  simp only [e_ii, List.mem_cons, List.not_mem_nil, or_false] at hd
  rcases hd with rfl | rfl <;> rfl
/-- A slice of the call's own that holds these. -/
def RetSlc (base : Nat) (l : List (Int × Int)) (e : Ending) (w' : World) : Prop := ∃ u, e = .returned u ∧ Owns w' base 26 2 e_ii u l
theorem slc_z : ∀ v ∈ (Value.agg #[Value.int .i64 0, Value.int .i64 0]).cells.toList, v.oneCell' = true := by simp [Value.cells, Value.oneCell']
def bad1 (d : Int × Int) : Bool := decide (d.2 ≤ d.1)
def mfn : Value := .func (.func 31) #[] #[]
def idxJ (p : Int × Int → Bool) (l : List (Int × Int)) : Int := match l.findIdx? p with | some k => (k : Int) | none => -1
theorem idj_no {p : (Int × Int) → Bool} {l : List (Int × Int)} (h : l.any p = false) : idxJ p l = -1 := by
  unfold idxJ
  rw [List.findIdx?_eq_none_iff.2]
  intro x hx
  rw [List.any_eq_false] at h
  simpa using h x hx
theorem idj_yes {p : (Int × Int) → Bool} {l : List (Int × Int)} {k : Nat} (hk : k < l.length) (h : (l.take k).any p = false) (hp : p l[k] = true) : idxJ p l = k := by
  have e : l.findIdx? p = some k := List.findIdx?_eq_some_iff_getElem.2 ⟨hk, hp, fun j hj => by
    rw [List.any_eq_false] at h
    simpa using h _ (by rw [List.mem_take_iff_getElem]; exact ⟨j, by omega, rfl⟩)⟩
  unfold idxJ
  rw [e]
theorem idj_some {p : (Int × Int) → Bool} {l : List (Int × Int)} (h : l.any p = true) : ∃ k, ∃ hk : k < l.length, idxJ p l = (k : Int) ∧ (l.take k).any p = false ∧ p l[k] = true := by
  cases hf : l.findIdx? p with
  | none =>
    rw [List.findIdx?_eq_none_iff] at hf
    rw [List.any_eq_true] at h
    obtain ⟨x, hx, hp⟩ := h
    rw [hf x hx] at hp; cases hp
  | some k =>
    obtain ⟨hk, hp, hj⟩ := List.findIdx?_eq_some_iff_getElem.1 hf
    refine ⟨k, hk, by unfold idxJ; rw [hf], ?_, hp⟩
    rw [List.any_eq_false]
    intro x hx
    rw [List.mem_take_iff_getElem] at hx
    obtain ⟨j, hj', rfl⟩ := hx
    exact hj j (by omega)
theorem merge1_any (d : Int × Int) (w : World) :
    Calls Try.prog 31 #[.agg #[.int .i64 d.1, .int .i64 d.2]] w fun e w' => e = .returned (.bool (bad1 d)) ∧ Below w.heap.size w w' := by
  go_enter Try.func31, Try.ntmps31
  go_wp2_with fail
  go_ret
  exact ⟨rfl, (Below.refl _ _).alloc (Nat.le_refl _) _⟩
set_option maxHeartbeats 800000 in
/-- slices.Clone. -/
theorem cloneSlc_any (v : Value) (l : List (Int × Int)) (w : World) (h : SlR w e_ii v l) (hl : l.length * 16 ≤ 140737488355328) :
    Calls Try.prog 30 #[v] w fun e w' => RetSlc w.heap.size l e w' ∧ Below w.heap.size w w' := by
  have HS := Lib.hid h
  obtain ⟨A, c, rfl, hcc, -⟩ := h
  have hen := Lib.run_eql_slice_nil (P := Try.prog)
  cases A with
  | none =>
    have hl0 : l = [] := by
      obtain ⟨A, c, hv, hc, hx⟩ := HS.out
      cases l with
      | nil => rfl
      | cons y ys =>
        obtain ⟨b, off, hA, _⟩ := hx (by simp)
        subst hA
        injection hv with h1
        cases h1
    subst hl0
    go_enter Try.func30, Try.ntmps30
    go_wp2_with fail
    go_ret
    exact ⟨⟨_, rfl, Owns.nil ..⟩, Below.refl _ _⟩
  | some a =>
    have hb0 : Below w.heap.size w (w.alloc (.cells #[] 26)) := (Below.refl _ _).alloc (Nat.le_refl _) _
    have HO := Lib.hid (Owns.lit (size := 2) (enc := e_ii) (e := 26) w w.heap.size #[] [] (Nat.le_refl _) (by simp) rfl rfl)
    have HS' := Lib.hid (HS.out.alloc (.cells #[] 26))
    go_enter Try.func30, Try.ntmps30
    go_wp2_with (at_builtin; go_must (refine wpList_append_slr rfl (.tmp 5) (.tmp 6) _ rfl w.heap.size 26 (.agg #[.int .i64 0, .int .i64 0]) 2 16 e_ii Try.underlying22 slcInfoB rfl (by decide) (fun _ => rfl) _ [] rfl HO.out _ l rfl HS'.out (ii_oneB l) (by simp [maxLen]; omega) (by simp; omega) (by simp) ?_); intro v' w2 hown' hgrow)
    go_ret
    exact ⟨⟨_, rfl, hown'⟩, hb0.grown hgrow (by simp) (fun k hk => (HO.out.lt k hk).1)⟩
set_option maxHeartbeats 800000 in
theorem indexSlc_any (v : Value) (l : List (Int × Int)) (w : World) (h : SlR w e_ii v l) (hl : l.length ≤ 140737488351232) :
    Calls Try.prog 66 #[v, mfn] w fun e w' => e = .returned (.int .i64 (idxJ bad1 l)) ∧ Below w.heap.size w w' := by
  have h2 := Lib.hid (fun hn => h.two (fun _ => rfl) hn)
  obtain ⟨A, c, rfl, hcc, -⟩ := h
  unfold mfn
  go_enter Try.func66, Try.ntmps66
  go_wp2_with fail
  go_loopw [8] (fun i wr => ∃ k : Nat, k ≤ l.length ∧ i = .int .i64 k ∧ (l.take k).any bad1 = false ∧ Below w.heap.size w wr) (fun i _ => l.length - (intOf i).toNat)
  case atStart => exact ⟨0, by omega, rfl, rfl, Below.refl _ _⟩
  case round =>
    obtain ⟨k, hk, rfl, hN, hbel⟩ := hrel
    have HN := Lib.hid hN
    clear hN
    by_cases hlt : k < l.length
    · obtain ⟨b, o, c', he, hb, hcell⟩ := h2.out (by omega)
      obtain ⟨rfl, rfl⟩ : A = some ⟨b, o, none⟩ ∧ c = c' := by injection he with h1 h2 h3; exact ⟨h1, h3⟩
      obtain ⟨q0, q1⟩ := hcell k hlt (.int .i64 l[k].1) (.int .i64 l[k].2) rfl rfl
      have c0 := (hbel.cell (p := ⟨b, o + k * 2, none⟩) hb).trans q0
      have c1 := (hbel.cell (p := ⟨b, o + k * 2 + 1, none⟩) hb).trans q1
      clear hcell h2 q0 q1 he
      have HT : Hid ((l.take (k + 1)).any bad1 = bad1 l[k]) := by
        show _ = _; rw [List.take_add_one, List.getElem?_eq_getElem hlt, List.any_append, HN.out]; simp
      have HI : Hid (bad1 l[k] = true → idxJ bad1 l = k) := fun hp => idj_yes hlt HN.out hp
      have hf := trivial
      generalize l[k] = f at c0 c1 HT HI hf
      cases hq : bad1 f
      all_goals
        have HQ := Lib.hid hq
        clear hq
        go_wp2_with fail
        refine (merge1_any f _).mono ?_
        rintro e w1 ⟨rfl, b1⟩
        rw [HQ.out]
        go_wp2_with fail
      · go_roundw
        case rel => exact ⟨k + 1, by omega, by go_num, by rw [HT.out, HQ.out], hbel.trans (b1.mono hbel.size)⟩
        case measure => simp [intOf]; omega
      · go_ret
        exact ⟨ret_int (HI.out HQ.out).symm, hbel.trans (b1.mono hbel.size)⟩
    · have HA : Hid (idxJ bad1 l = -1) := idj_no (by have := HN.out; rwa [List.take_of_length_le (by omega)] at this)
      go_wp2_with fail
      go_ret
      exact ⟨ret_int HA.out.symm, hbel⟩
def keepG (l : List (Int × Int)) : List (Int × Int) := l.filter (fun f => !bad1 f)
theorem keepG_snoc {l : List (Int × Int)} {j : Nat} (h : j < l.length) : keepG (l.take (j + 1)) = keepG (l.take j) ++ (if bad1 l[j] = true then [] else [l[j]]) := by
  unfold keepG
  rw [List.take_add_one, List.getElem?_eq_getElem h, List.filter_append]
  congr 1
  cases hq : bad1 l[j] <;> simp [hq]
theorem keepG_none {l : List (Int × Int)} (h : l.any bad1 = false) : keepG l = l := by
  unfold keepG
  rw [List.filter_eq_self]
  intro x hx
  rw [List.any_eq_false] at h
  simpa using h x hx
set_option maxHeartbeats 3200000 in
set_option maxRecDepth 10000 in
theorem deleteSlc_any (v : Value) (l : List (Int × Int)) (base : Nat) (w : World) (h : Owns w base 26 2 e_ii v l) (hl : l.length ≤ 140737488351232) :
    Calls Try.prog 29 #[v, mfn] w fun e w' => RetSlc base (keepG l) e w' ∧ w.grownBy w' v.ownBlock := by
  have HO := Lib.hid h
  by_cases hany : l.any bad1 = true
  · obtain ⟨k, hk, hi, hpre, hp⟩ := idj_some hany
    obtain ⟨g, cap, rfl⟩ : ∃ g cap, v = .slice (some ⟨g, 0, none⟩) l.length cap := by
      rcases h.form with ⟨_, h0⟩ | h0
      · rw [h0] at hk; simp at hk
      · exact h0
    obtain ⟨-, -, hcap, hcm, -⟩ := h.row
    unfold maxLen at hcm
    have HI := Lib.hid (indexSlc_any _ l w (SlR.of_owns h) hl)
    rw [hi] at HI
    have hK : Hid (l.take k = keepG (l.take (k + 1))) := by
      show _ = _
      rw [keepG_snoc hk, if_pos hp, List.append_nil, keepG_none hpre]
    clear hi hpre hp hany h
    have hk1 : ((k : Int) == -1) = false := by rw [beq_eq_false_iff_ne]; omega
    unfold mfn at HI ⊢
    go_enter Try.func29, Try.ntmps29
    go_wp2_with fail
    refine HI.out.mono ?_
    rintro e w1 ⟨rfl, b1⟩
    have HO1 := Lib.hid (HO.out.below b1)
    go_wp2_with fail
    go_loopw [5, 6] (fun i j wr => ∃ (i' j' : Nat) (L : List (Int × Int)), i' < j' ∧ j' ≤ l.length ∧ L.length = l.length ∧ i = .int .i64 i' ∧ j = .int .i64 j' ∧ L.take i' = keepG (l.take j') ∧ L.drop j' = l.drop j' ∧ Owns wr base 26 2 e_ii (.slice (some ⟨g, 0, none⟩) l.length cap) L ∧ w1.grownBy wr (some g)) (fun _ j _ => l.length - (intOf j).toNat)
    case atStart => exact ⟨k, k + 1, l, by omega, by omega, rfl, rfl, by go_num, hK.out, rfl, HO1.out, World.grownBy.refl _ _⟩
    case round =>
      obtain ⟨i, j, L, hij, hj, hL, rfl, rfl, htk, hdr, hown, hgr⟩ := hrel
      have HL := Lib.hid hL
      have HT := Lib.hid htk
      have HD := Lib.hid hdr
      have HW := Lib.hid hown
      have hglt : g < wr.heap.size := (hown.lt g rfl).2
      clear hL htk hdr hown
      by_cases hlt : j < l.length
      · have hjL : j < L.length := by rw [HL.out]; exact hlt
        have hiL : i < L.length := by omega
        have hLj : L[j] = l[j] := by
          have e := HD.out
          rw [List.drop_eq_getElem_cons hjL, List.drop_eq_getElem_cons hlt] at e
          injection e
        obtain ⟨c0, c1, -, -⟩ := HW.out.cells2 (fun _ => rfl) j hjL _ _ rfl rfl
        obtain ⟨q0, q1, f0, f1⟩ := HW.out.cells2 (fun _ => rfl) i hiL _ _ rfl rfl
        rw [hLj] at c0 c1
        have hf := trivial
        have HS := Lib.hid (keepG_snoc hlt)
        have HP := Lib.hid (fun x : Int × Int => HW.out.put2 (fun _ => rfl) i hiL x (.int .i64 x.1) (.int .i64 x.2) rfl)
        generalize L[i] = fi at q0 q1
        generalize l[j] = f at c0 c1 hf HS
        clear hLj
        have b0 : Below wr.heap.size wr (wr.alloc (.cells #[.int .i64 f.1, .int .i64 f.2] 26)) := (Below.refl _ _).alloc (Nat.le_refl _) _
        cases hq : bad1 f
        all_goals
          have HQ := Lib.hid hq
          clear hq
          go_wp2_with fail
          refine (merge1_any f _).mono ?_
          rintro e w2 ⟨rfl, b2⟩
          rw [HQ.out]
          have bw := b0.trans (b2.mono (by simp))
          have hgr2 := gr_below hgr bw
          have HS2 := HS.out
          rw [HQ.out] at HS2
          have HS3 := Lib.hid HS2
          clear HS2
        · have e0 : w2.cell? ⟨wr.heap.size, 0, none⟩ = some (.int .i64 f.1) := (b2.cell (by simp)).trans (by go_simp)
          have e1 : w2.cell? ⟨wr.heap.size, 1, none⟩ = some (.int .i64 f.2) := (b2.cell (by simp)).trans (by go_simp)
          have d0 : w2.cell? ⟨g, i * 2, none⟩ = some (.int .i64 fi.1) := (bw.cell hglt).trans q0
          have d1 : w2.cell? ⟨g, i * 2 + 1, none⟩ = some (.int .i64 fi.2) := (bw.cell hglt).trans q1
          have g0 : w2.frozen? ⟨g, i * 2, none⟩ = false := (bw.frozen hglt).trans f0
          have g1 : w2.frozen? ⟨g, i * 2 + 1, none⟩ = false := (bw.frozen hglt).trans f1
          have HW2 := Lib.hid ((HW.out.below bw).put2 (fun _ => rfl) i hiL f (.int .i64 f.1) (.int .i64 f.2) rfl)
          clear q0 q1 f0 f1 c0 c1
          go_wp2_with fail
          go_roundw
          case rel =>
            refine ⟨i + 1, j + 1, L.set i f, by omega, by omega, by rw [List.length_set]; exact HL.out, by go_num, by go_num, ?_, ?_, HW2.out, gr_set (gr_set hgr2 _ _) _ _⟩
            · rw [HS3.out, ← HT.out, if_neg (by decide), List.take_add_one, List.take_set_of_le (Nat.le_refl _), List.getElem?_set_self hiL]; rfl
            · rw [List.drop_set_of_lt (by omega)]
              have e := HD.out
              rw [List.drop_eq_getElem_cons hjL, List.drop_eq_getElem_cons hlt] at e
              injection e
          case measure => simp [intOf]; omega
        · go_wp2_with fail
          go_roundw
          case rel =>
            refine ⟨i, j + 1, L, by omega, by omega, HL.out, rfl, by go_num, ?_, ?_, HW.out.below bw, hgr2⟩
            · rw [HS3.out, ← HT.out, if_pos trivial, List.append_nil]
            · have e := HD.out
              rw [List.drop_eq_getElem_cons hjL, List.drop_eq_getElem_cons hlt] at e
              injection e
          case measure => simp [intOf]; omega
      · have hE : Hid (L.take i = keepG l) := by
          show _ = _; rw [HT.out, List.take_of_length_le (by omega)]
        have hiL : i ≤ L.length := by rw [HL.out]; omega
        have HWc : Hid (Owns wr base 26 2 e_ii (.slice (some ⟨g, 0, none⟩) L.length cap) L) := by rw [HL.out]; exact HW.out
        have i1 : (i : Int) ≤ (l.length : Int) := by omega
        go_wp2_with ((refine wpList_clear_owns (size := 2) rfl (.tmp 38) 22 rfl _ Try.underlying22 Try.zeroValue26 rfl (by decide) slc_z (fun _ => rfl) HW.out i (l.length - i) _ (by rw [HL.out]; omega) rfl ?_); intro w3 ho3 hg3)
        go_ret
        refine ⟨⟨_, rfl, by rw [← hE.out]; exact ho3⟩, gr_trans (gr_trans (gr_of b1) hgr) hg3⟩
  · have hidx : idxJ bad1 l = -1 := idj_no (by simpa using hany)
    have hkp : keepG l = l := keepG_none (by simpa using hany)
    have HI := Lib.hid (indexSlc_any v l w (SlR.of_owns h) hl)
    rw [hidx] at HI
    rw [hkp]
    clear hany h hidx hkp
    unfold mfn at HI ⊢
    go_enter Try.func29, Try.ntmps29
    go_wp2_with fail
    refine HI.out.mono ?_
    rintro e w1 ⟨rfl, b1⟩
    go_wp2_with fail
    go_ret
    exact ⟨⟨_, rfl, HO.out.below b1⟩, gr_of b1⟩
end Mrg
end Go.Proofs.Ythhhlaoiampinaa
