/- slices.DeleteFunc over fields, by name. -/
import Derived.Test.YthhhlaoiampinaaFieldB
namespace Go.Proofs.Ythhhlaoiampinaa
open Go.RowKit
section
variable {w w1 w2 : World} {row : Option Nat} {g : Nat}
theorem gr_below (h : w.grownBy w1 row) (hb : Below w1.heap.size w1 w2) : w.grownBy w2 row :=
  ⟨hb.os.trans h.os, hb.tape.trans h.tape, hb.output.trans h.output, Nat.le_trans h.size hb.size, fun k hk hr => (hb.block k (Nat.lt_of_lt_of_le hk h.size)).trans (h.block k hk hr)⟩
theorem gr_of (hb : Below w.heap.size w w1) : w.grownBy w1 row := gr_below (World.grownBy.refl w _) hb
theorem gr_set (h : w.grownBy w1 (some g)) (i : Nat) (u : Value) : w.grownBy (w1.setCell ⟨g, i, none⟩ u) (some g) :=
  ⟨h.os, h.tape, h.output, by simpa using h.size, fun k hk hr => (Below.heap_setCell w1 _ u k (fun e => hr (by simpa using e))).trans (h.block k hk hr)⟩
theorem gr_trans (h : w.grownBy w1 row) (k : w1.grownBy w2 row) : w.grownBy w2 row :=
  ⟨k.os.trans h.os, k.tape.trans h.tape, k.output.trans h.output, Nat.le_trans h.size k.size, fun j hj hr => (k.block j (Nat.lt_of_lt_of_le hj h.size) hr).trans (h.block j hj hr)⟩
theorem Cap.grown {gn : Nat} {n : ByteArray} (h : Cap w gn n) (hg : w.grownBy w1 (some g)) (hne : gn ≠ g) : Cap w1 gn n :=
  ⟨Nat.lt_of_lt_of_le h.1 hg.size, hg.cell h.2 (by intro e; injection e with e; exact hne e)⟩
theorem Owns.far {α : Type} {base : Nat} {e : TypeId} {size : Nat} {en : α → List Value} {v : Value} {xs : List α} (h : Owns w base e size en v xs) (hb : Below w.heap.size w w1) : Owns w1 base e size en v xs := h.below hb
end
theorem Owns.cells2 {α : Type} {w : World} {base : Nat} {e : TypeId} {en : α → List Value} {g cap n : Nat} {xs : List α} (hen : ∀ x, (en x).length = 2) (h : Owns w base e 2 en (.slice (some ⟨g, 0, none⟩) n cap) xs) (k : Nat) (hk : k < xs.length) (u0 u1 : Value) (h0 : (en xs[k])[0]? = some u0) (h1 : (en xs[k])[1]? = some u1) :
    w.cell? ⟨g, k * 2, none⟩ = some u0 ∧ w.cell? ⟨g, k * 2 + 1, none⟩ = some u1 ∧ w.frozen? ⟨g, k * 2, none⟩ = false ∧ w.frozen? ⟨g, k * 2 + 1, none⟩ = false := by
  obtain ⟨hb, rfl, hn, hm, cur, hh, hs, ht⟩ := h.row
  have key : ∀ j u, (xs.flatMap en)[j]? = some u → w.cell? ⟨g, j, none⟩ = some u := by
    intro j u hu
    rw [hh.cell j]
    rw [← ht, List.getElem?_take] at hu
    split at hu
    · simpa using hu
    · cases hu
  exact ⟨key _ _ (flat2 hen xs k 0 _ u0 (List.getElem?_eq_getElem hk) (by omega) h0), key _ _ (flat2 hen xs k 1 _ u1 (List.getElem?_eq_getElem hk) (by omega) h1), hh.frozen _, hh.frozen _⟩
def keepN (n : ByteArray) (l : List Fld) : List Fld := l.filter (fun f => !isN n f)
theorem keepN_snoc {n : ByteArray} {l : List Fld} {j : Nat} (h : j < l.length) : keepN n (l.take (j + 1)) = keepN n (l.take j) ++ (if isN n l[j] = true then [] else [l[j]]) := by
  unfold keepN
  rw [List.take_add_one, List.getElem?_eq_getElem h, List.filter_append]
  congr 1
  cases hq : isN n l[j] <;> simp [hq]
theorem keepN_none {n : ByteArray} {l : List Fld} (h : l.any (isN n) = false) : keepN n l = l := by
  unfold keepN
  rw [List.filter_eq_self]
  intro x hx
  rw [List.any_eq_false] at h
  simpa using h x hx
theorem idx_some {p : Fld → Bool} {l : List Fld} (h : l.any p = true) : ∃ k, ∃ hk : k < l.length, idxI p l = (k : Int) ∧ (l.take k).any p = false ∧ p l[k] = true := by
  cases hf : l.findIdx? p with
  | none =>
    rw [List.findIdx?_eq_none_iff] at hf
    rw [List.any_eq_true] at h
    obtain ⟨x, hx, hp⟩ := h
    rw [hf x hx] at hp; cases hp
  | some k =>
    obtain ⟨hk, hp, hj⟩ := List.findIdx?_eq_some_iff_getElem.1 hf
    refine ⟨k, hk, by unfold idxI; rw [hf], ?_, hp⟩
    rw [List.any_eq_false]
    intro x hx
    rw [List.mem_take_iff_getElem] at hx
    obtain ⟨j, hj', rfl⟩ := hx
    exact hj j (by omega)
theorem fld_z : ∀ v ∈ (Value.agg #[Value.string { data := #[] }, Value.string { data := #[] }]).cells.toList, v.oneCell' = true := by simp [Value.cells, Value.oneCell']
set_option maxHeartbeats 3200000 in
set_option maxRecDepth 10000 in
theorem deleteFld_any (v : Value) (l : List Fld) (base gn : Nat) (n : ByteArray) (w : World) (h : Owns w base 31 2 e_ss v l) (hl : l.length ≤ 140737488351232) (hz : Lims l) (hc : Cap w gn n) (hne : v.ownBlock ≠ some gn) :
    Calls Try.prog 39 #[v, nfn gn] w fun e w' => RetFlds base (keepN n l) e w' ∧ w.grownBy w' v.ownBlock := by
  have HO := Lib.hid h
  have HC := Lib.hid hc
  by_cases hany : l.any (isN n) = true
  · obtain ⟨k, hk, hi, hpre, hp⟩ := idx_some hany
    obtain ⟨g, cap, rfl⟩ : ∃ g cap, v = .slice (some ⟨g, 0, none⟩) l.length cap := by
      rcases h.form with ⟨_, h0⟩ | h0
      · rw [h0] at hk; simp at hk
      · exact h0
    obtain ⟨-, -, hcap, hcm, -⟩ := h.row
    unfold maxLen at hcm
    have hgn : gn ≠ g := fun e => hne (by rw [e]; rfl)
    have HI := Lib.hid (indexFld_any _ l gn n w (SlR.of_owns h) hl hz hc)
    rw [hi] at HI
    have hK : Hid (l.take k = keepN n (l.take (k + 1))) := by
      show _ = _
      rw [keepN_snoc hk, if_pos hp, List.append_nil, keepN_none hpre]
    clear hi hpre hp hany h hc hne
    have hk1 : ((k : Int) == -1) = false := by rw [beq_eq_false_iff_ne]; omega
    unfold nfn at HI ⊢
    go_enter Try.func39, Try.ntmps39
    go_wp2_with fail
    refine HI.out.mono ?_
    rintro e w1 ⟨rfl, b1⟩
    have HO1 := Lib.hid (HO.out.below b1)
    have HC1 := Lib.hid (HC.out.below b1)
    go_wp2_with fail
    go_loopw [5, 6] (fun i j wr => ∃ (i' j' : Nat) (L : List Fld), i' < j' ∧ j' ≤ l.length ∧ L.length = l.length ∧ i = .int .i64 i' ∧ j = .int .i64 j' ∧ L.take i' = keepN n (l.take j') ∧ L.drop j' = l.drop j' ∧ Owns wr base 31 2 e_ss (.slice (some ⟨g, 0, none⟩) l.length cap) L ∧ w1.grownBy wr (some g)) (fun _ j _ => l.length - (intOf j).toNat)
    case atStart => exact ⟨k, k + 1, l, by omega, by omega, rfl, rfl, by go_num, hK.out, rfl, HO1.out, World.grownBy.refl _ _⟩
    case round =>
      obtain ⟨i, j, L, hij, hj, hL, rfl, rfl, htk, hdr, hown, hgr⟩ := hrel
      have HL := Lib.hid hL
      have HT := Lib.hid htk
      have HD := Lib.hid hdr
      have HW := Lib.hid hown
      have hglt : g < wr.heap.size := (hown.lt g rfl).2
      clear hL htk hdr hown
      by_cases hlt : j < l.length
      · have hjL : j < L.length := by rw [HL.out]; exact hlt
        have hiL : i < L.length := by omega
        have hLj : L[j] = l[j] := by
          have e := HD.out
          rw [List.drop_eq_getElem_cons hjL, List.drop_eq_getElem_cons hlt] at e
          injection e
        obtain ⟨c0, c1, -, -⟩ := HW.out.cells2 (fun _ => rfl) j hjL _ _ rfl rfl
        obtain ⟨q0, q1, f0, f1⟩ := HW.out.cells2 (fun _ => rfl) i hiL _ _ rfl rfl
        rw [hLj] at c0 c1
        have hf := hz _ (List.getElem_mem hlt)
        have HS := Lib.hid (keepN_snoc (n := n) hlt)
        have HP := Lib.hid (fun x : Fld => HW.out.put2 (fun _ => rfl) i hiL x (.string x.1) (.string x.2) rfl)
        generalize L[i] = fi at q0 q1
        generalize l[j] = f at c0 c1 hf HS
        clear hLj
        have b0 : Below wr.heap.size wr (wr.alloc (.cells #[.string f.1, .string f.2] 31)) := (Below.refl _ _).alloc (Nat.le_refl _) _
        have HCr := Lib.hid (((HC1.out.grown hgr hgn).below b0))
        cases hq : isN n f
        all_goals
          have HQ := Lib.hid hq
          clear hq
          go_wp2_with fail
          refine (named1_any f gn n _ HCr.out.1 HCr.out.2 hf).mono ?_
          rintro e w2 ⟨rfl, b2⟩
          rw [HQ.out]
          have bw := b0.trans (b2.mono (by simp))
          have hgr2 := gr_below hgr bw
          have HS2 := HS.out
          rw [HQ.out] at HS2
          have HS3 := Lib.hid HS2
          clear HS2
        · have e0 : w2.cell? ⟨wr.heap.size, 0, none⟩ = some (.string f.1) := (b2.cell (by simp)).trans (by go_simp)
          have e1 : w2.cell? ⟨wr.heap.size, 1, none⟩ = some (.string f.2) := (b2.cell (by simp)).trans (by go_simp)
          have d0 : w2.cell? ⟨g, i * 2, none⟩ = some (.string fi.1) := (bw.cell hglt).trans q0
          have d1 : w2.cell? ⟨g, i * 2 + 1, none⟩ = some (.string fi.2) := (bw.cell hglt).trans q1
          have g0 : w2.frozen? ⟨g, i * 2, none⟩ = false := (bw.frozen hglt).trans f0
          have g1 : w2.frozen? ⟨g, i * 2 + 1, none⟩ = false := (bw.frozen hglt).trans f1
          have HW2 := Lib.hid ((HW.out.below bw).put2 (fun _ => rfl) i hiL f (.string f.1) (.string f.2) rfl)
          clear q0 q1 f0 f1 c0 c1
          go_wp2_with fail
          go_roundw
          case rel =>
            refine ⟨i + 1, j + 1, L.set i f, by omega, by omega, by rw [List.length_set]; exact HL.out, by go_num, by go_num, ?_, ?_, HW2.out, gr_set (gr_set hgr2 _ _) _ _⟩
            · rw [HS3.out, ← HT.out, if_neg (by decide), List.take_add_one, List.take_set_of_le (Nat.le_refl _), List.getElem?_set_self hiL]; rfl
            · rw [List.drop_set_of_lt (by omega)]
              have e := HD.out
              rw [List.drop_eq_getElem_cons hjL, List.drop_eq_getElem_cons hlt] at e
              injection e
          case measure => simp [intOf]; omega
        · go_wp2_with fail
          go_roundw
          case rel =>
            refine ⟨i, j + 1, L, by omega, by omega, HL.out, rfl, by go_num, ?_, ?_, HW.out.below bw, hgr2⟩
            · rw [HS3.out, ← HT.out, if_pos trivial, List.append_nil]
            · have e := HD.out
              rw [List.drop_eq_getElem_cons hjL, List.drop_eq_getElem_cons hlt] at e
              injection e
          case measure => simp [intOf]; omega
      · have hE : Hid (L.take i = keepN n l) := by
          show _ = _; rw [HT.out, List.take_of_length_le (by omega)]
        have hiL : i ≤ L.length := by rw [HL.out]; omega
        have HWc : Hid (Owns wr base 31 2 e_ss (.slice (some ⟨g, 0, none⟩) L.length cap) L) := by rw [HL.out]; exact HW.out
        have i1 : (i : Int) ≤ (l.length : Int) := by omega
        go_wp2_with ((refine wpList_clear_owns (size := 2) rfl (.tmp 38) 29 rfl _ Try.underlying29 Try.zeroValue31 rfl (by decide) fld_z (fun _ => rfl) HW.out i (l.length - i) _ (by rw [HL.out]; omega) rfl ?_); intro w3 ho3 hg3)
        go_ret
        refine ⟨⟨_, rfl, by rw [← hE.out]; exact ho3⟩, gr_trans (gr_trans (gr_of b1) hgr) hg3⟩
  · have hidx : idxI (isN n) l = -1 := idx_no (by simpa using hany)
    have hkp : keepN n l = l := keepN_none (by simpa using hany)
    have HI := Lib.hid (indexFld_any v l gn n w (SlR.of_owns h) hl hz hc)
    rw [hidx] at HI
    rw [hkp]
    clear hany h hidx hkp hc
    unfold nfn at HI ⊢
    go_enter Try.func39, Try.ntmps39
    go_wp2_with fail
    refine HI.out.mono ?_
    rintro e w1 ⟨rfl, b1⟩
    go_wp2_with fail
    go_ret
    exact ⟨⟨_, rfl, HO.out.below b1⟩, gr_of b1⟩
end Go.Proofs.Ythhhlaoiampinaa
