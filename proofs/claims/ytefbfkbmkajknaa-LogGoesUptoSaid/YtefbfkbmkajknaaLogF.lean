/- LogTorn: the law's walk. -/
import Derived.Test.YtefbfkbmkajknaaLogE
namespace Go.Proofs.Ytefbfkbmkajknaa
open Go.RowKit
def Wide (n : Int) : Prop := -9223372036854775808 ≤ n ∧ n ≤ 9223372036854775807
theorem wide_of {n : Int} (h : (Lit.int .i64 n).wf = true) : Wide n := by
  simp only [Lit.wf, Bool.and_eq_true, decide_eq_true_eq] at h
  exact ⟨h.1, h.2⟩
theorem tmod_way (n m : Int) (hm : 0 < m) : (0 ≤ n.tmod m → n.tmod m = n % m) ∧ (n.tmod m < 0 → n.tmod m + m = n % m) := by
  have h := Int.tmod_eq_emod (a := n) (b := m)
  have h0 := Int.emod_nonneg n (b := m) (by omega)
  have h1 := Int.emod_lt_of_pos n hm
  split at h
  · omega
  · rw [show (m.natAbs : Int) = m from by omega] at h; omega
set_option maxHeartbeats 400000 in
theorem rest_any (n m : Int) (w : World) (h0 : Wide n) (hm : 0 < m ∧ m ≤ 4611686018427387904) :
    Calls Try.prog 19 #[.int .i64 n, .int .i64 m] w fun e w' => e = .returned (.int .i64 (n % m)) ∧ w = w' := by
  have h := h0
  unfold Wide at h
  have ht := tmod_way n m hm.1
  have h2 := Int.emod_nonneg n (b := m) (by omega)
  have h1 := Int.emod_lt_of_pos n hm.1
  have hz : (m == 0) = false := by rw [beq_eq_false_iff_ne]; omega
  generalize hr : n % m = r at *
  have HT := Lib.hid ht
  clear ht hr
  go_enter Try.func19, Try.ntmps19
  go_wp2
  all_goals
    go_ret
    refine ⟨ret_int ?_, rfl⟩
  · rw [← HT.out.2 (by assumption)]
    have := HT.out.2 (by assumption)
    unfold wrap64; omega
  · exact HT.out.1 (by assumption)
namespace Lg
theorem whole_step {L : List (List UInt8)} {i k b : Nat} (hi : i < L.length) (hb : b ≤ k) (h : whole 0 L k = (i + (whole i (L.drop i) (k - b)).1, b + (whole i (L.drop i) (k - b)).2)) :
    (k < b + (frame i L[i]).length → whole 0 L k = (i, b)) ∧ (b + (frame i L[i]).length ≤ k → whole 0 L k = ((i + 1) + (whole (i + 1) (L.drop (i + 1)) (k - (b + (frame i L[i]).length))).1, (b + (frame i L[i]).length) + (whole (i + 1) (L.drop (i + 1)) (k - (b + (frame i L[i]).length))).2)) := by
  rw [List.drop_eq_getElem_cons hi, whole] at h
  constructor
  · intro hk
    rw [if_pos (by omega)] at h
    simpa using h
  · intro hk
    rw [if_neg (by omega), show k - b - (frame i L[i]).length = k - (b + (frame i L[i]).length) from by omega] at h
    rw [h]
    simp only [Prod.mk.injEq]; omega
theorem whole_end {L : List (List UInt8)} {i k b : Nat} (hi : L.length ≤ i) (h : whole 0 L k = (i + (whole i (L.drop i) (k - b)).1, b + (whole i (L.drop i) (k - b)).2)) : whole 0 L k = (i, b) := by
  rw [List.drop_eq_nil_of_le hi, whole] at h
  simpa using h
end Lg
set_option maxRecDepth 100000 in
set_option maxHeartbeats 3200000 in
theorem logTorn_core (v : Value) (l : List ByteArray) (at_ : Int) (w : World) (h : SlR w es v l) (hl : l.length ≤ 1048576) (hat : Wide at_) :
    Calls Try.prog 5 #[v, .int .i64 at_] w fun e w' => e = .returned (.bool true) ∧ Below w.heap.size w w' := by
  go_enter Try.func5, Try.ntmps5
  go_wp2_with fail
  refine (logged_any v l _ h hl).mono ?_
  rintro e w1 ⟨⟨v1, rfl, o1⟩, b1⟩
  have h1 := SlR.of_owns o1
  have hjl := jour_len l
  have hrl : (recs l).length = l.length := by simp [recs]
  obtain ⟨j, hj, hjs, HJ⟩ : ∃ j : ByteArray, mkS (jour l) = j ∧ j.size ≤ 1073741824 ∧ Hid (sl j = jour l) := ⟨_, rfl, by rw [mkS_size]; omega, sl_mkS _⟩
  rw [hj]
  clear hj hjl o1
  obtain ⟨A1, c1, hv1, hc1⟩ := h1.form
  subst hv1
  have H1 := Lib.hid h1
  clear h1
  go_wp2_with fail
  refine (rest_any at_ ((j.size : Int) + 1) _ hat (by omega)).mono ?_
  rintro e w' ⟨rfl, rfl⟩
  obtain ⟨k, hk, hkz⟩ : ∃ k : Nat, at_ % ((j.size : Int) + 1) = (k : Int) ∧ k ≤ j.size := by
    have h0 := Int.emod_nonneg at_ (b := (j.size : Int) + 1) (by omega)
    have h1 := Int.emod_lt_of_pos at_ (b := (j.size : Int) + 1) (by omega)
    exact ⟨(at_ % ((j.size : Int) + 1)).toNat, by omega, by omega⟩
  rw [hk]
  clear hk
  go_wp2_with fail
  have HT : Hid (Lg.recAll 0 (sl (j.extract 0 k)) = ((lens (recs l)).take (Lg.whole 0 (lens (recs l)) k).1, (Lg.whole 0 (lens (recs l)) k).2)) := by
    show _ = _
    rw [sl_extract, HJ.out, Nat.sub_zero, List.drop_zero]
    exact Lg.recAll_torn _ 0 k (lens_recs_le l)
  have hwl := Lg.whole_le (lens (recs l)) 0 k
  have hll : (lens (recs l)).length = l.length := by simp [lens, recs]
  have hLle := Lib.hid (lens_recs_le l)
  obtain ⟨W, B, hWB⟩ : ∃ W B, Lg.whole 0 (lens (recs l)) k = (W, B) := ⟨_, _, rfl⟩
  rw [hWB] at HT hwl
  refine (recover_any (j.extract 0 k) _ (by rw [ext_size _ _ _ hkz]; omega)).mono ?_
  rintro e w2 ⟨hr, b2⟩
  rw [HT.out] at hr
  obtain ⟨v2, rfl, o2⟩ := hr
  simp only [List.map_take, lens_mkS] at o2
  have hW := hwl.1
  have hB := hwl.2.1
  rw [hll] at hW
  clear hwl hll
  have H2 := Lib.hid (SlR.of_owns o2)
  have H12 := Lib.hid (H1.out.below b2)
  have bb := belT b1 b2
  have HWB := Lib.hid hWB
  have HL : Hid (∀ i (hi : i < l.length), (lens (recs l))[i]? = some (sl ((recs l)[i]'(by rw [hrl]; exact hi)))) := by
    intro i hi
    simp [lens, recs, List.getElem?_eq_getElem hi]
  clear o2 hWB b1 b2
  go_wp2_with fail
  go_loopw [10, 11, 38] (fun t n i wr => ∃ b i' : Nat, i' ≤ l.length ∧ b ≤ k ∧ t = .int .i64 b ∧ n = .int .i64 i' ∧ i = .int .i64 i' ∧ Lg.whole 0 (lens (recs l)) k = (i' + (Lg.whole i' ((lens (recs l)).drop i') (k - b)).1, b + (Lg.whole i' ((lens (recs l)).drop i') (k - b)).2) ∧ Below w2.heap.size w2 wr) (fun _ _ i _ => l.length - (intOf i).toNat)
  case atStart => exact ⟨0, 0, by omega, by omega, rfl, rfl, rfl, by simp, Below.refl _ _⟩
  case round =>
    obtain ⟨b, i, hi, hbk, rfl, rfl, rfl, hwh, hbel⟩ := hrel
    have HH := Lib.hid hwh
    clear hwh
    by_cases hlt : i < l.length
    · obtain ⟨g, o, c', he, -, hg, hcell⟩ := H12.out.texts (by omega)
      obtain ⟨rfl, rfl⟩ : A1 = some ⟨g, o, none⟩ ∧ c1 = c' := by injection he with h1 h2 h3; exact ⟨h1, h3⟩
      have c0 := (hbel.cell (p := ⟨g, o + i, none⟩) hg).trans (hcell i (by omega))
      have hL := HL.out i hlt
      have hs := recs_le l _ (List.getElem_mem (h := by rw [hrl]; exact hlt))
      generalize (recs l)[i]'(by rw [hrl]; exact hlt) = s at c0 hL hs
      have hLi : i < (lens (recs l)).length := by simp [lens]; omega
      have hLe : (lens (recs l))[i] = sl s := by rw [List.getElem?_eq_getElem hLi] at hL; injection hL
      have hst := Lg.whole_step hLi hbk HH.out
      rw [hLe, Lg.frame_len, sl_len] at hst
      have HS := Lib.hid hst
      clear hL hLe hst hcell he
      go_wp2_with fail
      refine (frame_any i s _ (by omega) hs).mono ?_
      rintro e w3 ⟨rfl, b3⟩
      have hbb := hbel.trans (b3.mono hbel.size)
      have hfz : (mkS (Lg.frame i (sl s))).size = s.size + 8 := by rw [mkS_size, Lg.frame_len, sl_len]
      generalize mkS (Lg.frame i (sl s)) = f at hfz
      by_cases hfit : b + (s.size + 8) ≤ k
      · have hst := HS.out.2 hfit
        have HS' := Lib.hid hst
        have d1 : decide ((k : Int) < (b : Int) + ((s.size : Int) + 8)) = false := by rw [decide_eq_false_iff_not]; omega
        clear hst HS
        go_wp2_with fail
        go_roundw
        case rel => exact ⟨b + (s.size + 8), i + 1, by omega, hfit, by go_num, by go_num, by go_num, HS'.out, hbb⟩
        case measure => simp [intOf]; omega
      · have hst := HS.out.1 (by omega)
        have hst2 : i = W ∧ b = B := by rw [HWB.out] at hst; simpa using hst.symm
        have d1 : decide ((k : Int) < (b : Int) + ((s.size : Int) + 8)) = true := by rw [decide_eq_true_eq]; omega
        clear hst HS
        obtain ⟨rfl, rfl⟩ := hst2
        go_wp2_with fail
        refine (eqStr_any _ _ ((recs l).take i) ((recs l).take i) _ (H2.out.below hbb) ((H12.out.below hbb).take_ i (by omega)) (by simp; omega) (by simp; omega)).mono ?_
        rintro e w' ⟨rfl, rfl⟩
        rw [same_refl]
        go_wp2_with fail
        go_ret
        exact ⟨rfl, belT bb hbb⟩
    · have hst := Lg.whole_end (by simp [lens]; omega) HH.out
      have hst2 : i = W ∧ b = B := by rw [HWB.out] at hst; simpa using hst.symm
      clear hst
      obtain ⟨rfl, rfl⟩ := hst2
      go_wp2_with fail
      refine (eqStr_any _ _ ((recs l).take i) ((recs l).take i) _ (H2.out.below hbel) ((H12.out.below hbel).take_ i (by omega)) (by simp; omega) (by simp; omega)).mono ?_
      rintro e w' ⟨rfl, rfl⟩
      rw [same_refl]
      go_wp2_with fail
      go_ret
      exact ⟨rfl, belT bb hbel⟩
theorem logTorn_walk (v : Value) (l : List ByteArray) (at_ : Int) (w : World) (h : SlR w es v l) (hs : (l.map (fun s => s.size + 1)).sum ≤ 1048576) (hat : (Lit.int .i64 at_).wf = true) :
    Calls Try.prog 5 #[v, .int .i64 at_] w fun e w' => e = .returned (.bool true) ∧ Below w.heap.size w w' :=
  logTorn_core v l at_ w h (Nat.le_trans (sum_len _ (fun _ => by omega) l) hs) (wide_of hat)
end Go.Proofs.Ytefbfkbmkajknaa
