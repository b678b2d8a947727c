/- SpanTail: the law's walk. -/
import Derived.Test.YtpoaffhhkmochaaSpanC
import Derived.Test.YtpoaffhhkmochaaSpanB
import Derived.Test.YtpoaffhhkmochaaRegion
import Derived.IntWalk
namespace Go.Proofs.Ytpoaffhhkmochaa
open Go.RowKit
theorem tmod_way (n : Int) : (0 ≤ n.tmod 100000 → n.tmod 100000 = n % 100000) ∧ (n.tmod 100000 < 0 → n.tmod 100000 + 100000 = n % 100000) := by
  have h := Int.tmod_eq_emod (a := n) (b := 100000)
  have h0 := Int.emod_nonneg n (b := 100000) (by omega)
  have h1 := Int.emod_lt_of_pos n (b := 100000) (by omega)
  split at h
  · omega
  · simp at h; omega
def Wide (n : Int) : Prop := -9223372036854775808 ≤ n ∧ n ≤ 9223372036854775807
theorem wide_of {n : Int} (h : (Lit.int .i64 n).wf = true) : Wide n := by
  simp only [Lit.wf, Bool.and_eq_true, decide_eq_true_eq] at h
  exact ⟨h.1, h.2⟩
theorem rest_any (n : Int) (w : World) (h0 : Wide n) :
    Calls Try.prog 25 #[.int .i64 n, .int .i64 100000] w fun e w' => e = .returned (.int .i64 (n % 100000)) ∧ w = w' := by
  have h := h0
  unfold Wide at h
  go_enter Try.func25, Try.ntmps25
  go_wp2
  all_goals
    have ht := tmod_way n
    go_ret
    exact ⟨ret_int (by first | exact ht.1 (by assumption) | (rw [← ht.2 (by assumption)]; unfold wrap64; omega)), rfl⟩
namespace Spn
theorem resolve_one {d : Int × Int} {Z : Int} (hw : wantB d = true) (hZ : 0 ≤ Z) : resolve [d] Z = if (res1 Z d).1 < (res1 Z d).2 then .ok [res1 Z d] else .error 11 := by
  unfold resolve
  rw [if_neg (by simp [hw]; omega), if_neg (by simp)]
  unfold resL someB
  by_cases h : (res1 Z d).1 < (res1 Z d).2 <;> simp [h]
theorem numB_of {n : Int} (h : 0 ≤ n ∧ n < 100000) : numB n = true := by simp [numB]; omega
def low (N Z : Int) : Int := if 0 < Z - N then Z - N else 0
theorem tail_a {N Z : Int} (hN : 0 ≤ N ∧ N < 100000) (hZ : 0 ≤ Z ∧ Z < 100000) : resolve [(-1, N)] Z = if low N Z < Z then .ok [(low N Z, Z)] else .error 11 := by
  rw [resolve_one (by simp [wantB, numB_of hN]) hZ.1]; rfl
theorem low_in {N Z : Int} (hN : 0 ≤ N ∧ N < 100000) (hZ : 0 ≤ Z ∧ Z < 100000) : 0 ≤ low N Z ∧ low N Z ≤ Z := by unfold low; split <;> omega
theorem tail_b {N Z : Int} (hN : 0 ≤ N ∧ N < 100000) (hZ : 0 ≤ Z ∧ Z < 100000) : resolve [(low N Z, -1)] Z = if low N Z < Z then .ok [(low N Z, Z)] else .error 11 := by
  have h := low_in hN hZ
  have hr : res1 Z (low N Z, -1) = (low N Z, Z) := by
    unfold res1; rw [if_neg (by show ¬ low N Z < 0; omega), if_pos (show (-1 : Int) < 0 by decide)]
  have hw : wantB (low N Z, -1) = true := by
    unfold wantB; rw [if_neg (by simp; omega), if_pos (by simp)]; exact numB_of (by omega)
  rw [resolve_one hw hZ.1, hr]
theorem tail_c {Z : Int} (hZ : 0 ≤ Z ∧ Z < 100000) : resolve [(0, -1)] Z = if 0 < Z then .ok [(0, Z)] else .error 11 := by
  rw [resolve_one (by decide) hZ.1]; rfl
end Spn
/-- Resolve over one literal. -/
theorem resolve_lit (a b z : Int) (t : TypeId) (w : World) (hz : 0 ≤ z ∧ z < 100000) :
    Calls Try.prog 24 #[.slice (some ⟨w.heap.size, 0, none⟩) 1 1, .int .i64 z] (w.alloc (.cells #[.int .i64 a, .int .i64 b] t)) fun e w' => ResAns 51 w.heap.size [(a, b)] z e w' ∧ Below w.heap.size w w' := by
  refine (resolve_any _ [(a, b)] z _ (SlR.lit w [.int .i64 a, .int .i64 b] t [(a, b)] rfl) (by simp) (by omega) (by omega)).mono ?_
  rintro e w' ⟨h, hb⟩
  refine ⟨?_, ((Below.refl _ _).alloc (Nat.le_refl _) _).trans (hb.mono (by simp))⟩
  unfold ResAns at h ⊢
  split at h
  · exact h
  · obtain ⟨v, he, ho⟩ := h
    exact ⟨v, he, ho.mono (by simp)⟩
/-- Nothing there. -/
theorem resolve_lit_no (a b z c : Int) (t : TypeId) (w : World) (hz : 0 ≤ z ∧ z < 100000) (h : Spn.resolve [(a, b)] z = .error c) :
    Calls Try.prog 24 #[.slice (some ⟨w.heap.size, 0, none⟩) 1 1, .int .i64 z] (w.alloc (.cells #[.int .i64 a, .int .i64 b] t)) fun e w' => e = .returned (.tuple #[.slice none 0 0, .int .i64 c]) ∧ Below w.heap.size w w' := by
  refine (resolve_lit a b z t w hz).mono ?_
  rintro e w' ⟨h1, h2⟩
  unfold ResAns at h1
  rw [h] at h1
  exact ⟨h1, h2⟩
theorem resolve_lit_yes (a b z : Int) (l : List (Int × Int)) (t : TypeId) (w : World) (hz : 0 ≤ z ∧ z < 100000) (h : Spn.resolve [(a, b)] z = .ok l) :
    Calls Try.prog 24 #[.slice (some ⟨w.heap.size, 0, none⟩) 1 1, .int .i64 z] (w.alloc (.cells #[.int .i64 a, .int .i64 b] t)) fun e w' => (∃ v, e = .returned (.tuple #[v, .int .i64 0]) ∧ SlR w' e_ii v l) ∧ Below w.heap.size w w' := by
  refine (resolve_lit a b z t w hz).mono ?_
  rintro e w' ⟨h1, h2⟩
  unfold ResAns at h1
  rw [h] at h1
  obtain ⟨v, hv, ho⟩ := h1
  exact ⟨⟨v, hv, SlR.of_owns ho⟩, h2⟩
set_option maxRecDepth 8000 in
set_option maxHeartbeats 1600000 in
/-- No body. -/
theorem spanTail_none (n size N : Int) (w : World) (hn : Wide n) (hz : Wide size) (hN : n % 100000 = N) (hZ : size % 100000 = 0) :
    Calls Try.prog 9 #[.int .i64 n, .int .i64 size] w fun e w' => e = .returned (.bool true) ∧ Below w.heap.size w w' := by
  have hN0 : 0 ≤ N ∧ N < 100000 := by omega
  have HN := Lib.hid (rest_any n)
  have HZ := Lib.hid (rest_any size)
  rw [hN] at HN
  rw [hZ] at HZ
  have ha := Spn.tail_a hN0 (Z := 0) (by omega)
  rw [if_neg (by have := Spn.low_in hN0 (Z := 0) (by omega); omega)] at ha
  have HA := Lib.hid ha
  have HC := Lib.hid (Spn.tail_c (Z := 0) (by omega))
  have hneg : ¬ (0 < -N) := by omega
  clear hN hZ ha
  have h0 : ((0 : Int) == 0) = true := rfl
  go_enter Try.func9, Try.ntmps9
  go_wp2_with (first | (with_reducible refine (HN.out _ hn).mono ?_; rintro e w' ⟨rfl, rfl⟩) | (with_reducible refine (HZ.out _ hz).mono ?_; rintro e w' ⟨rfl, rfl⟩))
  refine (resolve_lit_no (-1) N 0 11 _ _ (by omega) HA.out).mono ?_
  rintro e w1 ⟨rfl, b1⟩
  go_wp2_with fail
  refine (resolve_lit_no 0 (-1) 0 11 _ _ (by omega) HC.out).mono ?_
  rintro e w2 ⟨rfl, b2⟩
  go_wp2_with fail
  refine (resolve_lit_no 0 (-1) 0 11 _ _ (by omega) HC.out).mono ?_
  rintro e w3 ⟨rfl, b3⟩
  go_wp2_with fail
  go_ret
  exact ⟨rfl, belT (belT b1 b2) b3⟩
set_option maxRecDepth 8000 in
set_option maxHeartbeats 1600000 in
/-- Of no last bytes. -/
theorem spanTail_zero (n size Z : Int) (w : World) (hn : Wide n) (hz : Wide size) (hN : n % 100000 = 0) (hZ : size % 100000 = Z) (hZ1 : 0 < Z) :
    Calls Try.prog 9 #[.int .i64 n, .int .i64 size] w fun e w' => e = .returned (.bool true) ∧ Below w.heap.size w w' := by
  have hZ0 : 0 ≤ Z ∧ Z < 100000 := by omega
  have HN := Lib.hid (rest_any n)
  have HZ := Lib.hid (rest_any size)
  rw [hN] at HN
  rw [hZ] at HZ
  have hl : Spn.low 0 Z = Z := by unfold Spn.low; rw [if_pos (by omega)]; omega
  have ha := Spn.tail_a (N := 0) (by omega) hZ0
  have hb := Spn.tail_b (N := 0) (by omega) hZ0
  rw [hl, if_neg (by omega)] at ha hb
  have hc := Spn.tail_c hZ0
  rw [if_pos hZ1] at hc
  have HA := Lib.hid ha
  have HB := Lib.hid hb
  have HC := Lib.hid hc
  clear hN hZ ha hb hc hl
  have hz0 : (Z == 0) = false := by rw [beq_eq_false_iff_ne]; omega
  go_enter Try.func9, Try.ntmps9
  go_wp2_with (first | (with_reducible refine (HN.out _ hn).mono ?_; rintro e w' ⟨rfl, rfl⟩) | (with_reducible refine (HZ.out _ hz).mono ?_; rintro e w' ⟨rfl, rfl⟩))
  refine (resolve_lit_no (-1) 0 Z 11 _ _ hZ0 HA.out).mono ?_
  rintro e w1 ⟨rfl, b1⟩
  go_wp2_with fail
  refine (resolve_lit_no Z (-1) Z 11 _ _ hZ0 HB.out).mono ?_
  rintro e w2 ⟨rfl, b2⟩
  go_wp2_with fail
  refine (resolve_lit_yes 0 (-1) Z _ _ _ hZ0 HC.out).mono ?_
  rintro e w3 ⟨⟨vc, rfl, oc⟩, b3⟩
  have OC := Lib.hid oc
  clear oc
  go_wp2_with fail
  refine (eqSlice_any vc _ [(0, Z)] [(0, Z)] _ (OC.out.alloc _) (SlR.lit w3 [.int .i64 0, .int .i64 Z] _ [(0, Z)] rfl) (by simp)).mono ?_
  rintro e w4 ⟨rfl, b4⟩
  have b4' := ((Below.refl w3.heap.size w3).alloc (Nat.le_refl _) _).trans (b4.mono (by simp))
  clear b4
  rw [decide_eq_true rfl]
  go_wp2_with fail
  go_ret
  exact ⟨rfl, belT (belT (belT b1 b2) b3) b4'⟩
set_option maxRecDepth 8000 in
set_option maxHeartbeats 3200000 in
/-- Some of some. -/
theorem spanTail_some (n size N Z L : Int) (w : World) (hn : Wide n) (hz : Wide size) (hN : n % 100000 = N) (hZ : size % 100000 = Z) (hZ1 : 0 < Z) (hN1 : 0 < N) (hd : (N < Z ∧ L = Z - N) ∨ (Z ≤ N ∧ L = 0)) :
    Calls Try.prog 9 #[.int .i64 n, .int .i64 size] w fun e w' => e = .returned (.bool true) ∧ Below w.heap.size w w' := by
  have hN0 : 0 ≤ N ∧ N < 100000 := by omega
  have hZ0 : 0 ≤ Z ∧ Z < 100000 := by omega
  have HN := Lib.hid (rest_any n)
  have HZ := Lib.hid (rest_any size)
  rw [hN] at HN
  rw [hZ] at HZ
  have hl : Spn.low N Z = L := by unfold Spn.low; split <;> omega
  have ha := Spn.tail_a hN0 hZ0
  have hb := Spn.tail_b hN0 hZ0
  have hc := Spn.tail_c hZ0
  rw [hl, if_pos (by omega)] at ha hb
  rw [if_pos hZ1] at hc
  have HA := Lib.hid ha
  have HB := Lib.hid hb
  have HC := Lib.hid hc
  clear hN hZ ha hb hc hl
  have hz0 : (Z == 0) = false := by rw [beq_eq_false_iff_ne]; omega
  have hn0 : (N == 0) = false := by rw [beq_eq_false_iff_ne]; omega
  rcases hd with ⟨hd, rfl⟩ | ⟨hd, rfl⟩
  all_goals
    go_enter Try.func9, Try.ntmps9
    go_wp2_with (first | (with_reducible refine (HN.out _ hn).mono ?_; rintro e w' ⟨rfl, rfl⟩) | (with_reducible refine (HZ.out _ hz).mono ?_; rintro e w' ⟨rfl, rfl⟩))
    refine (resolve_lit_yes (-1) N Z _ _ _ hZ0 HA.out).mono ?_
    rintro e w1 ⟨⟨va, rfl, oa⟩, b1⟩
    have OA := Lib.hid oa
    clear oa
    go_wp2_with fail
    refine (resolve_lit_yes _ (-1) Z _ _ _ hZ0 HB.out).mono ?_
    rintro e w2 ⟨⟨vb, rfl, ob⟩, b2⟩
    have OB := Lib.hid ob
    clear ob
    go_wp2_with fail
    refine (resolve_lit_yes 0 (-1) Z _ _ _ hZ0 HC.out).mono ?_
    rintro e w3 ⟨⟨vc, rfl, oc⟩, b3⟩
    have OC := Lib.hid oc
    clear oc
    go_wp2_with fail
    refine (eqSlice_any vc _ [(0, Z)] [(0, Z)] _ (OC.out.alloc _) (SlR.lit w3 [.int .i64 0, .int .i64 Z] _ [(0, Z)] rfl) (by simp)).mono ?_
    rintro e w4 ⟨rfl, b4⟩
    have b4' := ((Below.refl w3.heap.size w3).alloc (Nat.le_refl _) _).trans (b4.mono (by simp))
    clear b4
    rw [decide_eq_true rfl]
    have HA4 := Lib.hid (((OA.out.below b2).below b3).below b4')
    have HB4 := Lib.hid ((OB.out.below b3).below b4')
    go_wp2_with fail
    obtain ⟨g, o, cap, hv, hg, hcell⟩ := SlR.two (fun _ => rfl) HA4.out (by simp)
    obtain ⟨q0, q1⟩ := hcell 0 (by simp) _ _ rfl rfl
    simp only [List.length_singleton] at hv
    subst hv
    have bb := belT (belT (belT b1 b2) b3) b4'
    clear b1 b2 b3 b4'
    have HX := Lib.hid (fun w' (hb : Below w4.heap.size w4 w') => show w'.cell? ⟨g, o, none⟩ = some (.int .i64 _) ∧ w'.cell? ⟨g, o + 1, none⟩ = some (.int .i64 Z) from ⟨(hb.cell hg).trans (by simpa using q0), (hb.cell hg).trans (by simpa using q1)⟩)
    have HE := Lib.hid (fun w' (hb : Below w4.heap.size w4 w') => (eqSlice_any _ vb _ _ w' (HA4.out.below hb) (HB4.out.below hb) (by simp)))
    clear hcell q0 q1
    refine wp_region_seq [(true, 0), (true, 1), (true, 2), (true, 3), (true, 4), (true, 5), (true, 6), (true, 7), (true, 8), (false, 9), (true, 10), (true, 11), (true, 12), (true, 13), (true, 14), (true, 15), (true, 16), (true, 17), (true, 18), (true, 19), (true, 20), (true, 21), (true, 22), (true, 23), (true, 24), (true, 25), (true, 26), (true, 27), (true, 28), (true, 29), (true, 30), (true, 31), (true, 32), (true, 33), (true, 34), (true, 35), (true, 36), (true, 37), (true, 38), (true, 39)] (fun w' => Below w4.heap.size w4 w') (by kernel_rfl) (by kernel_rfl) (fun _ _ _ _ _ h => h) (by kernel_rfl) (by kernel_rfl) (by first | exact (Below.refl _ _).drew | exact Below.drew (by assumption)) ?_
    have bS : Below w4.heap.size w4 _ := (by first | exact (Below.refl _ w4).drew | exact Below.drew (by assumption))
    iterate 40 (first
      | (apply seqH_skip; (focus (simp only [List.getElem?_toArray, List.getElem?_cons_succ, List.getElem?_cons_zero]; rfl)); (focus rfl); simp only [Act.put, List.setIfInBounds_toArray, List.set_cons_zero, List.set_cons_succ])
      | (apply seqH_take; (focus (simp only [List.getElem?_toArray, List.getElem?_cons_succ, List.getElem?_cons_zero]; rfl)); (focus rfl); (focus (intro w' hS; obtain ⟨c0, c1⟩ := HX.out _ hS; first | (go_simp; rfl) | (go_simp; done))); simp only [Act.put, List.setIfInBounds_toArray, List.set_cons_zero, List.set_cons_succ])
      | (apply seqH_pass; (focus (simp only [List.getElem?_toArray, List.getElem?_cons_succ, List.getElem?_cons_zero]; rfl)); (focus rfl); (focus assumption); simp only [Act.put, List.setIfInBounds_toArray, List.set_cons_zero, List.set_cons_succ])
      | (apply seqH_eff; (focus (simp only [List.getElem?_toArray, List.getElem?_cons_succ, List.getElem?_cons_zero]; rfl)); (focus rfl); intro K hK; go_simp; (go_at_call 26; (with_reducible refine (HE.out _ (by assumption)).mono ?_); rw [decide_eq_true rfl]); rintro e wN ⟨rfl, bN⟩; refine hK _ _ (seq_next (by assumption) bN (fun bS' => ?_)); clear hK K))
    refine seqH_nil ?_
    go_wp2_with fail
    all_goals
      go_ret
      exact ⟨ret_bool (by rw [beq_iff_eq, IntWalk.i64_in _ (by omega)]; try omega), bb.trans (Below.mono (by assumption) bb.size)⟩
theorem spanTail_walk (n size : Int) (w : World) (hn : (Lit.int .i64 n).wf = true) (hz : (Lit.int .i64 size).wf = true) :
    Calls Try.prog 9 #[.int .i64 n, .int .i64 size] w fun e w' => e = .returned (.bool true) ∧ Below w.heap.size w w' := by
  have hn' := wide_of hn
  have hz' := wide_of hz
  by_cases h0 : size % 100000 = 0
  · exact spanTail_none n size _ w hn' hz' rfl h0
  · by_cases h1 : n % 100000 = 0
    · exact spanTail_zero n size _ w hn' hz' h1 rfl (by omega)
    · refine spanTail_some n size _ _ (if n % 100000 < size % 100000 then size % 100000 - n % 100000 else 0) w hn' hz' rfl rfl (by omega) (by omega) ?_
      split <;> omega
end Go.Proofs.Ytpoaffhhkmochaa
