/- What span's PrintContent answers. -/
import Derived.Test.YthhhlaoiampinaaDoorSpcA
namespace Go.Proofs.YthhhlaoiampinaaDoor
open Go.RowKit
namespace Spc
theorem conL_mk (x y n : Int) : mkS (conL x y n) = (⟨#[98, 121, 116, 101, 115, 32]⟩ : ByteArray) ++ mkS (Lib.itoa x) ++ ⟨#[45]⟩ ++ mkS (Lib.itoa (y - 1)) ++ ⟨#[47]⟩ ++ mkS (Lib.itoa n) := by
  refine sl_inj ?_
  simp only [sl_append, sl_mkS]
  unfold conL
  simp only [List.append_assoc]
  rfl
theorem printC_no (x y n : Int) (w : World) (h : conB x y n = false) :
    Calls Tryd.prog 17 #[.agg #[.int .i64 x, .int .i64 y], .int .i64 n] w fun e w' => e = .returned (.tuple #[.string ByteArray.empty, .int .i64 1]) ∧ Below w.heap.size w w' := by
  have HC := Lib.hid (fun w' => isContent_any x y n w')
  rw [h] at HC
  clear h
  go_enter Tryd.func17, Tryd.ntmps17
  go_wp2_with fail
  refine (HC.out _).mono ?_
  rintro e w1 ⟨rfl, b1⟩
  go_wp2_with fail
  go_ret2
  exact ⟨rfl, belT ((Below.refl _ w).alloc (Nat.le_refl _) _) b1⟩
set_option maxHeartbeats 1000000 in
theorem printC_ok (x y n : Int) (w : World) (h : conB x y n = true) (hp : HasP10 w) :
    Calls Tryd.prog 17 #[.agg #[.int .i64 x, .int .i64 y], .int .i64 n] w fun e w' => e = .returned (.tuple #[.string (mkS (conL x y n)), .int .i64 0]) ∧ Below w.heap.size w w' := by
  have HC := Lib.hid (fun w' => isContent_any x y n w')
  rw [h] at HC
  obtain ⟨h0, h1, h2, h3⟩ := conB_in h
  obtain ⟨n1, n2, n3⟩ := conB_num h
  have HX := Lib.hid (fun w' hp => Bd.itoa_any x w' (by omega) (by omega) hp)
  have HY := Lib.hid (fun w' hp => Bd.itoa_any (y - 1) w' (by omega) (by omega) hp)
  have HN := Lib.hid (fun w' hp => Bd.itoa_any n w' (by omega) (by omega) hp)
  have l1 : (mkS (Lib.itoa x)).size ≤ 5 := by rw [mkS_size]; exact itoa_len n1
  have l2 : (mkS (Lib.itoa (y - 1))).size ≤ 5 := by rw [mkS_size]; exact itoa_len n2
  have l3 : (mkS (Lib.itoa n)).size ≤ 5 := by rw [mkS_size]; exact itoa_len n3
  have HL := Lib.hid (conL_mk x y n)
  generalize mkS (conL x y n) = L at *
  generalize mkS (Lib.itoa x) = X at *
  generalize mkS (Lib.itoa (y - 1)) = Y at *
  generalize mkS (Lib.itoa n) = Z at *
  have zP1 : ¬ 9223372036854775807 < 6 + X.size := by omega
  obtain ⟨P1, hP1⟩ : ∃ P1, (⟨#[98, 121, 116, 101, 115, 32]⟩ : ByteArray) ++ X = P1 := ⟨_, rfl⟩
  have lP1 : P1.size ≤ 11 := by rw [← hP1, ByteArray.size_append]; have : (⟨#[98, 121, 116, 101, 115, 32]⟩ : ByteArray).size = 6 := rfl; omega
  have zP2 : ¬ 9223372036854775807 < P1.size + 1 := by omega
  obtain ⟨P2, hP2⟩ : ∃ P2, P1 ++ (⟨#[45]⟩ : ByteArray) = P2 := ⟨_, rfl⟩
  have lP2 : P2.size ≤ 12 := by rw [← hP2, ByteArray.size_append]; have : (⟨#[45]⟩ : ByteArray).size = 1 := rfl; omega
  have zP3 : ¬ 9223372036854775807 < P2.size + Y.size := by omega
  obtain ⟨P3, hP3⟩ : ∃ P3, P2 ++ Y = P3 := ⟨_, rfl⟩
  have lP3 : P3.size ≤ 17 := by rw [← hP3, ByteArray.size_append]; omega
  have zP4 : ¬ 9223372036854775807 < P3.size + 1 := by omega
  obtain ⟨P4, hP4⟩ : ∃ P4, P3 ++ (⟨#[47]⟩ : ByteArray) = P4 := ⟨_, rfl⟩
  have lP4 : P4.size ≤ 18 := by rw [← hP4, ByteArray.size_append]; have : (⟨#[47]⟩ : ByteArray).size = 1 := rfl; omega
  have zP5 : ¬ 9223372036854775807 < P4.size + Z.size := by omega
  have HF : Hid (P4 ++ Z = L) := by show _ = _; rw [HL.out, ← hP4, ← hP3, ← hP2, ← hP1]
  have hw := wrap_small (y - 1) (by omega) (by omega)
  have HP := Lib.hid (fun w' (hb : Below w.heap.size w w') => hp.below rfl hb)
  clear hp h n1 n2 n3 HL h0 h1 h2 h3
  go_enter Tryd.func17, Tryd.ntmps17
  go_wp2_with fail
  refine (HC.out _).mono ?_
  rintro e w1 ⟨rfl, b1⟩
  have B1 : Below w.heap.size w w1 := belT ((Below.refl _ w).alloc (Nat.le_refl _) _) b1
  have HP1 := Lib.hid (HP.out _ B1)
  have c0 : w1.cell? ⟨w.heap.size, 0, none⟩ = some (.int .i64 x) := (b1.cell (p := ⟨w.heap.size, 0, none⟩) (by simp)).trans (World.cell?_alloc_at _ _ _ _ rfl)
  have c1 : w1.cell? ⟨w.heap.size, 1, none⟩ = some (.int .i64 y) := (b1.cell (p := ⟨w.heap.size, 1, none⟩) (by simp)).trans (World.cell?_alloc_at _ _ _ _ rfl)
  have HC0 := Lib.hid (fun w' (hb : Below w1.heap.size w1 w') => (hb.cell (p := ⟨w.heap.size, 0, none⟩) (by have := b1.size; simp at this ⊢; omega)).trans c0)
  have HC1 := Lib.hid (fun w' (hb : Below w1.heap.size w1 w') => (hb.cell (p := ⟨w.heap.size, 1, none⟩) (by have := b1.size; simp at this ⊢; omega)).trans c1)
  clear HP
  go_wp2_with fail
  refine wp_region_seq [(true, 0), (true, 1), (true, 5), (true, 6), (true, 7), (true, 11), (false, 2), (true, 3), (true, 4), (false, 8), (true, 9), (true, 10), (false, 12), (true, 13), (true, 14), (true, 15)] (fun w' => Below w1.heap.size w1 w') (by kernel_rfl) (by kernel_rfl) (fun _ _ _ _ _ h => h) (by kernel_rfl) (by kernel_rfl) (by first | exact (Below.refl _ _).drew | exact Below.drew (by assumption)) ?_
  have bS : Below w1.heap.size w1 _ := (by first | exact Below.drew (by assumption) | exact (Below.refl _ w1).drew)
  iterate 16 (first
    | (apply seqH_skip; (focus (simp only [List.getElem?_toArray, List.getElem?_cons_succ, List.getElem?_cons_zero]; rfl)); (focus rfl); simp only [Act.put, List.setIfInBounds_toArray, List.set_cons_zero, List.set_cons_succ])
    | (apply seqH_take; (focus (simp only [List.getElem?_toArray, List.getElem?_cons_succ, List.getElem?_cons_zero]; rfl)); (focus rfl); (focus (intro w' hS; have c0 := HC0.out _ hS; have c1 := HC1.out _ hS; first | (go_simp; rfl) | (go_simp; done))); simp only [Act.put, List.setIfInBounds_toArray, List.set_cons_zero, List.set_cons_succ])
    | (apply seqH_pass; (focus (simp only [List.getElem?_toArray, List.getElem?_cons_succ, List.getElem?_cons_zero]; rfl)); (focus rfl); (focus assumption); simp only [Act.put, List.setIfInBounds_toArray, List.set_cons_zero, List.set_cons_succ])
    | (apply seqH_eff; (focus (simp only [List.getElem?_toArray, List.getElem?_cons_succ, List.getElem?_cons_zero]; rfl)); (focus rfl); intro K hK; go_simp; (go_at_call 25; (first | (with_reducible refine (HX.out _ (HP1.out.below rfl (by assumption))).mono ?_) | (with_reducible refine (HY.out _ (HP1.out.below rfl (by assumption))).mono ?_) | (with_reducible refine (HN.out _ (HP1.out.below rfl (by assumption))).mono ?_))); rintro e wN ⟨rfl, bN⟩; refine hK _ _ (seq_next (by assumption) bN (fun bS' => ?_)); clear hK K))
  refine seqH_nil ?_
  go_wp2_with fail
  go_ret2
  exact ⟨ret_si HF.out rfl, belT B1 (by assumption)⟩
end Spc
end Go.Proofs.YthhhlaoiampinaaDoor
