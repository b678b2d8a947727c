/- body.Encode. -/
import Derived.Test.YtoalfjkbgeiggaaGreatDoorZip7
import Derived.Test.YtoalfjkbgeiggaaGreatDoorZDecF
import Derived.Test.YtoalfjkbgeiggaaGreatDoorZBuilder
namespace Go.Proofs.YtoalfjkbgeiggaaGreatDoor
set_option maxRecDepth 20000
open Go.RowKit
open Ck
namespace Ck
theorem encL_len : ∀ (n z : Nat) (s : List UInt8), 1 ≤ z → s.length ≤ 5000 → (encL n z s).length ≤ 9 * s.length + 5
  | 0, z, s, _, _ => by unfold encL lastL; simp
  | n + 1, z, s, hz, hs => by
    rw [encL]
    split
    · unfold lastL; simp
    · rename_i hne
      have hpos : 0 < s.length := List.length_pos_iff.2 hne
      have h4 := (hex_ok (n := min z s.length) (by omega)).2.2.2
      have ih := encL_len n z (s.drop (min z s.length)) hz (by rw [List.length_drop]; omega)
      rw [List.length_drop] at ih
      simp only [List.length_append, List.length_cons, List.length_take]
      omega
theorem encL_nil (n z : Nat) : encL n z [] = lastL := by cases n <;> rfl
theorem encL_step {n z : Nat} {s : List UInt8} (hn : s.length ≤ n) (hs : s ≠ []) : ∃ n', n = n' + 1 ∧ encL n z s = hexL (min z s.length) ++ 13 :: 10 :: (s.take (min z s.length) ++ 13 :: 10 :: encL n' z (s.drop (min z s.length))) := by
  have hpos : 0 < s.length := List.length_pos_iff.2 hs
  refine ⟨n - 1, by omega, ?_⟩
  obtain ⟨m, rfl⟩ : ∃ m, n = m + 1 := ⟨n - 1, by omega⟩
  rw [encL, if_neg hs]
  rfl
end Ck
theorem HasTz.below {w w' : World} (h : HasTz w) (hb : Below w.heap.size w w') : HasTz w' := by
  unfold HasTz at *
  rw [hb.cell (World.block_lt_of_cell? _ _ h)]
  exact h
set_option maxHeartbeats 2000000 in
theorem encode_any (s : ByteArray) (size : Int) (w : World) (h1 : 1 ≤ size) (h2 : size ≤ 9223372036854775807) (hs : s.size ≤ 5000) (ht : HasTz w) :
    Calls Tryz.prog 30 #[.string s, .int .i64 size] w fun e w' => e = .returned (.tuple #[.string (mkS (encL s.size size.toNat (sl s))), .int .i64 0]) ∧ Below w.heap.size w w' := by
  obtain ⟨z, hz⟩ : ∃ z : Nat, size = (z : Int) := ⟨size.toNat, by omega⟩
  subst hz
  have HTZ := Lib.hid ht
  rw [Int.toNat_natCast]
  have HEL := Lib.hid (encL_len s.size z (sl s) (by omega) (by rw [sl_len]; exact hs))
  rw [sl_len] at HEL
  obtain ⟨E, hE⟩ : ∃ E, encL s.size z (sl s) = E := ⟨_, rfl⟩
  have HE0 := Lib.hid hE
  rw [hE] at HEL ⊢
  have hd1 : decide ((z : Int) < 1) = false := decide_eq_false (by omega)
  have hd2 : decide ((5000 : Int) < (s.size : Int)) = false := decide_eq_false (by omega)
  clear ht hE
  go_enter Tryz.func30, Tryz.ntmps30
  go_wp2_with fail
  go_loopw [0] (fun v0 wr => ∃ (S : ByteArray) (l : List UInt8) (n : Nat), v0 = .string S ∧ S.size ≤ n ∧ S.size ≤ s.size ∧ Hid (l ++ encL n z (sl S) = E) ∧ Bld w.heap.size w.heap.size l wr ∧ Below w.heap.size w wr) (fun v0 _ => strLen v0)
  case atStart => exact ⟨s, [], s.size, rfl, Nat.le_refl _, Nat.le_refl _, HE0.out, bld_new _ w (Nat.le_refl _), (Below.refl _ w).alloc (Nat.le_refl _) _⟩
  case round =>
    obtain ⟨S, l, n, rfl, hSn, hSs, HEE, hbld, hbel⟩ := hrel
    have HB := Lib.hid hbld
    clear hbld
    have hll : l.length ≤ 45005 := by
      have h1 := congrArg List.length HEE.out
      have h2 := HEL.out
      rw [List.length_append] at h1
      omega
    by_cases hS0 : S.size = 0
    · have hSe : S.toList.isEmpty = true := by rw [ba_toList, empty_of_size S hS0]; rfl
      have HF : Hid (l ++ lastL = E) := by
        show _ = _
        rw [← HEE.out, empty_of_size S hS0, sl_empty, encL_nil]
      go_wp2_with fail
      refine (writeString_any w.heap.size w.heap.size l ⟨#[48, 13, 10, 13, 10]⟩ _ HB.out (by have : (⟨#[48, 13, 10, 13, 10]⟩ : ByteArray).size = 5 := rfl; omega) hbel.size).mono ?_
      rintro e w2 ⟨rfl, hb2, bel2⟩
      have HB2 := Lib.hid hb2
      clear hb2
      have hbel2 := hbel.trans bel2
      go_wp2_with fail
      refine (string_any w.heap.size w.heap.size _ _ HB2.out hbel2.size).mono ?_
      rintro e w3 ⟨rfl, b3⟩
      go_wp2_with fail
      go_ret2
      exact ⟨ret_si (by rw [← HF.out]; rfl) rfl, hbel2.trans b3⟩
    · have hSe : S.toList.isEmpty = false := isEmpty_no S (by omega)
      obtain ⟨m, hm⟩ : ∃ m, m = min z S.size := ⟨_, rfl⟩
      have hm1 : 1 ≤ m := by omega
      have hmS : m ≤ S.size := by omega
      have hmin : min (z : Int) (S.size : Int) = (m : Int) := by omega
      obtain ⟨n', hn', hst⟩ := encL_step (n := n) (z := z) (s := sl S) (by rw [sl_len]; exact hSn) (fun h => hS0 (by rw [← sl_len, h]; rfl))
      rw [sl_len, ← hm] at hst
      have HST : Hid ((l ++ (hexL m ++ ([13, 10] ++ ((sl S).take m ++ [13, 10])))) ++ encL n' z ((sl S).drop m) = E) := by
        show _ = _
        rw [← HEE.out, hst]
        simp
      have hx4 := (hex_ok (n := m) (by omega)).2.2.2
      have HFI := Lib.hid (fun wx hx => formatInt16_any m hm1 (by omega) wx hx)
      generalize hexL m = X at *
      have hXz : (mkS X).size = X.length := rfl
      have hCz : (⟨#[13, 10]⟩ : ByteArray).size = 2 := rfl
      have hTz : (S.extract 0 m).size = m := by rw [ext_size S 0 m hmS]; omega
      have hTs : sl (S.extract 0 m) = (sl S).take m := by rw [sl_extract]; simp
      have z1 : (mkS X).size + (⟨#[13, 10]⟩ : ByteArray).size ≤ 9223372036854775807 := by omega
      have z2 : (mkS X ++ (⟨#[13, 10]⟩ : ByteArray)).size + (S.extract 0 m).size ≤ 9223372036854775807 := by rw [ByteArray.size_append]; omega
      have z3 : (mkS X ++ (⟨#[13, 10]⟩ : ByteArray) ++ S.extract 0 m).size + (⟨#[13, 10]⟩ : ByteArray).size ≤ 9223372036854775807 := by rw [ByteArray.size_append, ByteArray.size_append]; omega
      have y1 : (9223372036854775807 < X.length + 2) = False := eq_false (by omega)
      have y2 : (9223372036854775807 < X.length + 2 + m) = False := eq_false (by omega)
      have y3 : (9223372036854775807 < X.length + 2 + m + 2) = False := eq_false (by omega)
      have y4 : (9223372036854775807 < X.length + 2 + min m S.size) = False := eq_false (by omega)
      have y5 : (9223372036854775807 < X.length + 2 + min m S.size + 2) = False := eq_false (by omega)
      have HL : Hid (sl (mkS X ++ (⟨#[13, 10]⟩ : ByteArray) ++ S.extract 0 m ++ (⟨#[13, 10]⟩ : ByteArray)) = X ++ ([13, 10] ++ ((sl S).take m ++ [13, 10]))) := by
        show _ = _
        rw [sl_append, sl_append, sl_append, sl_mkS, hTs]
        show X ++ [13, 10] ++ List.take m (sl S) ++ [13, 10] = _
        simp
      have hes : (mkS X ++ (⟨#[13, 10]⟩ : ByteArray) ++ S.extract 0 m ++ (⟨#[13, 10]⟩ : ByteArray)).size ≤ 5010 := by
        rw [ByteArray.size_append, ByteArray.size_append, ByteArray.size_append]; omega
      clear hst hm HEE
      go_wp2_with fail
      refine wp_region_last [(true, 0), (true, 3), (true, 4), (true, 5), (false, 1), (true, 2), (true, 6), (true, 7), (false, 8)] 8 (fun _ => True) (by kernel_rfl) (by kernel_rfl) (by kernel_rfl) (fun _ _ _ _ _ h => h) (by kernel_rfl) (by kernel_rfl) ?_ ?_
      · trivial
      iterate 4 (first | (apply seqL_skip; (focus (simp only [List.getElem?_toArray, List.getElem?_cons_succ, List.getElem?_cons_zero]; rfl)); (focus rfl); simp only [Act.put, List.setIfInBounds_toArray, List.set_cons_zero, List.set_cons_succ]) | (apply seqL_take; (focus (simp only [List.getElem?_toArray, List.getElem?_cons_succ, List.getElem?_cons_zero]; rfl)); (focus rfl); (focus (intro w' hS; skip; first | (go_simp; rfl) | (go_simp; done))); simp only [Act.put, List.setIfInBounds_toArray, List.set_cons_zero, List.set_cons_succ]))
      apply seqL_eff
      (focus (simp only [List.getElem?_toArray, List.getElem?_cons_succ, List.getElem?_cons_zero]; rfl))
      (focus rfl)
      intro K hK
      go_simp
      refine (HFI.out _ (HTZ.out.below hbel.drew)).mono ?_
      rintro e w2 ⟨rfl, b2⟩
      refine hK _ _ ⟨fun _ => trivial, ?_⟩
      clear hK K HFI
      have hbel2 := hbel.drew.trans (b2.mono hbel.size)
      have HB2 := Lib.hid (HB.out.drew.below b2)
      iterate 3 (first | (apply seqL_skip; (focus (simp only [List.getElem?_toArray, List.getElem?_cons_succ, List.getElem?_cons_zero]; rfl)); (focus rfl); simp only [Act.put, List.setIfInBounds_toArray, List.set_cons_zero, List.set_cons_succ]) | (apply seqL_take; (focus (simp only [List.getElem?_toArray, List.getElem?_cons_succ, List.getElem?_cons_zero]; rfl)); (focus rfl); (focus (intro w' hS; skip; first | (go_simp; rfl) | (go_simp; done))); simp only [Act.put, List.setIfInBounds_toArray, List.set_cons_zero, List.set_cons_succ]))
      apply seqL_eff
      (focus (simp only [List.getElem?_toArray, List.getElem?_cons_succ, List.getElem?_cons_zero]; rfl))
      (focus rfl)
      intro K hK
      go_simp
      generalize mkS X ++ (⟨#[13, 10]⟩ : ByteArray) ++ S.extract 0 m ++ (⟨#[13, 10]⟩ : ByteArray) = ln at HL hes ⊢
      refine (writeString_any w.heap.size w.heap.size l ln _ HB2.out (by omega) hbel2.size).mono ?_
      rintro e w3 ⟨rfl, hb3, bel3⟩
      refine hK _ _ ⟨fun h => absurd rfl h, ?_⟩
      clear hK K
      refine seqL_nil ?_
      have HB3 := Lib.hid hb3
      have HSX : Hid (sl (S.extract m S.size) = (sl S).drop m) := sl_extract_end S m
      clear hb3
      go_wp2_with fail
      go_roundw
      case rel => exact ⟨S.extract m S.size, l ++ sl ln, n', rfl, by rw [ext_size _ _ _ (Nat.le_refl _)]; omega, by rw [ext_size _ _ _ (Nat.le_refl _)]; omega, by show _ = _; rw [HSX.out, HL.out]; exact HST.out, HB3.out, hbel2.trans bel3⟩
      case measure => simp only [strLen]; rw [ext_size _ _ _ (Nat.le_refl _)]; omega
theorem encode_small (s : ByteArray) (size : Int) (w : World) (h1 : size < 1) :
    Calls Tryz.prog 30 #[.string s, .int .i64 size] w fun e w' => e = .returned (.tuple #[.string ByteArray.empty, .int .i64 1]) ∧ Below w.heap.size w w' := by
  have hd1 : decide (size < 1) = true := decide_eq_true h1
  go_enter Tryz.func30, Tryz.ntmps30
  go_wp2_with fail
  go_ret2
  exact ⟨rfl, Below.refl _ _⟩
theorem encode_large (s : ByteArray) (size : Int) (w : World) (h1 : 1 ≤ size) (hs : 5000 < s.size) :
    Calls Tryz.prog 30 #[.string s, .int .i64 size] w fun e w' => e = .returned (.tuple #[.string ByteArray.empty, .int .i64 2]) ∧ Below w.heap.size w w' := by
  have hd1 : decide (size < 1) = false := decide_eq_false (by omega)
  have hd2 : decide ((5000 : Int) < (s.size : Int)) = true := decide_eq_true (by omega)
  have hd2' : decide (5000 < s.size) = true := decide_eq_true hs
  go_enter Tryz.func30, Tryz.ntmps30
  go_wp2_with fail
  go_ret2
  exact ⟨rfl, Below.refl _ _⟩
end Go.Proofs.YtoalfjkbgeiggaaGreatDoor
