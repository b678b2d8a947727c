/- digest: Sum of a text; Hex. -/
import Derived.Test.YtnobcehiahcfkaaDigM
namespace Go.Proofs.Ytnobcehiahcfkaa
set_option maxRecDepth 20000
open Go.RowKit
/-- A text's digest. -/
def digB (l : List UInt8) : List UInt8 := finB (absorb H0L 0 l).1 (absorb H0L 0 l).2.1 (absorb H0L 0 l).2.2
theorem finB_len (H : List Int) (m : Nat) (r : List UInt8) : (finB H m r).length = 32 := by
  rw [finB, le4_len, blockF_len]
theorem digB_len (l : List UInt8) : (digB l).length = 32 := finB_len ..
set_option maxHeartbeats 1000000 in
theorem digest_any (s : ByteArray) (w : World) (hs : s.size ≤ 140737488355200) :
    Calls Try.prog 32 #[.string s] w fun e w' => e = .returned (.string (mkS (digB (sl s)))) ∧ Below w.heap.size w w' := by
  have HD : Hid (digB (sl s) = finB (absorb H0L 0 ([] ++ sl s)).1 (absorb H0L 0 ([] ++ sl s)).2.1 (absorb H0L 0 ([] ++ sl s)).2.2) := rfl
  have HO := Lib.hid (absorb_ok ([] ++ sl s).length H0L 0 ([] ++ sl s) (Nat.le_refl _) rfl)
  have HL : Hid (([] ++ sl s).length = s.size) := by show _ = _; rw [List.nil_append, sl_len]
  go_enter Try.func32, Try.ntmps32
  go_wp2_with fail
  refine (newH_any _).mono ?_
  rintro e w1 ⟨p, rfl, hp, hh1, b1⟩
  go_wp2_with fail
  refine (writeH_any _ p 0 H0L [] s w1 hh1 hp (by simp) (by simp; omega)).mono ?_
  rintro e w2 ⟨rfl, hh2, b2⟩
  go_wp2_with fail
  refine (sumH_any _ p _ _ _ w2 hh2 HO.out.2.1 (by have := HO.out.2.2; have := HL.out; omega)).mono ?_
  rintro e w3 ⟨rfl, b3⟩
  have HB := Lib.hid ((b1.trans b2).trans (b3.mono (Nat.le_trans b1.size b2.size)))
  rw [← HD.out]
  go_wp2_with fail
  go_ret
  exact ⟨rfl, HB.out⟩
def hexDig : List UInt8 := [48, 49, 50, 51, 52, 53, 54, 55, 56, 57, 97, 98, 99, 100, 101, 102]
/-- The sign of a number below 16. -/
def hx (n : Nat) : UInt8 := hexDig.getD n 0
def hexC (c : UInt8) : List UInt8 := [hx (c.toNat / 16), hx (c.toNat % 16)]
theorem hx_ix (n : Nat) (h : n < 16) (w : World) : (Instr.index 9 (.string { data := #[48, 49, 50, 51, 52, 53, 54, 55, 56, 57, 97, 98, 99, 100, 101, 102] }) (.int .u8 (n : Int))).run Try.prog w = .ok (bv (hx n)) w := by
  have hc : n = 0 ∨ n = 1 ∨ n = 2 ∨ n = 3 ∨ n = 4 ∨ n = 5 ∨ n = 6 ∨ n = 7 ∨ n = 8 ∨ n = 9 ∨ n = 10 ∨ n = 11 ∨ n = 12 ∨ n = 13 ∨ n = 14 ∨ n = 15 := by omega
  rcases hc with rfl | rfl | rfl | rfl | rfl | rfl | rfl | rfl | rfl | rfl | rfl | rfl | rfl | rfl | rfl | rfl <;> (show _ = _; kernel_rfl)
theorem hexC_len (l : List UInt8) : (l.flatMap hexC).length = 2 * l.length := by
  induction l with
  | nil => rfl
  | cons x X ih => rw [List.flatMap_cons, List.length_append, ih, List.length_cons]; simp [hexC]; omega
set_option maxHeartbeats 2000000 in
theorem hex_any (s : ByteArray) (w : World) (hs : s.size ≤ 70368744177664) :
    Calls Try.prog 31 #[.string s] w fun e w' => e = .returned (.string (mkS ((sl s).flatMap hexC))) ∧ Below w.heap.size w w' := by
  go_enter Try.func31, Try.ntmps31
  go_wp2_with fail
  go_loopw [3, 7] (fun o iv wr => ∃ i : Nat, iv = .int .i64 (i : Int) ∧ i ≤ s.size ∧ Owns wr w.heap.size 5 1 eb o (((sl s).take i).flatMap hexC) ∧ Below w.heap.size w wr) (fun _ iv _ => s.size - (intOf iv).toNat)
  case atStart => exact ⟨0, rfl, by omega, Owns.nil .., Below.refl _ _⟩
  case round =>
    obtain ⟨i, rfl, hi, hO, hbe⟩ := hrel
    by_cases hlt : i < s.size
    · have HT : Hid (((sl s).take (i + 1)).flatMap hexC = ((sl s).take i).flatMap hexC ++ hexC s[i]) := by
        show _ = _
        rw [take_succ_of (sl_getElem? s i hlt), List.flatMap_append, List.flatMap_singleton]
      have HL : Hid ((((sl s).take i).flatMap hexC).length = 2 * i) := by show _ = _; rw [hexC_len, List.length_take, sl_len]; omega
      have h0 : ∀ w : World, (Instr.index 9 (.string { data := #[48, 49, 50, 51, 52, 53, 54, 55, 56, 57, 97, 98, 99, 100, 101, 102] }) (.int .u8 ((s[i].toNat : Int) / 16))).run Try.prog w = .ok (.int .u8 ((hx (s[i].toNat / 16)).toNat : Int)) w := hx_ix (s[i].toNat / 16) (by have := s[i].toNat_lt; omega)
      have h1 : ∀ w : World, (Instr.index 9 (.string { data := #[48, 49, 50, 51, 52, 53, 54, 55, 56, 57, 97, 98, 99, 100, 101, 102] }) (.int .u8 ((s[i].toNat : Int) % 16))).run Try.prog w = .ok (.int .u8 ((hx (s[i].toNat % 16)).toNat : Int)) w := hx_ix (s[i].toNat % 16) (by omega)
      have h2 : bits .and .u8 (s[i].toNat : Int) 15 = (s[i].toNat : Int) % 16 := by
        have : ∀ n : Fin 256, bits .and .u8 ((n.val : Nat) : Int) 15 = ((n.val : Nat) : Int) % 16 := by decide +kernel
        exact this ⟨s[i].toNat, s[i].toNat_lt⟩
      have hli : (i : Int) < (s.size : Int) := by omega
      have HO := Lib.hid hO
      clear hO
      generalize ((sl s).take i).flatMap hexC = L at *
      go_wp2_with fail
      refine wp_region_seq [(true, 0), (true, 1), (true, 2), (true, 3), (true, 4), (true, 5), (true, 6), (true, 7), (true, 8), (true, 9), (true, 10), (false, 11), (false, 12), (true, 13)] (fun w' => Below w.heap.size w w') (by kernel_rfl) (by kernel_rfl) (fun _ _ _ _ _ h => h) (by kernel_rfl) (by kernel_rfl) (by first | exact (Below.refl _ _).drew | exact Below.drew (by assumption)) ?_
      have bS : Below w.heap.size w _ := (by first | exact Below.drew (by assumption) | exact (Below.refl _ w).drew)
      iterate 11 (first | (apply seqH_skip; (focus (simp only [List.getElem?_toArray, List.getElem?_cons_succ, List.getElem?_cons_zero]; rfl)); (focus rfl); simp only [Act.put, List.setIfInBounds_toArray, List.set_cons_zero, List.set_cons_succ]) | (apply seqH_take; (focus (simp only [List.getElem?_toArray, List.getElem?_cons_succ, List.getElem?_cons_zero]; rfl)); (focus rfl); (focus (intro w' hS; skip; first | (go_simp; rfl) | (go_simp; done))); simp only [Act.put, List.setIfInBounds_toArray, List.set_cons_zero, List.set_cons_succ]) | (apply seqH_pass; (focus (simp only [List.getElem?_toArray, List.getElem?_cons_succ, List.getElem?_cons_zero]; rfl)); (focus rfl); (focus assumption); simp only [Act.put, List.setIfInBounds_toArray, List.set_cons_zero, List.set_cons_succ]))
      apply seqH_eff
      (focus (simp only [List.getElem?_toArray, List.getElem?_cons_succ, List.getElem?_cons_zero]; rfl))
      (focus rfl)
      intro K hK
      go_simp
      have sB := hbe.drew.alloc (by have := hbe.size; show w.heap.size ≤ wr.heap.size; omega) (.cells #[.int .u8 ((hx (s[i].toNat / 16)).toNat : Int), .int .u8 ((hx (s[i].toNat % 16)).toNat : Int)] 5)
      have HOB := Lib.hid (HO.out.drew.alloc (.cells #[.int .u8 ((hx (s[i].toNat / 16)).toNat : Int), .int .u8 ((hx (s[i].toNat % 16)).toNat : Int)] 5))
      have HNA : Hid (SlR (wr.drew.alloc (.cells #[.int .u8 ((hx (s[i].toNat / 16)).toNat : Int), .int .u8 ((hx (s[i].toNat % 16)).toNat : Int)] 5)) eb (.slice (some ⟨wr.heap.size, 0, none⟩) 2 2) (hexC s[i])) := SlR.lit (enc := eb) wr.drew [bv (hx (s[i].toNat / 16)), bv (hx (s[i].toNat % 16))] 5 (hexC s[i]) rfl
      refine hK _ _ ⟨sB, ?_⟩
      clear hK K
      apply seqH_eff
      (focus (simp only [List.getElem?_toArray, List.getElem?_cons_succ, List.getElem?_cons_zero]; rfl))
      (focus rfl)
      intro K hK
      refine wp_append_owns (.tmp 10) (.tmp 21) _ rfl w.heap.size 5 (.int .u8 0) 1 1 eb Try.underlying78 byteInfo rfl (by decide) (fun _ => rfl) _ L rfl HOB.out _ (hexC s[i]) rfl HNA.out (eb_one _) (by have := HL.out; have : (hexC s[i]).length = 2 := rfl; simp only [maxLen]; omega) (by have := HL.out; have : (hexC s[i]).length = 2 := rfl; omega) (by have := hbe.size; simp; omega) ?_
      intro v3 w3 hown3 hg3
      have sC := sB.grown hg3 sB.size (fun k hk => (HOB.out.lt k hk).1)
      have HO3 := Lib.hid hown3
      clear hown3 hg3
      refine hK _ _ ⟨sC, ?_⟩
      clear hK K sB
      iterate 1 (first | (apply seqH_skip; (focus (simp only [List.getElem?_toArray, List.getElem?_cons_succ, List.getElem?_cons_zero]; rfl)); (focus rfl); simp only [Act.put, List.setIfInBounds_toArray, List.set_cons_zero, List.set_cons_succ]) | (apply seqH_take; (focus (simp only [List.getElem?_toArray, List.getElem?_cons_succ, List.getElem?_cons_zero]; rfl)); (focus rfl); (focus (intro w' hS; skip; first | (go_simp; rfl) | (go_simp; done))); simp only [Act.put, List.setIfInBounds_toArray, List.set_cons_zero, List.set_cons_succ]) | (apply seqH_pass; (focus (simp only [List.getElem?_toArray, List.getElem?_cons_succ, List.getElem?_cons_zero]; rfl)); (focus rfl); (focus assumption); simp only [Act.put, List.setIfInBounds_toArray, List.set_cons_zero, List.set_cons_succ]))
      refine seqH_nil ?_
      go_wp2_with fail
      go_roundw
      case rel => exact ⟨i + 1, by go_num, hlt, by rw [HT.out]; exact HO3.out, sC⟩
      case measure => simp [intOf]; omega
    · obtain rfl : i = s.size := by omega
      rw [List.take_of_length_le (by rw [sl_len]; omega)] at hO
      have hcv := conv_own hO
      clear hO
      go_wp2_with fail
      go_ret
      exact ⟨rfl, hbe⟩
end Go.Proofs.Ytnobcehiahcfkaa
