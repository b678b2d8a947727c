/- TargetSame: the law's walk. -/
import Derived.Test.YthocoplaehbncaaDoorTargetS
import Derived.Test.YthocoplaehbncaaDoorTargetL
import Derived.Test.YthocoplaehbncaaDoorRegion
namespace Go.Proofs.YthocoplaehbncaaDoor
set_option maxRecDepth 20000
open Go.RowKit
open Tar
namespace Tar
def signs : ByteArray := ⟨#[97, 98, 122, 65, 90, 48, 57, 45, 95, 126]⟩
def sgn (k : Nat) : UInt8 := (sl signs).getD k 0
theorem sign_at (k : Nat) (hk : k < 10) : (signs.extract k 10).extract 0 1 = ⟨#[sgn k]⟩ ∧ (signs.extract k 10).size = 10 - k := by
  have h : ∀ k : Fin 10, sl ((signs.extract k.val 10).extract 0 1) = [sgn k.val] ∧ (signs.extract k.val 10).size = 10 - k.val := by decide +kernel
  obtain ⟨h1, h2⟩ := h ⟨k, hk⟩
  exact ⟨sl_inj h1, h2⟩
theorem hex_at (d : Nat) (hd : d < 16) : (hexs.extract d 16).extract 0 1 = ⟨#[hexU d]⟩ ∧ (hexs.extract d 16).size = 16 - d := by
  have h : ∀ d : Fin 16, sl ((hexs.extract d.val 16).extract 0 1) = [hexU d.val] ∧ (hexs.extract d.val 16).size = 16 - d.val := by decide +kernel
  obtain ⟨h1, h2⟩ := h ⟨d, hd⟩
  exact ⟨sl_inj h1, h2⟩
/-- Of a sign: free; its digits, in capitals or not. -/
structure SignOk (s p q p' q' : UInt8) : Prop where
  free : freeB s = true
  good : goodB s = true ∧ goodB p = true ∧ goodB q = true ∧ goodB p' = true ∧ goodB q' = true
  dig : 0 ≤ digI p ∧ 0 ≤ digI q ∧ 0 ≤ digI p' ∧ 0 ≤ digI q'
  by1 : by16 p q = s
  by2 : by16 p' q' = s
  asc : p.toNat < 128 ∧ q.toNat < 128
theorem sign_ok (k : Nat) (hk : k < 10) : SignOk (sgn k) (hexU ((sgn k).toNat / 16)) (hexU ((sgn k).toNat % 16)) (Lib.lowerB (hexU ((sgn k).toNat / 16))) (Lib.lowerB (hexU ((sgn k).toNat % 16))) := by
  have h : ∀ k : Fin 10, let s := sgn k.val; let p := hexU (s.toNat / 16); let q := hexU (s.toNat % 16); let p' := Lib.lowerB p; let q' := Lib.lowerB q
      freeB s = true ∧ (goodB s = true ∧ goodB p = true ∧ goodB q = true ∧ goodB p' = true ∧ goodB q' = true) ∧ (0 ≤ digI p ∧ 0 ≤ digI q ∧ 0 ≤ digI p' ∧ 0 ≤ digI q') ∧ by16 p q = s ∧ by16 p' q' = s ∧ (p.toNat < 128 ∧ q.toNat < 128) := by decide +kernel
  obtain ⟨h1, h2, h3, h4, h5, h6⟩ := h ⟨k, hk⟩
  exact ⟨h1, h2, h3, h4, h5, h6⟩
theorem contains_q (a : ByteArray) : decide (0 ≤ Lib.indexByte a.data.toList 63) = decide ((63 : UInt8) ∈ sl a) := by
  rw [indexByte_nn]
  exact List.contains_eq_mem 63 (sl a)
end Tar
set_option maxHeartbeats 6400000 in
theorem targetSame_walk (a0 b0 : ByteArray) (c : Int) (w : World) (ha : a0.size ≤ 140737488351232) (hb : b0.size ≤ 140737488351232) (hc : (Lit.int .u8 c).wf = true) (hx : HasMax w) :
    Calls Tryd.prog 11 #[.string a0, .string b0, .int .u8 c] w fun e w' => e = .returned (.bool true) ∧ Below w.heap.size w w' := by
  have hcr : 0 ≤ c ∧ c ≤ 255 := by
    have h := hc
    simp [Lit.wf, IntKind.min, IntKind.max, IntKind.signed, IntKind.bits] at h
    omega
  have HN := Lib.hid (fun s w' (hb : Below w.heap.size w w') (hs : s.size ≤ 281474976710656) => normal_any s w' hs (hx.below hb).1 (hx.below hb).2)
  have HE := Lib.hid (fun w' (hb : Below w.heap.size w w') => normal_any ByteArray.empty w' (by decide) (hx.below hb).1 (hx.below hb).2)
  unfold NormAns at HE
  rw [norm_empty] at HE
  dsimp only at HE
  clear hx hc
  have e1 : (⟨#[47]⟩ : ByteArray).size = 1 := rfl
  obtain ⟨A, hA, hAs, hAl⟩ : ∃ A : ByteArray, (⟨#[47]⟩ : ByteArray) ++ a0 = A ∧ A.size = a0.size + 1 ∧ sl A = 47 :: sl a0 := ⟨_, rfl, by rw [ByteArray.size_append, e1]; omega, by rw [sl_append]; rfl⟩
  obtain ⟨B, hB, hBs, hBl⟩ : ∃ B : ByteArray, (⟨#[47]⟩ : ByteArray) ++ b0 = B ∧ B.size = b0.size + 1 ∧ sl B = 47 :: sl b0 := ⟨_, rfl, by rw [ByteArray.size_append, e1]; omega, by rw [sl_append]; rfl⟩
  obtain ⟨AB, hAB, hABs, hABl⟩ : ∃ X : ByteArray, A ++ B = X ∧ X.size = A.size + B.size ∧ sl X = sl A ++ sl B := ⟨_, rfl, ByteArray.size_append, sl_append _ _⟩
  have HAB := Lib.hid (fun w' hb => HN.out AB w' hb (by omega))
  have hAz : A.size ≤ 140737488351233 := by omega
  have hBz : B.size ≤ 140737488351233 := by omega
  have hABz : AB.size ≤ 281474976702466 := by omega
  have HSz : Hid (AB.size = A.size + B.size ∧ A.size = a0.size + 1 ∧ B.size = b0.size + 1) := ⟨hABs, hAs, hBs⟩
  have HSl : Hid (sl AB = sl A ++ sl B ∧ sl A = 47 :: sl a0 ∧ sl B = 47 :: sl b0) := ⟨hABl, hAl, hBl⟩
  unfold NormAns at HAB
  clear hABs hAs hBs hABl hAl hBl e1
  cases hn : normalF (sl AB) with
  | error x =>
    rw [hn] at HAB
    have hxc := normalF_code hn
    have hne : (x != 0) = true := by rcases hxc with rfl | rfl <;> rfl
    have hne2 : (x == 0) = false := by rcases hxc with rfl | rfl <;> rfl
    clear hn hxc HN HSz HSl
    go_enter Tryd.func11, Tryd.ntmps11
    go_wp2_with fail
    refine (HE.out _ (Below.refl _ _)).mono ?_
    rintro e w1 ⟨rfl, b1⟩
    go_wp2_with fail
    refine (HAB.out _ b1).mono ?_
    rintro e w2 ⟨rfl, b2⟩
    go_wp2_with fail
    go_ret
    exact ⟨rfl, belT b1 b2⟩
  | ok t =>
    rw [hn] at HAB
    dsimp only at HAB
    have HC := Lib.hid (fun w => Tryd.strings_Contains_one A 63 w)
    rw [contains_q] at HC
    generalize hT : mkS t = T at *
    have HTe := Lib.hid hT
    clear hT
    by_cases hq : (63 : UInt8) ∈ sl A
    · rw [decide_eq_true hq] at HC
      clear hn HN HSz HSl hq
      go_enter Tryd.func11, Tryd.ntmps11
      go_wp2_with fail
      refine (HE.out _ (Below.refl _ _)).mono ?_
      rintro e w1 ⟨rfl, b1⟩
      go_wp2_with fail
      refine (HAB.out _ b1).mono ?_
      rintro e w2 ⟨rfl, b2⟩
      go_wp2_with fail
      refine (HC.out _).mono ?_
      rintro e w' ⟨rfl, rfl⟩
      go_wp2_with fail
      go_ret
      exact ⟨rfl, belT b1 b2⟩
    · rw [decide_eq_false hq] at HC
      by_cases hl : 180 < AB.size
      · have dl : decide (180 < AB.size) = true := decide_eq_true hl
        have dl' : decide (180 < (AB.size : Int)) = true := by rw [decide_eq_true_iff]; omega
        clear hn HN HSz HSl hq
        go_enter Tryd.func11, Tryd.ntmps11
        go_wp2_with fail
        refine (HE.out _ (Below.refl _ _)).mono ?_
        rintro e w1 ⟨rfl, b1⟩
        go_wp2_with fail
        refine (HAB.out _ b1).mono ?_
        rintro e w2 ⟨rfl, b2⟩
        go_wp2_with fail
        refine (HC.out _).mono ?_
        rintro e w' ⟨rfl, rfl⟩
        go_wp2_with fail
        go_ret
        exact ⟨rfl, belT b1 b2⟩
      · have dl : decide (180 < AB.size) = false := decide_eq_false hl
        have dl' : decide (180 < (AB.size : Int)) = false := by rw [decide_eq_false_iff_not]; omega
        obtain ⟨z1, z2, z3⟩ := HSz.out
        obtain ⟨l1, l2, l3⟩ := HSl.out
        rw [l2] at hq
        have hsteps := same_steps (a := sl a0) (b := sl b0) (t := t) (by rw [← l2, ← l3, ← l1]; exact hn) hq (by rw [sl_len, sl_len]; omega)
        rw [← l2, ← l3] at hsteps
        obtain ⟨k, hk, hk10⟩ : ∃ k : Nat, c.tmod 10 = (k : Int) ∧ k < 10 := ⟨(c % 10).toNat, by rw [Int.tmod_eq_emod_of_nonneg hcr.1]; omega, by omega⟩
        obtain ⟨X, hX, hX1, hXs⟩ : ∃ X : ByteArray, signs.extract k 10 = X ∧ X.extract 0 1 = ⟨#[sgn k]⟩ ∧ X.size = 10 - k := ⟨_, rfl, (sign_at k hk10).1, (sign_at k hk10).2⟩
        have hok := sign_ok k hk10
        generalize sgn k = s at *
        have hs8 := s.toNat_lt
        obtain ⟨Y1, hY1, hY11, hY1s⟩ : ∃ Y : ByteArray, hexs.extract (s.toNat / 16) 16 = Y ∧ Y.extract 0 1 = ⟨#[hexU (s.toNat / 16)]⟩ ∧ Y.size = 16 - s.toNat / 16 := ⟨_, rfl, (hex_at _ (by omega)).1, (hex_at _ (by omega)).2⟩
        obtain ⟨Y2, hY2, hY21, hY2s⟩ : ∃ Y : ByteArray, hexs.extract (s.toNat % 16) 16 = Y ∧ Y.extract 0 1 = ⟨#[hexU (s.toNat % 16)]⟩ ∧ Y.size = 16 - s.toNat % 16 := ⟨_, rfl, (hex_at _ (by omega)).1, (hex_at _ (by omega)).2⟩
        have hand : bits BinOp.and IntKind.u8 (s.toNat : Int) 15 = ((s.toNat % 16 : Nat) : Int) := by
          have := u8_and_nat s.toNat 15 hs8 (by omega)
          rw [show ((15 : Nat) : Int) = 15 from rfl] at this
          rw [this, show (15 : Nat) = 2 ^ 4 - 1 from rfl, Nat.and_two_pow_sub_one_eq_mod]
        have i1 : 0 ≤ (s.toNat : Int) / 16 := by omega
        have i2 : (s.toNat : Int) / 16 ≤ 16 := by omega
        have i3 : ((s.toNat : Int) / 16).toNat = s.toNat / 16 := by omega
        have j1 : 0 ≤ (s.toNat : Int) % 16 := by omega
        have j2 : (s.toNat : Int) % 16 ≤ 16 := by omega
        have j3 : ((s.toNat : Int) % 16).toNat = s.toNat % 16 := by omega
        have y1 : 1 ≤ Y1.size := by omega
        have y2 : 1 ≤ Y2.size := by omega
        have y1' : (1 : Int) ≤ (Y1.size : Int) := by omega
        have y2' : (1 : Int) ≤ (Y2.size : Int) := by omega
        clear hY1s hY2s
        generalize hpp : hexU (s.toNat / 16) = p at *
        generalize hqq : hexU (s.toNat % 16) = q at *
        unfold signs at hX
        unfold hexs at hY1 hY2
        have HY := Lib.hid (fun w' hb => HN.out (A ++ ⟨#[47, 120, 47, 46, 46]⟩ ++ B) w' hb (by rw [ByteArray.size_append, ByteArray.size_append, show (⟨#[47, 120, 47, 46, 46]⟩ : ByteArray).size = 5 from rfl]; omega))
        have HZ := Lib.hid (fun w' hb => HN.out (A ++ ⟨#[47, 46]⟩ ++ B) w' hb (by rw [ByteArray.size_append, ByteArray.size_append, show (⟨#[47, 46]⟩ : ByteArray).size = 2 from rfl]; omega))
        unfold NormAns at HY HZ
        rw [sl_append, sl_append, show sl ⟨#[47, 120, 47, 46, 46]⟩ = [47, 120, 47, 46, 46] from rfl, hsteps.1] at HY
        rw [sl_append, sl_append, show sl ⟨#[47, 46]⟩ = [47, 46] from rfl, hsteps.2] at HZ
        dsimp only at HY HZ
        rw [HTe.out] at HY HZ
        obtain ⟨u, hu1, hu2⟩ := same_sign hn (by rw [sl_len]; omega) s p q hok.free hok.dig.1 hok.dig.2.1 hok.by1 hok.good.1 hok.good.2.1 hok.good.2.2.1
        obtain ⟨u', hu3, hu4⟩ := same_sign hn (by rw [sl_len]; omega) s (Lib.lowerB p) (Lib.lowerB q) hok.free hok.dig.2.2.1 hok.dig.2.2.2 hok.by2 hok.good.1 hok.good.2.2.2.1 hok.good.2.2.2.2
        obtain rfl : u = u' := by rw [hu1] at hu3; injection hu3
        have HS1 := Lib.hid (fun w' hb => HN.out (AB ++ ⟨#[s]⟩) w' hb (by rw [ByteArray.size_append, show (⟨#[s]⟩ : ByteArray).size = 1 from rfl]; omega))
        have HS2 := Lib.hid (fun w' hb => HN.out (AB ++ (⟨#[37]⟩ ++ ⟨#[p]⟩ ++ ⟨#[q]⟩)) w' hb (by rw [ByteArray.size_append, show ((⟨#[37]⟩ : ByteArray) ++ ⟨#[p]⟩ ++ ⟨#[q]⟩).size = 3 from rfl]; omega))
        have HS3 := Lib.hid (fun w' hb => HN.out (AB ++ mkS [37, Lib.lowerB p, Lib.lowerB q]) w' hb (by rw [ByteArray.size_append, mkS_size]; simp; omega))
        unfold NormAns at HS1 HS2 HS3
        rw [sl_append, show sl ⟨#[s]⟩ = [s] from rfl, hu1] at HS1
        rw [sl_append, show sl ((⟨#[37]⟩ : ByteArray) ++ ⟨#[p]⟩ ++ ⟨#[q]⟩) = [37, p, q] from rfl, hu2] at HS2
        rw [sl_append, sl_mkS, hu4] at HS3
        dsimp only at HS1 HS2 HS3
        have HEs := Lib.hid (fun w => targetEscape_any ⟨#[33]⟩ w (by decide))
        unfold EscAns at HEs
        rw [show Tar.escs (sl ⟨#[33]⟩) = [37, 50, 49] from by kernel_rfl] at HEs
        simp only [List.length_cons, List.length_nil] at HEs
        rw [show mkS [37, 50, 49] = (⟨#[37, 50, 49]⟩ : ByteArray) from rfl] at HEs
        have HLo : Hid (∀ w, Calls Tryd.prog 34 #[.string ((⟨#[37]⟩ : ByteArray) ++ ⟨#[p]⟩ ++ ⟨#[q]⟩)] w fun e w' => e = .returned (.string (mkS [37, Lib.lowerB p, Lib.lowerB q])) ∧ Below w.heap.size w w') := fun w => Tryd.strings_ToLower_ascii _ w (by show 3 ≤ _; decide) (fun j b hb => by
          have hm : b ∈ ([37, p, q] : List UInt8) := List.mem_of_getElem? hb
          simp only [List.mem_cons, List.not_mem_nil, or_false] at hm
          rcases hm with rfl | rfl | rfl
          · decide
          · exact hok.asc.1
          · exact hok.asc.2)
        have hABs : AB.size ≤ 180 := by omega
        clear hu1 hu2 hu3 hu4 hok HTe HN HSz HSl hn hsteps hq hl l1 l2 l3 hpp hqq
        generalize mkS u = Un at *
        generalize hA1 : A ++ ⟨#[47, 120, 47, 46, 46]⟩ = A1 at *
        generalize hA2 : A1 ++ B = A2 at *
        generalize hA3 : A ++ ⟨#[47, 46]⟩ = A3 at *
        generalize hA4 : A3 ++ B = A4 at *
        have za1 : A1.size ≤ 200 := by rw [← hA1, ByteArray.size_append, show (⟨#[47, 120, 47, 46, 46]⟩ : ByteArray).size = 5 from rfl]; omega
        have za2 : A2.size ≤ 400 := by rw [← hA2, ByteArray.size_append]; omega
        have za3 : A3.size ≤ 200 := by rw [← hA3, ByteArray.size_append, show (⟨#[47, 46]⟩ : ByteArray).size = 2 from rfl]; omega
        have za4 : A4.size ≤ 400 := by rw [← hA4, ByteArray.size_append]; omega
        generalize hS : (⟨#[s]⟩ : ByteArray) = S at *
        have hSs : S.size = 1 := by rw [← hS]; rfl
        have hS0 : ∀ h, S[0]'h = s := by subst hS; exact fun _ => rfl
        clear hS
        generalize hP : (⟨#[p]⟩ : ByteArray) = P at *
        generalize hQ : (⟨#[q]⟩ : ByteArray) = Q at *
        have hPs : P.size = 1 := by rw [← hP]; rfl
        have hQs : Q.size = 1 := by rw [← hQ]; rfl
        clear hP hQ
        generalize hU1 : (⟨#[37]⟩ : ByteArray) ++ P = U1 at *
        generalize hU2 : U1 ++ Q = U2 at *
        have hU1s : U1.size = 2 := by rw [← hU1, ByteArray.size_append, hPs]; rfl
        have hU2s : U2.size = 3 := by rw [← hU2, ByteArray.size_append, hU1s, hQs]
        generalize hLW : mkS [37, Lib.lowerB p, Lib.lowerB q] = LW at *
        have hLWs : LW.size = 3 := by rw [← hLW]; rfl
        clear hLW
        go_enter Tryd.func11, Tryd.ntmps11
        go_wp2_with fail
        refine (HE.out _ (Below.refl _ _)).mono ?_
        rintro e w1 ⟨rfl, b1⟩
        go_wp2_with fail
        refine (HAB.out _ b1).mono ?_
        rintro e w2 ⟨rfl, b2⟩
        have B2 := belT b1 b2
        go_wp2_with fail
        refine (HC.out _).mono ?_
        rintro e w' ⟨rfl, rfl⟩
        go_wp2_with fail
        refine (HY.out _ B2).mono ?_
        rintro e w3 ⟨rfl, b3⟩
        have B3 := belT B2 b3
        go_wp2_with fail
        refine (HZ.out _ B3).mono ?_
        rintro e w4 ⟨rfl, b4⟩
        have B4 := belT B3 b4
        clear HE HAB HC HY HZ b1 b2 b3 b4 B2 B3
        go_wp2_with fail
        refine (HS1.out _ B4).mono ?_
        rintro e w5 ⟨rfl, b5⟩
        have B5 := belT B4 b5
        go_wp2_with fail
        refine (HEs.out _).mono ?_
        rintro e w6 ⟨hes, b6⟩
        rw [if_neg (by decide)] at hes
        subst hes
        have B6 := belT B5 b6
        clear HS1 HEs b5 b6 B4 B5
        go_wp2_with fail
        refine wp_region_seq [(true, 0), (true, 1), (true, 2), (true, 3), (true, 4), (true, 5), (true, 6), (true, 7), (true, 8), (true, 9), (true, 10), (true, 11), (true, 12)] (fun w' => Below w6.heap.size w6 w') (by kernel_rfl) (by kernel_rfl) (fun _ _ _ _ _ h => h) (by kernel_rfl) (by kernel_rfl) (by first | exact (Below.refl _ _).drew | exact Below.drew (by assumption)) ?_
        have bS : Below w6.heap.size w6 _ := (by first | exact Below.drew (by assumption) | exact (Below.refl _ w6).drew)
        iterate 13 (first
          | (apply seqH_skip; (focus (simp only [List.getElem?_toArray, List.getElem?_cons_succ, List.getElem?_cons_zero]; rfl)); (focus rfl); simp only [Act.put, List.setIfInBounds_toArray, List.set_cons_zero, List.set_cons_succ])
          | (apply seqH_take; (focus (simp only [List.getElem?_toArray, List.getElem?_cons_succ, List.getElem?_cons_zero]; rfl)); (focus rfl); (focus (intro w' hS; skip; first | (go_simp; rfl) | (go_simp; done))); simp only [Act.put, List.setIfInBounds_toArray, List.set_cons_zero, List.set_cons_succ])
          | (apply seqH_pass; (focus (simp only [List.getElem?_toArray, List.getElem?_cons_succ, List.getElem?_cons_zero]; rfl)); (focus rfl); (focus assumption); simp only [Act.put, List.setIfInBounds_toArray, List.set_cons_zero, List.set_cons_succ])
          | (apply seqH_eff; (focus (simp only [List.getElem?_toArray, List.getElem?_cons_succ, List.getElem?_cons_zero]; rfl)); (focus rfl); intro K hK; go_simp; fail; rintro e wN ⟨rfl, bN⟩; refine hK _ _ (seq_next (by assumption) bN (fun bS' => ?_)); clear hK K))
        refine seqH_nil ?_
        have B7 := belT B6 bS
        go_wp2_with fail
        refine (HS2.out _ B7).mono ?_
        rintro e w8 ⟨rfl, b8⟩
        have B8 := belT B7 b8
        go_wp2_with fail
        refine (HLo.out _).mono ?_
        rintro e w9 ⟨rfl, b9⟩
        have B9 := belT B8 b9
        go_wp2_with fail
        refine (HS3.out _ B9).mono ?_
        rintro e w10 ⟨rfl, b10⟩
        have B10 := belT B9 b10
        clear HS2 HS3 HLo b8 b9 b10 B6 B7 B8 B9
        go_wp2_with fail
        go_ret
        exact ⟨rfl, B10⟩
end Go.Proofs.YthocoplaehbncaaDoor
