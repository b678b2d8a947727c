/- DateKnown and DateWeek: the laws' walks. -/
import Derived.Test.YtopmpkgopaenbaaDoorDatV
import Derived.Test.YtopmpkgopaenbaaDoorRest
namespace Go.Proofs.YtopmpkgopaenbaaDoor
set_option maxRecDepth 20000
open Go.RowKit
theorem known1 : Dt.printD 784111777 = [83, 117, 110, 44, 32, 48, 54, 32, 78, 111, 118, 32, 49, 57, 57, 52, 32, 48, 56, 58, 52, 57, 58, 51, 55, 32, 71, 77, 84] := by decide +kernel
theorem knownS1 : mkS (Dt.printD 784111777) = ⟨#[83, 117, 110, 44, 32, 48, 54, 32, 78, 111, 118, 32, 49, 57, 57, 52, 32, 48, 56, 58, 52, 57, 58, 51, 55, 32, 71, 77, 84]⟩ := by rw [known1]; rfl
theorem known2 : Dt.printD 951782400 = [84, 117, 101, 44, 32, 50, 57, 32, 70, 101, 98, 32, 50, 48, 48, 48, 32, 48, 48, 58, 48, 48, 58, 48, 48, 32, 71, 77, 84] := by decide +kernel
theorem knownS2 : mkS (Dt.printD 951782400) = ⟨#[84, 117, 101, 44, 32, 50, 57, 32, 70, 101, 98, 32, 50, 48, 48, 48, 32, 48, 48, 58, 48, 48, 58, 48, 48, 32, 71, 77, 84]⟩ := by rw [known2]; rfl
theorem known3 : Dt.printD 0 = [84, 104, 117, 44, 32, 48, 49, 32, 74, 97, 110, 32, 49, 57, 55, 48, 32, 48, 48, 58, 48, 48, 58, 48, 48, 32, 71, 77, 84] := by decide +kernel
theorem knownS3 : mkS (Dt.printD 0) = ⟨#[84, 104, 117, 44, 32, 48, 49, 32, 74, 97, 110, 32, 49, 57, 55, 48, 32, 48, 48, 58, 48, 48, 58, 48, 48, 32, 71, 77, 84]⟩ := by rw [known3]; rfl
theorem dateKnown_walk (w : World) (hp : HasP10 w) :
    Calls Tryd.prog 4 #[] w fun e w' => e = .returned (.bool true) ∧ Below w.heap.size w w' := by
  have H1 := Lib.hid (datePrint_ok 784111777 w (by decide) hp)
  have H2 := Lib.hid (fun w hp => datePrint_ok 951782400 w (by decide) hp)
  have H3 := Lib.hid (fun w hp => datePrint_ok 0 w (by decide) hp)
  rw [knownS1] at H1
  rw [knownS2] at H2
  rw [knownS3] at H3
  go_enter Tryd.func4, Tryd.ntmps4
  go_wp2_with fail
  refine H1.out.mono ?_
  rintro e w1 ⟨rfl, b1⟩
  go_wp2_with fail
  refine (H2.out _ (hp.below rfl b1)).mono ?_
  rintro e w2 ⟨rfl, b2⟩
  go_wp2_with fail
  refine (H3.out _ ((hp.below rfl b1).below rfl b2)).mono ?_
  rintro e w3 ⟨rfl, b3⟩
  go_wp2_with fail
  go_ret
  exact ⟨rfl, belT (belT b1 b2) b3⟩
theorem printD_len (n : Nat) (h : n ≤ 253402300799) : (Dt.printD n).length = 29 := by
  unfold Dt.printD
  have hv := (Cal.civ_ok ((n / 86400 : Nat) : Int) (by omega) (by omega)).1
  rw [Cal.vld_iff] at hv
  generalize Cal.mdays (Cal.cy ((n / 86400 : Nat) : Int)) (Cal.cm ((n / 86400 : Nat) : Int)) = mx at *
  generalize Cal.cy ((n / 86400 : Nat) : Int) = cy at *
  generalize Cal.cm ((n / 86400 : Nat) : Int) = cm at *
  generalize Cal.cd ((n / 86400 : Nat) : Int) = cd at *
  exact Dt.textD_len _ _ _ _ _ (by omega) (by omega)
/-- A week on. -/
theorem printD_week (n : Nat) (h : n + 604800 ≤ 253402300799) : (Dt.printD n).take 3 = (Dt.printD (n + 604800)).take 3 ∧ (Dt.printD n).drop 17 = (Dt.printD (n + 604800)).drop 17 := by
  have hm : ∀ k : Nat, k ≤ 253402300799 → (Dt.mo (Cal.cm ((k / 86400 : Nat) : Int)).toNat).length = 3 := by
    intro k hk
    have hv := (Cal.civ_ok ((k / 86400 : Nat) : Int) (by omega) (by omega)).1
    rw [Cal.vld_iff] at hv
    generalize Cal.mdays (Cal.cy ((k / 86400 : Nat) : Int)) (Cal.cm ((k / 86400 : Nat) : Int)) = mx at *
    generalize Cal.cy ((k / 86400 : Nat) : Int) = cy at *
    generalize Cal.cm ((k / 86400 : Nat) : Int) = cm at *
    exact Dt.mo_len _ (by omega)
  have key : ∀ (k d m y s : Nat), k < 7 → (Dt.mo m).length = 3 → (Dt.textD k d m y s).take 3 = Dt.wd k ∧ (Dt.textD k d m y s).drop 17 = Dt.d2 (s / 3600) ++ ([58] ++ (Dt.d2 (s / 60 % 60) ++ ([58] ++ (Dt.d2 (s % 60) ++ [32, 71, 77, 84])))) := by
    intro k d m y s hk hm
    have hw := Dt.wd_len k hk
    unfold Dt.textD
    constructor
    · rw [List.take_append_of_le_length (by omega), List.take_of_length_le (by omega)]
    · have e : ∀ (a b : List UInt8) (j : Nat), (a ++ b).drop (a.length + j) = b.drop j := fun a b j => by rw [List.drop_append, List.drop_of_length_le (by omega), Nat.add_sub_cancel_left, List.nil_append]
      have e1 := e (Dt.wd k) ([44, 32] ++ (Dt.d2 d ++ ([32] ++ (Dt.mo m ++ ([32] ++ (Dt.d4 y ++ ([32] ++ (Dt.d2 (s / 3600) ++ ([58] ++ (Dt.d2 (s / 60 % 60) ++ ([58] ++ (Dt.d2 (s % 60) ++ [32, 71, 77, 84])))))))))))) 14
      rw [hw] at e1
      rw [e1]
      have e2 := e (Dt.mo m) ([32] ++ (Dt.d4 y ++ ([32] ++ (Dt.d2 (s / 3600) ++ ([58] ++ (Dt.d2 (s / 60 % 60) ++ ([58] ++ (Dt.d2 (s % 60) ++ [32, 71, 77, 84])))))))) 6
      rw [hm] at e2
      show (Dt.mo m ++ _).drop 9 = _
      rw [e2]
      rfl
  have q1 := key (n / 86400 % 7) (Cal.cd ((n / 86400 : Nat) : Int)).toNat (Cal.cm ((n / 86400 : Nat) : Int)).toNat (Cal.cy ((n / 86400 : Nat) : Int)).toNat (n % 86400) (by omega) (hm n (by omega))
  have q2 := key ((n + 604800) / 86400 % 7) (Cal.cd (((n + 604800) / 86400 : Nat) : Int)).toNat (Cal.cm (((n + 604800) / 86400 : Nat) : Int)).toNat (Cal.cy (((n + 604800) / 86400 : Nat) : Int)).toNat ((n + 604800) % 86400) (by omega) (hm (n + 604800) h)
  have r1 : (n + 604800) / 86400 % 7 = n / 86400 % 7 := by omega
  have r2 : (n + 604800) % 86400 = n % 86400 := by omega
  unfold Dt.printD
  rw [q1.1, q1.2, q2.1, q2.2, r1, r2]
  exact ⟨rfl, rfl⟩
set_option maxHeartbeats 1600000 in
theorem dateWeek_core (n : Int) (w : World) (hn : Wide n) (hp : HasP10 w) :
    Calls Tryd.prog 3 #[.int .i64 n] w fun e w' => e = .returned (.bool true) ∧ Below w.heap.size w w' := by
  have h0 := Int.emod_nonneg n (b := 253401696000) (by omega)
  have h1 := Int.emod_lt_of_pos n (b := 253401696000) (by omega)
  have HR := Lib.hid (rest_any n 253401696000 · hn (by omega))
  obtain ⟨k, hk⟩ : ∃ k : Nat, n % 253401696000 = (k : Int) := ⟨(n % 253401696000).toNat, by omega⟩
  rw [hk] at HR h1
  have hk2 : k + 604800 ≤ 253402300799 := by omega
  have H1 := Lib.hid (fun w hp => datePrint_ok k w (by omega) hp)
  have H2 := Lib.hid (fun w hp => datePrint_ok (k + 604800) w hk2 hp)
  obtain ⟨w1, w2⟩ := printD_week k hk2
  have l1 := printD_len k (by omega)
  have l2 := printD_len (k + 604800) hk2
  have s1 : (mkS (Dt.printD k)).size = 29 := by rw [mkS_size, l1]
  have s2 : (mkS (Dt.printD (k + 604800))).size = 29 := by rw [mkS_size, l2]
  have x1 : (mkS (Dt.printD k)).extract 0 3 = (mkS (Dt.printD (k + 604800))).extract 0 3 := sl_inj (by rw [sl_extract, sl_extract, sl_mkS, sl_mkS]; exact w1)
  have x2 : (mkS (Dt.printD k)).extract 17 29 = (mkS (Dt.printD (k + 604800))).extract 17 29 := sl_inj (by rw [sl_extract, sl_extract, sl_mkS, sl_mkS, w2])
  generalize mkS (Dt.printD k) = P at *
  generalize mkS (Dt.printD (k + 604800)) = Q at *
  obtain ⟨A, hA⟩ : ∃ A, Q.extract 0 3 = A := ⟨_, rfl⟩
  obtain ⟨B, hB⟩ : ∃ B, Q.extract 17 29 = B := ⟨_, rfl⟩
  rw [hA] at x1
  rw [hB] at x2
  obtain ⟨k2, hc⟩ : ∃ k2 : Nat, k + 604800 = k2 := ⟨_, rfl⟩
  rw [hc] at H2
  have hc2 : (k : Int) + 604800 = (k2 : Int) := by omega
  have HP := Lib.hid hp
  clear h0 hk w1 w2 l1 l2 hp hc
  go_enter Tryd.func3, Tryd.ntmps3
  go_wp2_with fail
  refine (HR.out _).mono ?_
  rintro e w' ⟨rfl, rfl⟩
  go_wp2_with fail
  refine (H1.out _ HP.out).mono ?_
  rintro e w3 ⟨rfl, b1⟩
  go_wp2_with fail
  refine (H2.out w3 (HP.out.below rfl b1)).mono ?_
  rintro e w4 ⟨rfl, b2⟩
  go_wp2_with fail
  refine wp_region_seq [(true, 0), (true, 1), (true, 2), (true, 3), (true, 4), (true, 5), (true, 6), (true, 7), (true, 8), (true, 9), (true, 10), (true, 11), (true, 12), (true, 13), (true, 14), (true, 15), (true, 16), (true, 17), (true, 18), (true, 19), (true, 20), (true, 21), (true, 22), (true, 23), (true, 24), (true, 25), (true, 26), (true, 27), (true, 28), (true, 29), (true, 30)] (fun w' => Below w4.heap.size w4 w') (by kernel_rfl) (by kernel_rfl) (fun _ _ _ _ _ h => h) (by kernel_rfl) (by kernel_rfl) (by first | exact (Below.refl _ _).drew | exact Below.drew (by assumption)) ?_
  have bS : Below w4.heap.size w4 _ := (by first | exact (Below.refl _ w4).drew | exact Below.drew (by assumption))
  iterate 31 (first
    | (apply seqH_skip; (focus (simp only [List.getElem?_toArray, List.getElem?_cons_succ, List.getElem?_cons_zero]; rfl)); (focus rfl); simp only [Act.put, List.setIfInBounds_toArray, List.set_cons_zero, List.set_cons_succ])
    | (apply seqH_take; (focus (simp only [List.getElem?_toArray, List.getElem?_cons_succ, List.getElem?_cons_zero]; rfl)); (focus rfl); (focus (intro w' hS; skip; first | (go_simp; rfl) | (go_simp; done))); simp only [Act.put, List.setIfInBounds_toArray, List.set_cons_zero, List.set_cons_succ])
    | (apply seqH_pass; (focus (simp only [List.getElem?_toArray, List.getElem?_cons_succ, List.getElem?_cons_zero]; rfl)); (focus rfl); (focus assumption); simp only [Act.put, List.setIfInBounds_toArray, List.set_cons_zero, List.set_cons_succ])
    | (apply seqH_eff; (focus (simp only [List.getElem?_toArray, List.getElem?_cons_succ, List.getElem?_cons_zero]; rfl)); (focus rfl); intro K hK; go_simp; fail; rintro e wN ⟨rfl, bN⟩; refine hK _ _ (seq_next (by assumption) bN (fun bS' => ?_)); clear hK K))
  refine seqH_nil ?_
  go_wp2_with fail
  go_ret
  exact ⟨ret_bool (by simp), belT b1 (Below.trans b2 (Below.mono (by assumption) b2.size))⟩
theorem dateWeek_walk (n : Int) (w : World) (hn : (Lit.int .i64 n).wf = true) (hp : HasP10 w) :
    Calls Tryd.prog 3 #[.int .i64 n] w fun e w' => e = .returned (.bool true) ∧ Below w.heap.size w w' := dateWeek_core n w (wide_of hn) hp
end Go.Proofs.YtopmpkgopaenbaaDoor
