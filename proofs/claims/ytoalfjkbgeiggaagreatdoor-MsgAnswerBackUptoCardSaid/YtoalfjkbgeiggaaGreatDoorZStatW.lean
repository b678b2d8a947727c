/- LineStatusBack: the walks. -/
import Derived.Test.YtoalfjkbgeiggaaGreatDoorZStatP
import Derived.Test.YtoalfjkbgeiggaaGreatDoorZip4
import Derived.IntWalk
namespace Go.Proofs.YtoalfjkbgeiggaaGreatDoor
set_option maxRecDepth 20000
open Go.RowKit
namespace Ln
set_option maxHeartbeats 1600000 in
theorem isReason_any (r : ByteArray) (w : World) (hs : r.size ≤ 1048576) (hm : Has2 w) :
    Calls Tryz.prog 35 #[.string r] w fun e w' => e = .returned (.bool (isRs r)) ∧ Below w.heap.size w w' := by
  have hI : Hid (isRs r = (decide (r.size ≤ 100) && (Lib.replaceAll (sl r) [9] []).all (inB 32 126))) := rfl
  obtain ⟨mm, hmm⟩ := hm.1
  have HRp := Lib.hid (Tryz.strings_ReplaceAll r ⟨#[9]⟩ ⟨#[]⟩ mm w (by omega) hmm (by show 1 ≤ 1; exact Nat.le_refl _) (by show r.size + _ * 0 ≤ _; omega))
  have hrl : Hid (mkS (Lib.replaceAll (sl r) [9] []) = ⟨(Lib.replaceAll r.data.toList (⟨#[9]⟩ : ByteArray).data.toList (⟨#[]⟩ : ByteArray).data.toList).toArray⟩) := rfl
  rw [← hrl.out] at HRp
  have hlen : (Lib.replaceAll (sl r) [9] []).length ≤ r.size := by
    rw [replaceAll_tab, ← sl_len]; exact List.length_filter_le _ _
  have HWi := Lib.hid (fun w => within_any (mkS (Lib.replaceAll (sl r) [9] [])) 32 126 w (by rw [mkS_size]; omega))
  rw [sl_mkS] at HWi
  clear hm hmm hrl hlen
  generalize isRs r = R at *
  generalize Lib.replaceAll (sl r) [9] [] = L at *
  generalize L.all (inB 32 126) = q at *
  generalize mkS L = S at *
  by_cases h1 : r.size ≤ 100
  · have d1 : decide (r.size ≤ 100) = true := decide_eq_true h1
    have d1' : decide ((r.size : Int) ≤ 100) = true := by rw [decide_eq_true_iff]; omega
    have hI2 : Hid (R = q) := by show _ = _; rw [hI.out, d1, Bool.true_and]
    clear hI
    go_enter Tryz.func35, Tryz.ntmps35
    go_wp2_with fail
    refine HRp.out.mono ?_
    rintro e w1 ⟨rfl, b1⟩
    go_wp2_with fail
    refine (HWi.out _).mono ?_
    rintro e w' ⟨rfl, rfl⟩
    go_wp2_with fail
    go_ret
    exact ⟨ret_bool hI2.out.symm, b1⟩
  · have d1 : decide (r.size ≤ 100) = false := decide_eq_false h1
    have d1' : decide ((r.size : Int) ≤ 100) = false := by rw [decide_eq_false_iff_not]; omega
    have hI2 : Hid (R = false) := by show _ = _; rw [hI.out, d1, Bool.false_and]
    clear hI
    go_enter Tryz.func35, Tryz.ntmps35
    go_wp2_with fail
    go_ret
    exact ⟨ret_bool hI2.out.symm, Below.refl _ _⟩
theorem printS_bad (c : Int) (r : ByteArray) (w : World) (hs : r.size ≤ 1048576) (hm : Has2 w) (h : (c < 100 ∨ 599 < c) ∨ isRs r = false) :
    Calls Tryz.prog 22 #[.int .i64 c, .string r] w fun e w' => (∃ x, e = .returned (.tuple #[.string ByteArray.empty, .int .i64 x]) ∧ x ≠ 0) ∧ Below w.heap.size w w' := by
  have HI := Lib.hid (isReason_any r w hs hm)
  clear hm
  by_cases h1 : c < 100
  · have d1 : decide (c < 100) = true := decide_eq_true h1
    clear h
    go_enter Tryz.func22, Tryz.ntmps22
    go_wp2_with fail
    go_ret2
    exact ⟨⟨1, rfl, by decide⟩, Below.refl _ _⟩
  · have d1 : decide (c < 100) = false := decide_eq_false h1
    by_cases h2 : 599 < c
    · have d2 : decide (599 < c) = true := decide_eq_true h2
      clear h
      go_enter Tryz.func22, Tryz.ntmps22
      go_wp2_with fail
      go_ret2
      exact ⟨⟨1, rfl, by decide⟩, Below.refl _ _⟩
    · have d2 : decide (599 < c) = false := decide_eq_false h2
      have hr : isRs r = false := by rcases h with h | h; omega; exact h
      rw [hr] at HI
      clear h hr
      go_enter Tryz.func22, Tryz.ntmps22
      go_wp2_with fail
      refine HI.out.mono ?_
      rintro e w1 ⟨rfl, b1⟩
      go_wp2_with fail
      go_ret2
      exact ⟨⟨3, rfl, by decide⟩, b1⟩
set_option maxHeartbeats 1600000 in
theorem printS_good (c : Nat) (r : ByteArray) (w : World) (h0 : 100 ≤ c) (h1 : c ≤ 599) (hr : isRs r = true) (hm : Has2 w) (hp : HasP10 w) :
    Calls Tryz.prog 22 #[.int .i64 c, .string r] w fun e w' => e = .returned (.tuple #[.string (statS c r), .int .i64 0]) ∧ Below w.heap.size w w' := by
  have hz := (isRs_iff hr).1
  have HI := Lib.hid (isReason_any r w (by omega) hm)
  rw [hr] at HI
  have HIt := Lib.hid (fun w' (hb : Below w.heap.size w w') => Bd.itoa_any (c : Int) w' (by omega) (by omega) (hp.below rfl hb))
  have hP := statS_parts c r
  have hS := statS_size h0 h1 r
  have hiz : (mkS (Lib.itoa (c : Int))).size = 3 := by rw [mkS_size]; exact (code_ok h0 h1).2.1
  have e9 : (⟨#[72, 84, 84, 80, 47, 49, 46, 49, 32]⟩ : ByteArray).size = 9 := rfl
  have e1 : (⟨#[32]⟩ : ByteArray).size = 1 := rfl
  have z1 : ((⟨#[72, 84, 84, 80, 47, 49, 46, 49, 32]⟩ : ByteArray) ++ mkS (Lib.itoa (c : Int))).size ≤ 300 := by rw [ByteArray.size_append, e9, hiz]; omega
  have z2 : ((⟨#[72, 84, 84, 80, 47, 49, 46, 49, 32]⟩ : ByteArray) ++ mkS (Lib.itoa (c : Int)) ++ ⟨#[32]⟩).size ≤ 300 := by rw [ByteArray.size_append, ByteArray.size_append, e9, hiz, e1]; omega
  have z3 : ((⟨#[72, 84, 84, 80, 47, 49, 46, 49, 32]⟩ : ByteArray) ++ mkS (Lib.itoa (c : Int)) ++ ⟨#[32]⟩ ++ r).size ≤ 300 := by rw [ByteArray.size_append, ByteArray.size_append, ByteArray.size_append, e9, hiz, e1]; omega
  have z4 : (statS c r).size ≤ 300 := by omega
  have d1 : decide ((c : Int) < 100) = false := by rw [decide_eq_false_iff_not]; omega
  have d2 : decide (599 < (c : Int)) = false := by rw [decide_eq_false_iff_not]; omega
  have d1' : decide (c < 100) = false := by rw [decide_eq_false_iff_not]; omega
  have d2' : decide (599 < c) = false := by rw [decide_eq_false_iff_not]; omega
  clear hr hm hp e9 e1
  generalize statS c r = S at *
  generalize mkS (Lib.itoa (c : Int)) = I at *
  generalize hp1 : (⟨#[72, 84, 84, 80, 47, 49, 46, 49, 32]⟩ : ByteArray) ++ I = p1 at *
  generalize hp2 : p1 ++ ⟨#[32]⟩ = p2 at *
  generalize hp3 : p2 ++ r = p3 at *
  go_enter Tryz.func22, Tryz.ntmps22
  go_wp2_with fail
  refine HI.out.mono ?_
  rintro e w1 ⟨rfl, b1⟩
  go_wp2_with fail
  refine (HIt.out _ b1).mono ?_
  rintro e w2 ⟨rfl, b2⟩
  have B2 := belT b1 b2
  go_wp2_with fail
  go_ret2
  exact ⟨rfl, B2⟩
set_option maxHeartbeats 3200000 in
theorem parseS_good (c : Nat) (r rest : ByteArray) (w : World) (h0 : 100 ≤ c) (h1 : c ≤ 599) (hr : isRs r = true) (hrest : rest.size ≤ 2097152) (hm : Has2 w) (he : Bd.HasErr w) :
    Calls Tryz.prog 23 #[.string (statS c r ++ rest)] w fun e w' => e = .returned (.tuple #[.int .i64 c, .string r, .int .i64 (statS c r).size, .int .i64 0]) ∧ Below w.heap.size w w' := by
  have hz := (isRs_iff hr).1
  have hS := statS_size h0 h1 r
  have hlen := stat_len h0 h1 (sl r)
  rw [sl_len] at hlen
  have HF := Lib.hid (first_any (statS c r ++ rest) w (by rw [ByteArray.size_append]; omega) hm)
  have hsl : sl (statS c r ++ rest) = statL c (sl r) ++ 13 :: 10 :: sl rest := by rw [sl_append]; unfold statS; rw [sl_mkS, List.append_assoc]; rfl
  unfold FirstAns at HF
  rw [hsl, stat_first h0 h1 hr] at HF
  dsimp only at HF
  have hL : (mkS (statL c (sl r))).size = r.size + 13 := by rw [mkS_size, hlen]
  have hcat : mkS (statL c (sl r)) ++ ⟨#[13, 10]⟩ = statS c r := by apply sl_inj; rw [sl_append, sl_mkS]; unfold statS; rw [sl_mkS]; rfl
  have HSp := Lib.hid (fun w' (hb : Below w.heap.size w w') => (hm.below hb).1.elim fun m hmm => Tryz.strings_SplitN (mkS (statL c (sl r))) ⟨#[32]⟩ 3 m w' (by omega) hmm (by show 1 ≤ 1; exact Nat.le_refl _) (by decide) (by decide))
  have hmin : min 3 ((mkS (statL c (sl r))).size + 1) = 3 := by rw [hL]; omega
  rw [hmin, stat_split h0 h1 (sl r), mkS_sl] at HSp
  have hcells : Lib.cellsOf [verS, mkS (Lib.itoa (c : Int)), r] 3 = #[.string verS, .string (mkS (Lib.itoa (c : Int))), .string r] := by rfl
  rw [hcells] at HSp
  obtain ⟨ha, ha3, -, -⟩ := code_ok h0 h1
  have HAt := Lib.hid (fun w' (hb : Below w.heap.size w w') => Bd.atoi_any (mkS (Lib.itoa (c : Int))) w' (by rw [mkS_size]; omega) (he.below hb))
  rw [sl_mkS] at HAt
  have HPr := Lib.hid (fun w' (hb : Below w.heap.size w w') => printS_good c r w' h0 h1 hr (hm.below hb) (he.below hb).p10)
  have HA := Lib.hid ha
  have hSz : (statS c r).size ≤ 300 := by omega
  clear hm he hsl hmin hcells ha hr ha3 hlen hS
  generalize statS c r = S at *
  generalize hXX : S ++ rest = XX at *
  clear hXX
  generalize mkS (statL c (sl r)) = L at *
  generalize mkS (Lib.itoa (c : Int)) = I at *
  generalize verS = V at *
  go_enter Tryz.func23, Tryz.ntmps23
  go_wp2_with fail
  refine HF.out.mono ?_
  rintro e w1 ⟨rfl, b1⟩
  go_wp2_with fail
  refine (HSp.out _ b1).mono ?_
  rintro e w2 ⟨rfl, hw2⟩
  have b2 : Below w1.heap.size w1 w2 := by rw [hw2]; exact (Below.refl _ _).alloc (Nat.le_refl _) _
  have B2 := belT b1 b2
  have q1 : w2.cell? ⟨w1.heap.size, 1, none⟩ = some (.string I) := by rw [hw2]; exact World.cell?_alloc_at _ _ _ _ rfl
  have q2 : w2.cell? ⟨w1.heap.size, 2, none⟩ = some (.string r) := by rw [hw2]; exact World.cell?_alloc_at _ _ _ _ rfl
  have hlt : w1.heap.size < w2.heap.size := by rw [hw2]; simp
  clear hw2 HF HSp
  have HC := Lib.hid (fun w' (hb : Below w2.heap.size w2 w') => And.intro ((hb.cell (p := ⟨w1.heap.size, 1, none⟩) hlt).trans q1) ((hb.cell (p := ⟨w1.heap.size, 2, none⟩) hlt).trans q2))
  simp only [List.length_cons, List.length_nil]
  go_wp2_with fail
  refine (HAt.out _ B2).mono ?_
  rintro e w3 ⟨⟨v, ev, rfl, hat⟩, b3⟩
  have hvv : v = (c : Int) ∧ ev = .nilIface := by
    rcases hat with ⟨h, rfl⟩ | ⟨h, -⟩
    · rw [HA.out] at h; injection h with h; exact ⟨h.symm, rfl⟩
    · exact absurd HA.out (h _)
  obtain ⟨rfl, rfl⟩ := hvv
  have B3 := belT B2 b3
  have q3 := (HC.out _ b3).2
  clear q1 q2 HAt HA hat
  go_wp2_with fail
  refine (HPr.out _ B3).mono ?_
  rintro e w4 ⟨rfl, b4⟩
  have B4 := belT B3 b4
  have HC4 := Lib.hid (fun w' (hb : Below w4.heap.size w4 w') => (HC.out w' (belT (belT b3 b4) hb)).2)
  clear q3 HC HPr
  go_wp2_with fail
  refine wp_region_seq [(true, 0), (true, 1), (true, 2), (true, 3), (true, 4), (true, 5), (true, 6), (true, 7), (true, 8), (true, 9)] (fun w' => Below w4.heap.size w4 w') (by kernel_rfl) (by kernel_rfl) (fun _ _ _ _ _ h => h) (by kernel_rfl) (by kernel_rfl) (by first | exact (Below.refl _ _).drew | exact Below.drew (by assumption)) ?_
  have bS : Below w4.heap.size w4 _ := (by first | exact Below.drew (by assumption) | exact (Below.refl _ w4).drew)
  iterate 10 (first
    | (apply seqH_skip; (focus (simp only [List.getElem?_toArray, List.getElem?_cons_succ, List.getElem?_cons_zero]; rfl)); (focus rfl); simp only [Act.put, List.setIfInBounds_toArray, List.set_cons_zero, List.set_cons_succ])
    | (apply seqH_take; (focus (simp only [List.getElem?_toArray, List.getElem?_cons_succ, List.getElem?_cons_zero]; rfl)); (focus rfl); (focus (intro w' hS; have c2 := HC4.out _ hS; first | (go_simp; rfl) | (go_simp; done))); simp only [Act.put, List.setIfInBounds_toArray, List.set_cons_zero, List.set_cons_succ])
    | (apply seqH_pass; (focus (simp only [List.getElem?_toArray, List.getElem?_cons_succ, List.getElem?_cons_zero]; rfl)); (focus rfl); (focus assumption); simp only [Act.put, List.setIfInBounds_toArray, List.set_cons_zero, List.set_cons_succ])
    | (apply seqH_eff; (focus (simp only [List.getElem?_toArray, List.getElem?_cons_succ, List.getElem?_cons_zero]; rfl)); (focus rfl); intro K hK; go_simp; fail; rintro e wN ⟨rfl, bN⟩; refine hK _ _ (seq_next (by assumption) bN (fun bS' => ?_)); clear hK K))
  refine seqH_nil ?_
  go_wp2_with fail
  refine bodyPost_ret (results_tmp4 rfl _ _ _) rfl ⟨?_, belT B4 bS⟩
  rfl
theorem parseS_empty (w : World) (hm : Has2 w) :
    Calls Tryz.prog 23 #[.string ByteArray.empty] w fun e w' => e = .returned (.tuple #[.int .i64 0, .string ByteArray.empty, .int .i64 0, .int .i64 8]) ∧ Below w.heap.size w w' := by
  have HF := Lib.hid (first_any ByteArray.empty w (by decide) hm)
  unfold FirstAns at HF
  rw [sl_empty, show firstF [] = .error 8 from rfl] at HF
  dsimp only at HF
  go_enter Tryz.func23, Tryz.ntmps23
  go_wp2_with fail
  refine HF.out.mono ?_
  rintro e w1 ⟨rfl, b1⟩
  go_wp2_with fail
  refine bodyPost_ret (results_tmp4 rfl _ _ _) rfl ⟨?_, b1⟩
  rfl
end Ln
open Ln
end Go.Proofs.YtoalfjkbgeiggaaGreatDoor
