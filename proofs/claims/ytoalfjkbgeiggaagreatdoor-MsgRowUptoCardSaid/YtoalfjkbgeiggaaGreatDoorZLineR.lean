/- line: what ParseRequest answers; LineBack, LineShort: the laws' walks. -/
import Derived.Test.YtoalfjkbgeiggaaGreatDoorZLineW
import Derived.Test.YtoalfjkbgeiggaaGreatDoorZip4
import Derived.IntWalk
import Derived.Test.YtoalfjkbgeiggaaGreatDoorZRest
namespace Go.Proofs.YtoalfjkbgeiggaaGreatDoor
set_option maxRecDepth 20000
open Go.RowKit
namespace Ln
def ParseAns (l : List UInt8) (e : Ending) : Prop := e = .returned (.tuple #[.string (parseR l).1, .string (parseR l).2.1, .int .i64 (parseR l).2.2.1, .int .i64 (parseR l).2.2.2])
theorem first_len {l a : List UInt8} (h : firstF l = .ok a) : a.length ≤ 300 := by
  unfold firstF at h
  split at h
  · split at h <;> cases h
  · split at h
    · cases h
    · injection h with h; subst h; omega
set_option maxHeartbeats 3200000 in
theorem parseReq_any (s : ByteArray) (w : World) (hs : s.size < 4294967281) (hm : Has2 w) :
    Calls Tryz.prog 19 #[.string s] w fun e w' => ParseAns (sl s) e ∧ Below w.heap.size w w' := by
  have HFi := Lib.hid (first_any s w hs hm)
  have HM2 := Lib.hid (fun w' (hb : Below w.heap.size w w') => hm.below hb)
  unfold ParseAns
  clear hm
  have HR : Hid (parseR (sl s) = match firstF (sl s) with
    | .error c => (ByteArray.empty, ByteArray.empty, 0, c)
    | .ok a => match sg 32 [] a with
      | [m, t, v] => if v = verL ∧ isM (mkS m) = true ∧ isT (mkS t) = true then (mkS m, mkS t, (a.length : Int) + 2, 0) else (ByteArray.empty, ByteArray.empty, 0, 3)
      | _ => (ByteArray.empty, ByteArray.empty, 0, 3)) := rfl
  unfold FirstAns at HFi
  generalize parseR (sl s) = R at *
  obtain ⟨r1, r2, r3, r4⟩ := R
  cases hf : firstF (sl s) with
  | error c =>
    rw [hf] at HR HFi
    have hc := first_code hf
    have hR := HR.out
    injection hR with h1 h2
    injection h2 with h2 h3
    injection h3 with h3 h4
    subst h1 h2 h3 h4
    have hne : (r4 != 0) = true := by rcases hc with rfl | rfl <;> rfl
    clear HR hf hc
    go_enter Tryz.func19, Tryz.ntmps19
    go_wp2_with fail
    refine HFi.out.mono ?_
    rintro e w1 ⟨rfl, b1⟩
    go_wp2_with fail
    refine bodyPost_ret (results_tmp4 rfl _ _ _) rfl ⟨?_, b1⟩
    rfl
  | ok a =>
    rw [hf] at HR HFi
    have ha := first_len hf
    clear hf
    dsimp only at HFi HR
    have hsz := mkS_size a
    have HSp := Lib.hid (fun w' hb => split1_any (mkS a) 32 w' (by omega) (HM2.out w' hb).1)
    rw [sl_mkS] at HSp
    have hparts : ∀ p ∈ sg 32 [] a, p.length ≤ 300 := by
      have : ∀ (l cur : List UInt8), ∀ p ∈ sg 32 cur l, p.length ≤ cur.length + l.length := by
        intro l
        induction l with
        | nil => intro cur p hp; rw [show sg 32 cur [] = [cur] from rfl, List.mem_singleton] at hp; subst hp; simp
        | cons x l ih =>
          intro cur p hp
          rw [sg_c] at hp
          split at hp
          · rcases List.mem_cons.1 hp with rfl | hp
            · simp only [List.length_cons]; omega
            · have := ih _ p hp; simp only [List.length_nil, List.length_cons] at *; omega
          · have := ih _ p hp; simp only [List.length_append, List.length_cons, List.length_nil] at *; omega
      intro p hp
      have := this a [] p hp
      simp only [List.length_nil] at this; omega
    generalize mkS a = L at *
    go_enter Tryz.func19, Tryz.ntmps19
    go_wp2_with fail
    refine HFi.out.mono ?_
    rintro e w1 ⟨rfl, b1⟩
    go_wp2_with fail
    refine (HSp.out _ b1).mono ?_
    rintro e w2 ⟨⟨v, rfl, hsl⟩, b2⟩
    have B2 := belT b1 b2
    have HSl := Lib.hid hsl
    clear HFi HSp
    by_cases h3 : (sg 32 [] a).length = 3
    · obtain ⟨m, t, vv, hmtv⟩ : ∃ m t vv, sg 32 [] a = [m, t, vv] := by
        match hs : sg 32 [] a with
        | [m, t, vv] => exact ⟨m, t, vv, rfl⟩
        | [] => rw [hs] at h3; cases h3
        | [_] => rw [hs] at h3; cases h3
        | [_, _] => rw [hs] at h3; cases h3
        | _ :: _ :: _ :: _ :: _ => rw [hs] at h3; simp at h3
      rw [hmtv] at HR HSl hparts
      have hpm : (mkS m).size ≤ 300 := by rw [mkS_size]; exact hparts m (by simp)
      have hpt : (mkS t).size ≤ 300 := by rw [mkS_size]; exact hparts t (by simp)
      have hpv : (mkS vv).size ≤ 300 := by rw [mkS_size]; exact hparts vv (by simp)
      dsimp only at HR
      have HV : Hid (((mkS vv).toList == ([72, 84, 84, 80, 47, 49, 46, 49] : List UInt8)) = decide (vv = verL)) := by
        show _ = _
        rw [ba_toList, sl_mkS, Bool.eq_iff_iff, beq_iff_eq, decide_eq_true_iff]; exact Iff.rfl
      obtain ⟨b, off, c', rfl, _, hbb, hcell⟩ := hsl.texts (by simp [hmtv])
      rw [hmtv] at hcell
      have c0 := hcell 0 (by simp)
      have c1 := hcell 1 (by simp)
      have c2 := hcell 2 (by simp)
      simp only [List.map_cons, List.getElem_cons_zero, List.getElem_cons_succ, Nat.add_zero] at c0 c1 c2
      clear hcell hsl h3 hparts
      simp only [hmtv, List.map_cons, List.map_nil, List.length_cons, List.length_nil]
      have HMt := Lib.hid (fun w => isMethod_any (mkS m) w (by omega))
      have HTt := Lib.hid (fun w => isTarget_any (mkS t) w (by omega))
      generalize mkS m = M at *
      generalize mkS t = T at *
      generalize mkS vv = V at *
      generalize hx1 : decide (vv = verL) = x1 at *
      generalize hx2 : isM M = x2 at *
      generalize hx3 : isT T = x3 at *
      have HV2 := HV.out
      have HR2 : Hid ((r1, r2, r3, r4) = if x1 = true ∧ x2 = true ∧ x3 = true then (M, T, (a.length : Int) + 2, 0) else (ByteArray.empty, ByteArray.empty, 0, 3)) := by
        show _ = _
        rw [HR.out]
        subst hx1
        simp only [decide_eq_true_eq]
      clear HR HV hx1 hx2 hx3
      cases x1
      · have hR := HR2.out
        rw [if_neg (by simp)] at hR
        injection hR with h1 h2
        injection h2 with h2 h3
        injection h3 with h3 h4
        subst h1 h2 h3 h4
        go_wp2_with fail
        refine bodyPost_ret (results_tmp4 rfl _ _ _) rfl ⟨?_, B2⟩
        rfl
      · cases x2
        · have hR := HR2.out
          rw [if_neg (by simp)] at hR
          injection hR with h1 h2
          injection h2 with h2 h3
          injection h3 with h3 h4
          subst h1 h2 h3 h4
          go_wp2_with fail
          refine (HMt.out _).mono ?_
          rintro e w' ⟨rfl, rfl⟩
          go_wp2_with fail
          refine bodyPost_ret (results_tmp4 rfl _ _ _) rfl ⟨?_, B2⟩
          rfl
        · cases x3
          · have hR := HR2.out
            rw [if_neg (by simp)] at hR
            injection hR with h1 h2
            injection h2 with h2 h3
            injection h3 with h3 h4
            subst h1 h2 h3 h4
            go_wp2_with fail
            refine (HMt.out _).mono ?_
            rintro e w' ⟨rfl, rfl⟩
            go_wp2_with fail
            refine (HTt.out _).mono ?_
            rintro e w' ⟨rfl, rfl⟩
            go_wp2_with fail
            refine bodyPost_ret (results_tmp4 rfl _ _ _) rfl ⟨?_, B2⟩
            rfl
          · have hR := HR2.out
            rw [if_pos (by simp)] at hR
            injection hR with h1 h2
            injection h2 with h2 h3
            injection h3 with h3 h4
            subst h1 h2 h3 h4
            go_wp2_with fail
            refine (HMt.out _).mono ?_
            rintro e w' ⟨rfl, rfl⟩
            go_wp2_with fail
            refine (HTt.out _).mono ?_
            rintro e w' ⟨rfl, rfl⟩
            go_wp2_with fail
            have HCe := Lib.hid (fun w' (hS : Below w2.heap.size w2 w') => And.intro ((hS.cell (p := ⟨b, off, none⟩) hbb).trans c0) ((hS.cell (p := ⟨b, off + 1, none⟩) hbb).trans c1))
            clear c0 c1 c2
            refine wp_region_seq [(true, 0), (true, 1), (true, 2), (true, 3), (true, 4), (true, 5), (true, 6), (true, 7), (true, 8), (true, 9), (true, 10), (true, 11), (true, 12)] (fun w' => Below w2.heap.size w2 w') (by kernel_rfl) (by kernel_rfl) (fun _ _ _ _ _ h => h) (by kernel_rfl) (by kernel_rfl) (by first | exact (Below.refl _ _).drew | exact Below.drew (by assumption)) ?_
            have bS : Below w2.heap.size w2 _ := (by first | exact Below.drew (by assumption) | exact (Below.refl _ w2).drew)
            iterate 13 (first
              | (apply seqH_skip; (focus (simp only [List.getElem?_toArray, List.getElem?_cons_succ, List.getElem?_cons_zero]; rfl)); (focus rfl); simp only [Act.put, List.setIfInBounds_toArray, List.set_cons_zero, List.set_cons_succ])
              | (apply seqH_take; (focus (simp only [List.getElem?_toArray, List.getElem?_cons_succ, List.getElem?_cons_zero]; rfl)); (focus rfl); (focus (intro w' hS; obtain ⟨c0, c1⟩ := HCe.out _ hS; first | (go_simp; rfl) | (go_simp; done))); simp only [Act.put, List.setIfInBounds_toArray, List.set_cons_zero, List.set_cons_succ])
              | (apply seqH_pass; (focus (simp only [List.getElem?_toArray, List.getElem?_cons_succ, List.getElem?_cons_zero]; rfl)); (focus rfl); (focus assumption); simp only [Act.put, List.setIfInBounds_toArray, List.set_cons_zero, List.set_cons_succ])
              | (apply seqH_eff; (focus (simp only [List.getElem?_toArray, List.getElem?_cons_succ, List.getElem?_cons_zero]; rfl)); (focus rfl); intro K hK; go_simp; fail; rintro e wN ⟨rfl, bN⟩; refine hK _ _ (seq_next (by assumption) bN (fun bS' => ?_)); clear hK K))
            refine seqH_nil ?_
            go_wp2_with fail
            refine bodyPost_ret (results_tmp4 rfl _ _ _) rfl ⟨?_, belT B2 bS⟩
            have hwr : IntKind.i64.wrap ((a.length : Int) + 2) = (a.length : Int) + 2 := IntWalk.i64_in _ (by omega)
            simp [hwr]
    · have HB : Hid ((r1, r2, r3, r4) = (ByteArray.empty, ByteArray.empty, 0, 3)) := by
        show _ = _
        rw [HR.out]
        match hs : sg 32 [] a with
        | [m, t, vv] => rw [hs] at h3; exact absurd rfl h3
        | [] => rfl
        | [_] => rfl
        | [_, _] => rfl
        | _ :: _ :: _ :: _ :: _ => rfl
      have hR := HB.out
      injection hR with h1 h2
      injection h2 with h2 h3'
      injection h3' with h3' h4
      subst h1 h2 h3' h4
      obtain ⟨A, c, rfl, -⟩ := hsl.form
      have hlen : ((sg 32 [] a).map mkS).length = (sg 32 [] a).length := List.length_map ..
      have hne : ((((sg 32 [] a).map mkS).length : Int) != 3) = true := by rw [hlen]; simp; omega
      clear HR HB hsl hparts
      generalize (sg 32 [] a).map mkS = Ws at *
      go_wp2_with fail
      refine bodyPost_ret (results_tmp4 rfl _ _ _) rfl ⟨?_, B2⟩
      rfl
end Ln
end Go.Proofs.YtoalfjkbgeiggaaGreatDoor
