/- target: what Normal's closure and each over it leave. -/
import Derived.Test.YthocoplaehbncaaDoorTargetP
namespace Go.Proofs.YthocoplaehbncaaDoor
set_option maxRecDepth 20000
open Go.RowKit
namespace Tar
def symB (x : Bool) (c : UInt8) : List UInt8 := if x = true ∧ freeB c = false then esc3 c else [c]
theorem sym_false (c : UInt8) : symB false c = [c] := by unfold symB; rw [if_neg (by simp)]
theorem sym_true (c : UInt8) : symB true c = esc c := by
  unfold symB esc
  cases freeB c <;> simp
end Tar
set_option maxHeartbeats 3200000 in
theorem normal1_any (c : UInt8) (x : Bool) (g base : Nat) (l : List UInt8) (w : World) (h : Acc w base g l) (hl : l.length ≤ 1000000) :
    Calls Tryd.prog 60 #[.int .u8 c.toNat, .bool x, .pointer (some ⟨g, 0, none⟩)] w fun e w' => e = .returned (.tuple #[]) ∧ Acc w' base g (l ++ Tar.symB x c) ∧ Below base w w' := by
  obtain ⟨hbg, hbw, v, hk, ho, hne⟩ := h
  have c0 := hk.cell 0
  simp only [List.getElem?_toArray, List.getElem?_cons_zero] at c0
  have HK := Lib.hid hk
  have HO := Lib.hid ho
  have hlt : g < w.heap.size := hk.lt
  have f00 := hk.frozen 0
  have HF := Lib.hid (fun w => isFree_any c w)
  have HS : Hid (Tar.symB x c = if x = true ∧ Tar.freeB c = false then Tar.esc3 c else [c]) := rfl
  obtain ⟨A, cp, hv⟩ := ho.slice
  subst hv
  have plain : ∀ (w1 : World), True := fun _ => trivial
  clear hk ho plain
  by_cases hx : x = true ∧ Tar.freeB c = false
  · obtain ⟨rfl, hfr⟩ := hx
    rw [hfr] at HF HS
    have HS2 : Hid (Tar.symB true c = Tar.esc3 c) := by show _ = _; rw [HS.out, if_pos ⟨rfl, rfl⟩]
    clear HS hfr
    go_enter Tryd.func60, Tryd.ntmps60
    go_wp2_with fail
    refine (HF.out _).mono ?_
    rintro e w' ⟨rfl, rfl⟩
    go_wp2_with fail
    refine (escape_any _ c l base _ HO.out hbw (by omega)).mono ?_
    rintro e w2 ⟨⟨v2, rfl, ho2⟩, hg2⟩
    have hb2 : Blk w2 g 67 #[_] := HK.out.grown hg2 (fun e => hne e.symm)
    have f0 := hb2.frozen 0
    have d0 := hb2.cell 0
    simp only [List.getElem?_toArray, List.getElem?_cons_zero] at d0
    have HB2 := Lib.hid hb2
    have hne2 := ho2.ne_blk hb2 (by decide)
    have HO2 := Lib.hid ho2
    have bel : Below base w w2 := (Below.refl base w).grown hg2 hbw (fun k hk => (HO.out.lt k hk).1)
    obtain ⟨A', cp', hv'⟩ := ho2.slice
    subst hv'
    clear hb2 ho2
    go_wp2_with fail
    go_end0
    have e : (l ++ Tar.esc3 c).length = l.length + 3 := by simp [Tar.esc3]
    have HO3 := HO2.out
    rw [e] at HO3 hne2
    exact ⟨rfl, ⟨hbg, by simpa using Nat.le_trans hbw bel.size, _, HB2.out.set_ 0 _, by rw [HS2.out]; exact HO3.setFar _ _ hne2, hne2⟩, bel.setCell (p := ⟨g, 0, none⟩) hbg _⟩
  · have HS2 : Hid (Tar.symB x c = [c]) := by show _ = _; rw [HS.out, if_neg hx]
    have hfx : x = false ∨ (x = true ∧ Tar.freeB c = true) := by
      cases x
      · exact .inl rfl
      · cases hq : Tar.freeB c
        · exact absurd ⟨rfl, hq⟩ hx
        · exact .inr ⟨rfl, rfl⟩
    clear HS hx
    rcases hfx with rfl | ⟨rfl, hfr⟩
    focus
      go_enter Tryd.func60, Tryd.ntmps60
    rotate_left
    focus
      rw [hfr] at HF
      clear hfr
      go_enter Tryd.func60, Tryd.ntmps60
      go_wp2_with fail
      refine (HF.out _).mono ?_
      rintro e w' ⟨rfl, rfl⟩
    all_goals
      go_wp2_with (at_builtin; go_must (refine wpList_append_owns rfl (.tmp 14) (.tmp 16) _ rfl base 5 (.int .u8 0) 1 1 eb Tryd.underlying67 byteInfo rfl (by decide) _ l rfl (HO.out.alloc _) ⟨w.heap.size, 0, none⟩ 1 1 [c] rfl rfl rfl (new_cells _ [bv c] _) (eb_one [c]) (by simp only [maxLen]; omega) (by omega) (by simp; omega) ?_))
      intro v' w2 ho2 hg2
      have hb2 : Blk w2 g 67 #[_] := (HK.out.alloc (.cells #[.int .u8 c.toNat] 5)).grown hg2 (fun e => hne e.symm)
      have d0 := hb2.cell 0
      simp only [List.getElem?_toArray, List.getElem?_cons_zero] at d0
      have f0 := hb2.frozen 0
      have HB2 := Lib.hid hb2
      obtain ⟨A', cp', hv'⟩ := ho2.slice
      subst hv'
      have HO2 := Lib.hid ho2
      have hne2 := ho2.ne_blk hb2 (by decide)
      have bel : Below base w w2 := ((Below.refl base w).alloc hbw _).grown hg2 (by simp; omega) (fun k hk => (HO.out.lt k hk).1)
      clear hb2 ho2
      go_wp2_with fail
      go_end0
      have e : (l ++ [c]).length = l.length + 1 := by simp
      have HO3 := HO2.out
      rw [e] at HO3 hne2
      exact ⟨rfl, ⟨hbg, by simpa using Nat.le_trans hbw bel.size, _, HB2.out.set_ 0 _, by rw [HS2.out]; exact HO3.setFar _ _ hne2, hne2⟩, bel.setCell (p := ⟨g, 0, none⟩) hbg _⟩
/-- What each answers, over the closure that gathers. -/
def EachNAns (base g : Nat) (l : List UInt8) (e : Ending) (w' : World) : Prop :=
  match Tar.normL l with
  | some out => e = .returned (.bool true) ∧ Acc w' base g out
  | none => e = .returned (.bool false) ∧ ∃ out, Acc w' base g out
set_option maxHeartbeats 3200000 in
set_option maxRecDepth 10000 in
theorem eachN_any (s : ByteArray) (g base : Nat) (w : World) (h : Acc w base g []) (hs : s.size ≤ 1000) :
    Calls Tryd.prog 59 #[.string s, .func (.func 60) #[] #[.pointer (some ⟨g, 0, none⟩)]] w fun e w' => EachNAns base g (sl s) e w' ∧ Below base w w' := by
  have hbase := h.2.1
  have H0 := Lib.hid h
  clear h
  go_enter Tryd.func59, Tryd.ntmps59
  go_wp2_with fail
  go_loopw [5] (fun i wr => ∃ (k : Nat) (out : List UInt8), k ≤ s.size ∧ out.length ≤ k ∧ i = .int .i64 k ∧ Acc wr base g out ∧ Tar.normL (sl s) = (Tar.normL ((sl s).drop k)).map (out ++ ·) ∧ Below base w wr) (fun i _ => s.size - (intOf i).toNat)
  case atStart => exact ⟨0, [], by omega, by simp, rfl, H0.out, by simp, Below.refl _ _⟩
  case round =>
    obtain ⟨k, out, hk, ho, rfl, hacc, hun, hbel⟩ := hrel
    have HA := Lib.hid hacc
    have HU := Lib.hid hun
    clear hacc hun
    by_cases hlt : k < s.size
    · have hd : Hid ((sl s).drop k = s[k] :: (sl s).drop (k + 1)) := by
        show _ = _
        rw [List.drop_eq_getElem_cons (by rw [sl_len]; exact hlt), sl_getElem]
      by_cases h37 : ((s[k].toNat : Int) == 37) = true
      · have hc37 : Hid ((s[k] == 37) = true) := by
          show _ = _
          rw [beq_iff_eq] at *
          apply UInt8.toNat_inj.1
          have : (37 : UInt8).toNat = 37 := rfl
          omega
        by_cases hsh : s.size < k + 3
        · have hN : Hid (Tar.normL (sl s) = none) := by
            show _ = _
            rw [HU.out, hd.out, Tar.normL_short hc37.out (by rw [List.length_drop, sl_len]; omega)]; rfl
          have d0 : decide ((s.size : Int) < (k : Int) + 3) = true := by rw [decide_eq_true_eq]; omega
          go_wp2_with fail
          go_ret
          exact ⟨by unfold EachNAns; rw [hN.out]; exact ⟨rfl, _, HA.out⟩, hbel⟩
        · have d0 : decide ((s.size : Int) < (k : Int) + 3) = false := by rw [decide_eq_false_iff_not]; omega
          have i1 : (k : Int) + 1 < (s.size : Int) := by omega
          have i2 : (k : Int) + 2 < (s.size : Int) := by omega
          have hd2 : Hid ((sl s).drop (k + 1) = s[k + 1] :: s[k + 2] :: (sl s).drop (k + 3)) := by
            show _ = _
            rw [List.drop_eq_getElem_cons (by rw [sl_len]; omega), sl_getElem, List.drop_eq_getElem_cons (by rw [sl_len]; omega), sl_getElem]
          have x1 := Tar.digI_bd s[k + 1]
          have x2 := Tar.digI_bd s[k + 2]
          have hI1 := Lib.hid (digit_any s[k + 1])
          have hI2 := Lib.hid (digit_any s[k + 2])
          have hBV := Lib.hid (by16_val s[k + 1] s[k + 2])
          have hUB := Lib.hid (fun (h : Tar.digI s[k + 1] < 0 ∨ Tar.digI s[k + 2] < 0) => Tar.normL_bad (a := s[k + 1]) (b := s[k + 2]) (r := (sl s).drop (k + 3)) hc37.out h)
          have hUE := Lib.hid (fun (h : 0 ≤ Tar.digI s[k + 1]) (h' : 0 ≤ Tar.digI s[k + 2]) => Tar.normL_esc (a := s[k + 1]) (b := s[k + 2]) (r := (sl s).drop (k + 3)) hc37.out h h')
          go_wp2_with fail
          refine (hI1.out _).mono ?_
          rintro e w' ⟨rfl, rfl⟩
          by_cases ha : Tar.digI s[k + 1] < 0
          · have hN : Hid (Tar.normL (sl s) = none) := by
              show _ = _
              rw [HU.out, hd.out, hd2.out, hUB.out (.inl ha)]; rfl
            have d1 : decide (Tar.digI s[k + 1] < 0) = true := decide_eq_true ha
            go_wp2_with fail
            go_ret
            exact ⟨by unfold EachNAns; rw [hN.out]; exact ⟨rfl, _, HA.out⟩, hbel⟩
          · have d1 : decide (Tar.digI s[k + 1] < 0) = false := decide_eq_false ha
            go_wp2_with fail
            refine (hI2.out _).mono ?_
            rintro e w' ⟨rfl, rfl⟩
            by_cases hb : Tar.digI s[k + 2] < 0
            · have hN : Hid (Tar.normL (sl s) = none) := by
                show _ = _
                rw [HU.out, hd.out, hd2.out, hUB.out (.inr hb)]; rfl
              have d2 : decide (Tar.digI s[k + 2] < 0) = true := decide_eq_true hb
              go_wp2_with fail
              go_ret
              exact ⟨by unfold EachNAns; rw [hN.out]; exact ⟨rfl, _, HA.out⟩, hbel⟩
            · have d2 : decide (Tar.digI s[k + 2] < 0) = false := decide_eq_false hb
              have p1 : 0 ≤ Tar.digI s[k + 1] := by omega
              have p2 : 0 ≤ Tar.digI s[k + 2] := by omega
              have hUU : Hid (Tar.normL (sl s) = (Tar.normL ((sl s).drop (k + 3))).map ((out ++ Tar.esc (Tar.by16 s[k + 1] s[k + 2])) ++ ·)) := by
                show _ = _
                rw [HU.out, hd.out, hd2.out, hUE.out p1 p2, Tar.map_app]
              have hVal := hBV.out p1 p2
              have hor := i64_or16 (Tar.digI s[k + 1]) (Tar.digI s[k + 2]) p1 x1.2 p2 x2.2
              clear ha hb
              generalize Tar.by16 s[k + 1] s[k + 2] = z at hUU hVal
              generalize Tar.digI s[k + 1] = x at *
              generalize Tar.digI s[k + 2] = y at *
              go_wp2_with fail
              have w1 : IntKind.i64.wrap ((k : Int) + 1) = (k : Int) + 1 := IntWalk.i64_in _ (by omega)
              have w2 : IntKind.i64.wrap ((k : Int) + 2) = (k : Int) + 2 := IntWalk.i64_in _ (by omega)
              have n1 : 0 ≤ (k : Int) + 1 := by omega
              have n2 : 0 ≤ (k : Int) + 2 := by omega
              have t1 : ((k : Int) + 1).toNat = k + 1 := by omega
              have t2 : ((k : Int) + 2).toNat = k + 2 := by omega
              have w3 : IntKind.i64.wrap (x * 16) = x * 16 := IntWalk.i64_in _ (by omega)
              refine wp_region_plan (.take 0 (.take 1 (.take 2 (.take 3 (.take 4 (.take 7 (.take 8 (.take 9 (.take 10 (.eff 5 (.take 6 (.eff 11 (.take 12 (.eff 13 (.eff 14 .nil))))))))))))))) (fun _ => True) (by kernel_rfl) (by kernel_rfl) (fun _ _ _ _ _ h => h) (by kernel_rfl) (by kernel_rfl) trivial ?_
              iterate 9 (first | (apply seqP_skip; (focus (simp only [List.getElem?_toArray, List.getElem?_cons_succ, List.getElem?_cons_zero]; rfl)); (focus rfl); simp only [Act.put, List.setIfInBounds_toArray, List.set_cons_zero, List.set_cons_succ]) | (apply seqP_take; (focus (simp only [List.getElem?_toArray, List.getElem?_cons_succ, List.getElem?_cons_zero]; rfl)); (focus rfl); (focus (intro w' hS; skip; first | (go_simp; rfl) | (go_simp; done))); simp only [Act.put, List.setIfInBounds_toArray, List.set_cons_zero, List.set_cons_succ]))
              apply seqP_eff
              (focus (simp only [List.getElem?_toArray, List.getElem?_cons_succ, List.getElem?_cons_zero]; rfl))
              (focus rfl)
              intro K hK
              go_simp
              go_at_call 89
              refine (hI1.out _).mono ?_
              rintro e wN ⟨rfl, rfl⟩
              refine hK _ _ ⟨trivial, ?_⟩
              clear hK K
              iterate 1 (first | (apply seqP_skip; (focus (simp only [List.getElem?_toArray, List.getElem?_cons_succ, List.getElem?_cons_zero]; rfl)); (focus rfl); simp only [Act.put, List.setIfInBounds_toArray, List.set_cons_zero, List.set_cons_succ]) | (apply seqP_take; (focus (simp only [List.getElem?_toArray, List.getElem?_cons_succ, List.getElem?_cons_zero]; rfl)); (focus rfl); (focus (intro w' hS; skip; first | (go_simp; rfl) | (go_simp; done))); simp only [Act.put, List.setIfInBounds_toArray, List.set_cons_zero, List.set_cons_succ]))
              apply seqP_eff
              (focus (simp only [List.getElem?_toArray, List.getElem?_cons_succ, List.getElem?_cons_zero]; rfl))
              (focus rfl)
              intro K hK
              go_simp
              go_at_call 89
              refine (hI2.out _).mono ?_
              rintro e wN ⟨rfl, rfl⟩
              refine hK _ _ ⟨trivial, ?_⟩
              clear hK K
              iterate 1 (first | (apply seqP_skip; (focus (simp only [List.getElem?_toArray, List.getElem?_cons_succ, List.getElem?_cons_zero]; rfl)); (focus rfl); simp only [Act.put, List.setIfInBounds_toArray, List.set_cons_zero, List.set_cons_succ]) | (apply seqP_take; (focus (simp only [List.getElem?_toArray, List.getElem?_cons_succ, List.getElem?_cons_zero]; rfl)); (focus rfl); (focus (intro w' hS; skip; first | (go_simp; rfl) | (go_simp; done))); simp only [Act.put, List.setIfInBounds_toArray, List.set_cons_zero, List.set_cons_succ]))
              apply seqP_eff
              (focus (simp only [List.getElem?_toArray, List.getElem?_cons_succ, List.getElem?_cons_zero]; rfl))
              (focus rfl)
              intro K hK
              go_simp
              refine hK _ _ ⟨trivial, ?_⟩
              clear hK K
              apply seqP_eff
              (focus (simp only [List.getElem?_toArray, List.getElem?_cons_succ, List.getElem?_cons_zero]; rfl))
              (focus rfl)
              intro K hK
              go_simp
              have hzb : IntKind.u8.wrap (x * 16 + y) = (z.toNat : Int) := by
                rw [IntKind.wrap_u8', hVal]; omega
              rw [hzb]
              refine (normal1_any z true g base out _ HA.out.drew (by omega)).mono ?_
              rintro e wN ⟨rfl, ha1, b1⟩
              have HA1 := Lib.hid ha1
              have hbb : Below base w wN := hbel.drew.trans b1
              refine hK _ _ ⟨trivial, ?_⟩
              clear hK K ha1 hzb
              have r1 : k + 3 ≤ s.size := by clear w1 w2 w3 t1 t2; omega
              have r2 : (out ++ Tar.esc z).length ≤ k + 3 := by clear w1 w2 w3 t1 t2; have := Tar.esc_len z; rw [List.length_append]; omega
              refine seqP_nil ?_
              go_wp2_with fail
              go_roundw
              case rel => exact ⟨k + 3, out ++ Tar.esc z, r1, r2, by go_num, by have := HA1.out; rw [Tar.sym_true] at this; exact this, hUU.out, hbb⟩
              case measure => clear w1 w2 w3 t1 t2; simp [intOf]; omega
      · have h37' : ((s[k].toNat : Int) == 37) = false := by simpa using h37
        have hc37 : Hid ((s[k] == 37) = false) := by
          show _ = _
          rw [beq_eq_false_iff_ne] at *
          intro e
          apply h37'
          rw [e]; rfl
        have hUU : Hid (Tar.normL (sl s) = (Tar.normL ((sl s).drop (k + 1))).map ((out ++ [s[k]]) ++ ·)) := by
          show _ = _
          rw [HU.out, hd.out, Tar.normL_plain hc37.out, Tar.map_snoc]
        clear h37
        go_wp2_with fail
        refine (normal1_any s[k] false g base out _ HA.out (by omega)).mono ?_
        rintro e w1 ⟨rfl, ha1, b1⟩
        have HA1 := Lib.hid ha1
        clear ha1
        go_wp2_with fail
        go_roundw
        case rel => exact ⟨k + 1, out ++ [s[k]], by omega, by simp; omega, by go_num, by have := HA1.out; rw [Tar.sym_false] at this; exact this, hUU.out, hbel.trans b1⟩
        case measure => simp [intOf]; omega
    · have hE : Hid (Tar.normL (sl s) = some out) := by
        show _ = _
        rw [HU.out, List.drop_eq_nil_of_le (by rw [sl_len]; omega)]
        simp [Tar.normL]
      go_wp2_with fail
      go_ret
      exact ⟨by unfold EachNAns; rw [hE.out]; exact ⟨rfl, HA.out⟩, hbel⟩
end Go.Proofs.YthocoplaehbncaaDoor
