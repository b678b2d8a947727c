import Derived.Test.YtgjfhgcjiglfkaaGreatDoorD11
import Derived.Test.YtgjfhgcjiglfkaaGreatDoorD1
import Derived.IntWalk
import Derived.Test.YtgjfhgcjiglfkaaGreatDoorD2
import Derived.Test.YtgjfhgcjiglfkaaGreatDoorD4
import Derived.Test.YtgjfhgcjiglfkaaGreatDoorD3
set_option linter.unusedVariables false
set_option linter.unusedSimpArgs false
namespace Go.Proofs.YtgjfhgcjiglfkaaGreatDoor
set_option maxRecDepth 20000
open Go.RowKit
namespace Tar
def symB (x : Bool) (c : UInt8) : List UInt8 := if x = true ∧ freeB c = false then esc3 c else [c]
theorem sym_false (c : UInt8) : symB false c = [c] := by unfold symB; rw [if_neg (by simp)]
theorem sym_true (c : UInt8) : symB true c = esc c := by
  unfold symB esc
  cases freeB c <;> simp
end Tar
set_option maxHeartbeats 3200000 in
theorem normal1_any (c : UInt8) (x : Bool) (g base : Nat) (l : List UInt8) (w : World) (h : Acc w base g l) (hl : l.length ≤ 1000000) :
    Calls Tryz.prog 83 #[.int .u8 c.toNat, .bool x, .pointer (some ⟨g, 0, none⟩)] w fun e w' => e = .returned (.tuple #[]) ∧ Acc w' base g (l ++ Tar.symB x c) ∧ Below base w w' := by
  obtain ⟨hbg, hbw, v, hk, ho, hne⟩ := h
  have c0 := hk.cell 0
  simp only [List.getElem?_toArray, List.getElem?_cons_zero] at c0
  have HK := Lib.hid hk
  have HO := Lib.hid ho
  have hlt : g < w.heap.size := hk.lt
  have f00 := hk.frozen 0
  have HF := Lib.hid (fun w => isFree_any c w)
  have HS : Hid (Tar.symB x c = if x = true ∧ Tar.freeB c = false then Tar.esc3 c else [c]) := rfl
  obtain ⟨A, cp, hv⟩ := ho.slice
  subst hv
  have plain : ∀ (w1 : World), True := fun _ => trivial
  clear hk ho plain
  by_cases hx : x = true ∧ Tar.freeB c = false
  · obtain ⟨rfl, hfr⟩ := hx
    rw [hfr] at HF HS
    have HS2 : Hid (Tar.symB true c = Tar.esc3 c) := by show _ = _; rw [HS.out, if_pos ⟨rfl, rfl⟩]
    clear HS hfr
    go_enter Tryz.func83, Tryz.ntmps83
    go_wp2_with fail
    refine (HF.out _).mono ?_
    rintro e w' ⟨rfl, rfl⟩
    go_wp2_with fail
    refine (escape_any _ c l base _ HO.out hbw (by omega)).mono ?_
    rintro e w2 ⟨⟨v2, rfl, ho2⟩, hg2⟩
    have hb2 : Blk w2 g 135 #[_] := HK.out.grown hg2 (fun e => hne e.symm)
    have f0 := hb2.frozen 0
    have d0 := hb2.cell 0
    simp only [List.getElem?_toArray, List.getElem?_cons_zero] at d0
    have HB2 := Lib.hid hb2
    have hne2 := ho2.ne_blk hb2 (by decide)
    have HO2 := Lib.hid ho2
    have bel : Below base w w2 := (Below.refl base w).grown hg2 hbw (fun k hk => (HO.out.lt k hk).1)
    obtain ⟨A', cp', hv'⟩ := ho2.slice
    subst hv'
    clear hb2 ho2
    go_wp2_with fail
    go_end0
    have e : (l ++ Tar.esc3 c).length = l.length + 3 := by simp [Tar.esc3]
    have HO3 := HO2.out
    rw [e] at HO3 hne2
    exact ⟨rfl, ⟨hbg, by simpa using Nat.le_trans hbw bel.size, _, HB2.out.set_ 0 _, by rw [HS2.out]; exact HO3.setFar _ _ hne2, hne2⟩, bel.setCell (p := ⟨g, 0, none⟩) hbg _⟩
  · have HS2 : Hid (Tar.symB x c = [c]) := by show _ = _; rw [HS.out, if_neg hx]
    have hfx : x = false ∨ (x = true ∧ Tar.freeB c = true) := by
      cases x
      · exact .inl rfl
      · cases hq : Tar.freeB c
        · exact absurd ⟨rfl, hq⟩ hx
        · exact .inr ⟨rfl, rfl⟩
    clear HS hx
    rcases hfx with rfl | ⟨rfl, hfr⟩
    focus
      go_enter Tryz.func83, Tryz.ntmps83
    rotate_left
    focus
      rw [hfr] at HF
      clear hfr
      go_enter Tryz.func83, Tryz.ntmps83
      go_wp2_with fail
      refine (HF.out _).mono ?_
      rintro e w' ⟨rfl, rfl⟩
    all_goals
      go_wp2_with (at_builtin; go_must (refine wpList_append_owns rfl (.tmp 14) (.tmp 16) _ rfl base 5 (.int .u8 0) 1 1 eb Tryz.underlying135 byteInfo rfl (by decide) _ l rfl (HO.out.alloc _) ⟨w.heap.size, 0, none⟩ 1 1 [c] rfl rfl rfl (new_cells _ [bv c] _) (eb_one [c]) (by simp only [maxLen]; omega) (by omega) (by simp; omega) ?_))
      intro v' w2 ho2 hg2
      have hb2 : Blk w2 g 135 #[_] := (HK.out.alloc (.cells #[.int .u8 c.toNat] 5)).grown hg2 (fun e => hne e.symm)
      have d0 := hb2.cell 0
      simp only [List.getElem?_toArray, List.getElem?_cons_zero] at d0
      have f0 := hb2.frozen 0
      have HB2 := Lib.hid hb2
      obtain ⟨A', cp', hv'⟩ := ho2.slice
      subst hv'
      have HO2 := Lib.hid ho2
      have hne2 := ho2.ne_blk hb2 (by decide)
      have bel : Below base w w2 := ((Below.refl base w).alloc hbw _).grown hg2 (by simp; omega) (fun k hk => (HO.out.lt k hk).1)
      clear hb2 ho2
      go_wp2_with fail
      go_end0
      have e : (l ++ [c]).length = l.length + 1 := by simp
      have HO3 := HO2.out
      rw [e] at HO3 hne2
      exact ⟨rfl, ⟨hbg, by simpa using Nat.le_trans hbw bel.size, _, HB2.out.set_ 0 _, by rw [HS2.out]; exact HO3.setFar _ _ hne2, hne2⟩, bel.setCell (p := ⟨g, 0, none⟩) hbg _⟩
def EachNAns (base g : Nat) (l : List UInt8) (e : Ending) (w' : World) : Prop :=
  match Tar.normL l with
  | some out => e = .returned (.bool true) ∧ Acc w' base g out
  | none => e = .returned (.bool false) ∧ ∃ out, Acc w' base g out
set_option maxHeartbeats 3200000 in
set_option maxRecDepth 10000 in
theorem eachN_any (s : ByteArray) (g base : Nat) (w : World) (h : Acc w base g []) (hs : s.size ≤ 1000) :
    Calls Tryz.prog 82 #[.string s, .func (.func 83) #[] #[.pointer (some ⟨g, 0, none⟩)]] w fun e w' => EachNAns base g (sl s) e w' ∧ Below base w w' := by
  have hbase := h.2.1
  have H0 := Lib.hid h
  clear h
  go_enter Tryz.func82, Tryz.ntmps82
  go_wp2_with fail
  go_loopw [5] (fun i wr => ∃ (k : Nat) (out : List UInt8), k ≤ s.size ∧ out.length ≤ k ∧ i = .int .i64 k ∧ Acc wr base g out ∧ Tar.normL (sl s) = (Tar.normL ((sl s).drop k)).map (out ++ ·) ∧ Below base w wr) (fun i _ => s.size - (intOf i).toNat)
  case atStart => exact ⟨0, [], by omega, by simp, rfl, H0.out, by simp, Below.refl _ _⟩
  case round =>
    obtain ⟨k, out, hk, ho, rfl, hacc, hun, hbel⟩ := hrel
    have HA := Lib.hid hacc
    have HU := Lib.hid hun
    clear hacc hun
    by_cases hlt : k < s.size
    · have hd : Hid ((sl s).drop k = s[k] :: (sl s).drop (k + 1)) := by
        show _ = _
        rw [List.drop_eq_getElem_cons (by rw [sl_len]; exact hlt), sl_getElem]
      by_cases h37 : ((s[k].toNat : Int) == 37) = true
      · have hc37 : Hid ((s[k] == 37) = true) := by
          show _ = _
          rw [beq_iff_eq] at *
          apply UInt8.toNat_inj.1
          have : (37 : UInt8).toNat = 37 := rfl
          omega
        by_cases hsh : s.size < k + 3
        · have hN : Hid (Tar.normL (sl s) = none) := by
            show _ = _
            rw [HU.out, hd.out, Tar.normL_short hc37.out (by rw [List.length_drop, sl_len]; omega)]; rfl
          have d0 : decide ((s.size : Int) < (k : Int) + 3) = true := by rw [decide_eq_true_eq]; omega
          go_wp2_with fail
          go_ret
          exact ⟨by unfold EachNAns; rw [hN.out]; exact ⟨rfl, _, HA.out⟩, hbel⟩
        · have d0 : decide ((s.size : Int) < (k : Int) + 3) = false := by rw [decide_eq_false_iff_not]; omega
          have i1 : (k : Int) + 1 < (s.size : Int) := by omega
          have i2 : (k : Int) + 2 < (s.size : Int) := by omega
          have hd2 : Hid ((sl s).drop (k + 1) = s[k + 1] :: s[k + 2] :: (sl s).drop (k + 3)) := by
            show _ = _
            rw [List.drop_eq_getElem_cons (by rw [sl_len]; omega), sl_getElem, List.drop_eq_getElem_cons (by rw [sl_len]; omega), sl_getElem]
          have x1 := Tar.digI_bd s[k + 1]
          have x2 := Tar.digI_bd s[k + 2]
          have hI1 := Lib.hid (digit_any s[k + 1])
          have hI2 := Lib.hid (digit_any s[k + 2])
          have hBV := Lib.hid (by16_val s[k + 1] s[k + 2])
          have hUB := Lib.hid (fun (h : Tar.digI s[k + 1] < 0 ∨ Tar.digI s[k + 2] < 0) => Tar.normL_bad (a := s[k + 1]) (b := s[k + 2]) (r := (sl s).drop (k + 3)) hc37.out h)
          have hUE := Lib.hid (fun (h : 0 ≤ Tar.digI s[k + 1]) (h' : 0 ≤ Tar.digI s[k + 2]) => Tar.normL_esc (a := s[k + 1]) (b := s[k + 2]) (r := (sl s).drop (k + 3)) hc37.out h h')
          go_wp2_with fail
          refine (hI1.out _).mono ?_
          rintro e w' ⟨rfl, rfl⟩
          by_cases ha : Tar.digI s[k + 1] < 0
          · have hN : Hid (Tar.normL (sl s) = none) := by
              show _ = _
              rw [HU.out, hd.out, hd2.out, hUB.out (.inl ha)]; rfl
            have d1 : decide (Tar.digI s[k + 1] < 0) = true := decide_eq_true ha
            go_wp2_with fail
            go_ret
            exact ⟨by unfold EachNAns; rw [hN.out]; exact ⟨rfl, _, HA.out⟩, hbel⟩
          · have d1 : decide (Tar.digI s[k + 1] < 0) = false := decide_eq_false ha
            go_wp2_with fail
            refine (hI2.out _).mono ?_
            rintro e w' ⟨rfl, rfl⟩
            by_cases hb : Tar.digI s[k + 2] < 0
            · have hN : Hid (Tar.normL (sl s) = none) := by
                show _ = _
                rw [HU.out, hd.out, hd2.out, hUB.out (.inr hb)]; rfl
              have d2 : decide (Tar.digI s[k + 2] < 0) = true := decide_eq_true hb
              go_wp2_with fail
              go_ret
              exact ⟨by unfold EachNAns; rw [hN.out]; exact ⟨rfl, _, HA.out⟩, hbel⟩
            · have d2 : decide (Tar.digI s[k + 2] < 0) = false := decide_eq_false hb
              have p1 : 0 ≤ Tar.digI s[k + 1] := by omega
              have p2 : 0 ≤ Tar.digI s[k + 2] := by omega
              have hUU : Hid (Tar.normL (sl s) = (Tar.normL ((sl s).drop (k + 3))).map ((out ++ Tar.esc (Tar.by16 s[k + 1] s[k + 2])) ++ ·)) := by
                show _ = _
                rw [HU.out, hd.out, hd2.out, hUE.out p1 p2, Tar.map_app]
              have hVal := hBV.out p1 p2
              have hor := i64_or16 (Tar.digI s[k + 1]) (Tar.digI s[k + 2]) p1 x1.2 p2 x2.2
              clear ha hb
              generalize Tar.by16 s[k + 1] s[k + 2] = z at hUU hVal
              generalize Tar.digI s[k + 1] = x at *
              generalize Tar.digI s[k + 2] = y at *
              go_wp2_with fail
              have w1 : IntKind.i64.wrap ((k : Int) + 1) = (k : Int) + 1 := IntWalk.i64_in _ (by omega)
              have w2 : IntKind.i64.wrap ((k : Int) + 2) = (k : Int) + 2 := IntWalk.i64_in _ (by omega)
              have n1 : 0 ≤ (k : Int) + 1 := by omega
              have n2 : 0 ≤ (k : Int) + 2 := by omega
              have t1 : ((k : Int) + 1).toNat = k + 1 := by omega
              have t2 : ((k : Int) + 2).toNat = k + 2 := by omega
              have w3 : IntKind.i64.wrap (x * 16) = x * 16 := IntWalk.i64_in _ (by omega)
              refine wp_region_plan (.take 0 (.take 1 (.take 2 (.take 3 (.take 4 (.take 7 (.take 8 (.take 9 (.take 10 (.eff 5 (.take 6 (.eff 11 (.take 12 (.eff 13 (.eff 14 .nil))))))))))))))) (fun _ => True) (by kernel_rfl) (by kernel_rfl) (fun _ _ _ _ _ h => h) (by kernel_rfl) (by kernel_rfl) trivial ?_
              iterate 9 (first | (apply seqP_skip; (focus (simp only [List.getElem?_toArray, List.getElem?_cons_succ, List.getElem?_cons_zero]; rfl)); (focus rfl); simp only [Act.put, List.setIfInBounds_toArray, List.set_cons_zero, List.set_cons_succ]) | (apply seqP_take; (focus (simp only [List.getElem?_toArray, List.getElem?_cons_succ, List.getElem?_cons_zero]; rfl)); (focus rfl); (focus (intro w' hS; skip; first | (go_simp; rfl) | (go_simp; done))); simp only [Act.put, List.setIfInBounds_toArray, List.set_cons_zero, List.set_cons_succ]))
              apply seqP_eff
              (focus (simp only [List.getElem?_toArray, List.getElem?_cons_succ, List.getElem?_cons_zero]; rfl))
              (focus rfl)
              intro K hK
              go_simp
              go_at_call 157
              refine (hI1.out _).mono ?_
              rintro e wN ⟨rfl, rfl⟩
              refine hK _ _ ⟨trivial, ?_⟩
              clear hK K
              iterate 1 (first | (apply seqP_skip; (focus (simp only [List.getElem?_toArray, List.getElem?_cons_succ, List.getElem?_cons_zero]; rfl)); (focus rfl); simp only [Act.put, List.setIfInBounds_toArray, List.set_cons_zero, List.set_cons_succ]) | (apply seqP_take; (focus (simp only [List.getElem?_toArray, List.getElem?_cons_succ, List.getElem?_cons_zero]; rfl)); (focus rfl); (focus (intro w' hS; skip; first | (go_simp; rfl) | (go_simp; done))); simp only [Act.put, List.setIfInBounds_toArray, List.set_cons_zero, List.set_cons_succ]))
              apply seqP_eff
              (focus (simp only [List.getElem?_toArray, List.getElem?_cons_succ, List.getElem?_cons_zero]; rfl))
              (focus rfl)
              intro K hK
              go_simp
              go_at_call 157
              refine (hI2.out _).mono ?_
              rintro e wN ⟨rfl, rfl⟩
              refine hK _ _ ⟨trivial, ?_⟩
              clear hK K
              iterate 1 (first | (apply seqP_skip; (focus (simp only [List.getElem?_toArray, List.getElem?_cons_succ, List.getElem?_cons_zero]; rfl)); (focus rfl); simp only [Act.put, List.setIfInBounds_toArray, List.set_cons_zero, List.set_cons_succ]) | (apply seqP_take; (focus (simp only [List.getElem?_toArray, List.getElem?_cons_succ, List.getElem?_cons_zero]; rfl)); (focus rfl); (focus (intro w' hS; skip; first | (go_simp; rfl) | (go_simp; done))); simp only [Act.put, List.setIfInBounds_toArray, List.set_cons_zero, List.set_cons_succ]))
              apply seqP_eff
              (focus (simp only [List.getElem?_toArray, List.getElem?_cons_succ, List.getElem?_cons_zero]; rfl))
              (focus rfl)
              intro K hK
              go_simp
              refine hK _ _ ⟨trivial, ?_⟩
              clear hK K
              apply seqP_eff
              (focus (simp only [List.getElem?_toArray, List.getElem?_cons_succ, List.getElem?_cons_zero]; rfl))
              (focus rfl)
              intro K hK
              go_simp
              have hzb : IntKind.u8.wrap (x * 16 + y) = (z.toNat : Int) := by
                rw [IntKind.wrap_u8', hVal]; omega
              rw [hzb]
              refine (normal1_any z true g base out _ HA.out.drew (by omega)).mono ?_
              rintro e wN ⟨rfl, ha1, b1⟩
              have HA1 := Lib.hid ha1
              have hbb : Below base w wN := hbel.drew.trans b1
              refine hK _ _ ⟨trivial, ?_⟩
              clear hK K ha1 hzb
              have r1 : k + 3 ≤ s.size := by clear w1 w2 w3 t1 t2; omega
              have r2 : (out ++ Tar.esc z).length ≤ k + 3 := by clear w1 w2 w3 t1 t2; have := Tar.esc_len z; rw [List.length_append]; omega
              refine seqP_nil ?_
              go_wp2_with fail
              go_roundw
              case rel => exact ⟨k + 3, out ++ Tar.esc z, r1, r2, by go_num, by have := HA1.out; rw [Tar.sym_true] at this; exact this, hUU.out, hbb⟩
              case measure => clear w1 w2 w3 t1 t2; simp [intOf]; omega
      · have h37' : ((s[k].toNat : Int) == 37) = false := by simpa using h37
        have hc37 : Hid ((s[k] == 37) = false) := by
          show _ = _
          rw [beq_eq_false_iff_ne] at *
          intro e
          apply h37'
          rw [e]; rfl
        have hUU : Hid (Tar.normL (sl s) = (Tar.normL ((sl s).drop (k + 1))).map ((out ++ [s[k]]) ++ ·)) := by
          show _ = _
          rw [HU.out, hd.out, Tar.normL_plain hc37.out, Tar.map_snoc]
        clear h37
        go_wp2_with fail
        refine (normal1_any s[k] false g base out _ HA.out (by omega)).mono ?_
        rintro e w1 ⟨rfl, ha1, b1⟩
        have HA1 := Lib.hid ha1
        clear ha1
        go_wp2_with fail
        go_roundw
        case rel => exact ⟨k + 1, out ++ [s[k]], by omega, by simp; omega, by go_num, by have := HA1.out; rw [Tar.sym_false] at this; exact this, hUU.out, hbel.trans b1⟩
        case measure => simp [intOf]; omega
    · have hE : Hid (Tar.normL (sl s) = some out) := by
        show _ = _
        rw [HU.out, List.drop_eq_nil_of_le (by rw [sl_len]; omega)]
        simp [Tar.normL]
      go_wp2_with fail
      go_ret
      exact ⟨by unfold EachNAns; rw [hE.out]; exact ⟨rfl, HA.out⟩, hbel⟩
set_option maxRecDepth 20000
theorem Owns.cut {α : Type} {w : World} {base : Nat} {e : TypeId} {size : Nat} {enc : α → List Value} {A : Option Addr} {n c : Nat} {xs : List α} (h : Owns w base e size enc (.slice A n c) xs) (hen : ∀ x, (enc x).length = size) (k : Nat) (hk : k ≤ xs.length) : Owns w base e size enc (.slice A k c) (xs.take k) := by
  have hl : (xs.take k).length = k := by simp; omega
  unfold Owns at *
  rw [hl]
  obtain ⟨h1, h2⟩ := h
  refine ⟨by rw [flat_len hen, hl], ?_⟩
  rcases h2 with ⟨hv, hn⟩ | ⟨g, cap, cur, hv, hb, hcur, hnc, hcm, hcs, htk⟩
  · left
    injection hv with e1 e2 e3
    subst e1 e3
    have : k = 0 := by omega
    subst this
    exact ⟨rfl, rfl⟩
  · right
    injection hv with e1 e2 e3
    subst e1 e3
    refine ⟨g, c, cur, rfl, hb, hcur, by omega, hcm, hcs, ?_⟩
    have e : xs.flatMap enc = (xs.take k).flatMap enc ++ (xs.drop k).flatMap enc := by rw [← List.flatMap_append, List.take_append_drop]
    have hlk : ((xs.take k).flatMap enc).length = k * size := by rw [flat_len hen, hl]
    rw [e] at htk
    have := congrArg (List.take (k * size)) htk
    rw [List.take_take, Nat.min_eq_left (Nat.mul_le_mul_right _ hk)] at this
    rw [this, List.take_left' hlk]
theorem es_len1 (s : ByteArray) : (es s).length = 1 := rfl
namespace Tar
theorem dotsF_two (out : List (List UInt8)) (r : List (List UInt8)) : dotsF out ([46, 46] :: r) = dotsF (out.dropLast ++ (if r.isEmpty then [[]] else [])) r := by
  rw [dotsF, if_pos rfl]
theorem dotsF_one (out : List (List UInt8)) (r : List (List UInt8)) : dotsF out ([46] :: r) = dotsF (out ++ (if r.isEmpty then [[]] else [])) r := by
  rw [dotsF, if_neg (by decide), if_pos rfl]
theorem dotsF_no (out : List (List UInt8)) (s : List UInt8) (r : List (List UInt8)) (h1 : s ≠ [46, 46]) (h2 : s ≠ [46]) : dotsF out (s :: r) = dotsF (out ++ [s]) r := by
  rw [dotsF, if_neg h1, if_neg h2]
theorem drop_is (l : List (List UInt8)) (k : Nat) (h : k < l.length) : (l.drop (k + 1)).isEmpty = decide (k + 1 = l.length) := by
  rw [Bool.eq_iff_iff, List.isEmpty_iff, decide_eq_true_iff, List.drop_eq_nil_iff]
  omega
theorem sg_sum : ∀ (l cur : List UInt8), (sg 47 cur l).length ≤ l.length + 1 ∧ ∀ p ∈ sg 47 cur l, p.length ≤ cur.length + l.length
  | [], cur => by
    refine ⟨by simp [sg], fun p hp => ?_⟩
    rw [show sg 47 cur [] = [cur] from rfl, List.mem_singleton] at hp
    subst hp; simp
  | x :: l, cur => by
    rw [sg_c]
    split
    · obtain ⟨h1, h2⟩ := sg_sum l []
      refine ⟨by simp only [List.length_cons]; omega, fun p hp => ?_⟩
      rcases List.mem_cons.1 hp with rfl | hp
      · simp only [List.length_cons]; omega
      · have := h2 p hp; simp only [List.length_nil, List.length_cons] at *; omega
    · obtain ⟨h1, h2⟩ := sg_sum l (cur ++ [x])
      refine ⟨by simp only [List.length_cons]; omega, fun p hp => ?_⟩
      have := h2 p hp; simp only [List.length_append, List.length_cons, List.length_nil] at *; omega
theorem join_map (xs : List (List UInt8)) : joinS (xs.map mkS) ⟨#[47]⟩ = mkS (Lib.join xs [47]) := by
  unfold joinS joinL
  rw [List.map_map]
  congr 2
  conv => rhs; rw [← List.map_id xs]
  exact List.map_congr_left (fun a _ => sl_mkS a)
theorem slash_cons (l : List UInt8) : (⟨#[47]⟩ : ByteArray) ++ mkS l = mkS (47 :: l) := by
  apply sl_inj; rw [sl_append, sl_mkS, sl_mkS]; rfl
end Tar
set_option maxHeartbeats 3200000 in
theorem dots_any (p : ByteArray) (pr : List UInt8) (w : World) (hp : sl p = 47 :: pr) (hs : p.size ≤ 200) (hm : (∃ m, w.cell? ⟨0, 0, none⟩ = some (.int .i64 m))) :
    Calls Tryz.prog 87 #[.string p] w fun e w' => e = .returned (.string (mkS (Tar.dotsP (sl p)))) ∧ Below w.heap.size w w' := by
  have hpl : pr.length + 1 = p.size := by have := congrArg List.length hp; rw [sl_len] at this; simp at this; omega
  obtain ⟨r, hr, hrz⟩ : ∃ r, p.extract 1 p.size = r ∧ r.size = p.size - 1 := ⟨_, rfl, by rw [ext_size _ _ _ (Nat.le_refl _)]⟩
  have hsr : sl r = pr := by rw [← hr, sl_extract_end, hp]; rfl
  have HSp := Lib.hid (split1_any r 47 w (by omega) hm)
  rw [hsr] at HSp
  have HR : Hid (Tar.dotsP (sl p) = 47 :: Lib.join (Tar.dotsF [] (sg 47 [] pr)) [47]) := by show _ = _; unfold Tar.dotsP; rw [hp]; rfl
  obtain ⟨hn1, hn2⟩ := Tar.sg_sum pr []
  have hne : sg 47 [] pr ≠ [] := sg_ne 47 pr []
  have hp1 : 1 ≤ p.size := by omega
  have htot := Tar.dots_tot List.length rfl (sg 47 [] pr) []
  rw [Tar.seg_tot] at htot
  have h0 : Tar.tot List.length [] = 0 := rfl
  have hdl : Hid ((Lib.join (Tar.dotsF [] (sg 47 [] pr)) [47]).length ≤ 200) := by
    show _ ≤ _
    rcases Tar.dots_ne (sg 47 [] pr) [] (.inl hne) with h | h
    · exact absurd h hne
    · have := Tar.join_tot 47 _ h; omega
  clear hm hsr htot h0 hp
  generalize Tar.dotsP (sl p) = D at *
  generalize hst : sg 47 [] pr = st at *
  clear hst
  have hns : st.length ≤ 200 := by omega
  have hps : ∀ s ∈ st, s.length ≤ 200 := fun s hs => by have := hn2 s hs; simp only [List.length_nil] at this; omega
  clear hn1 hn2 hpl
  go_enter Tryz.func87, Tryz.ntmps87
  go_wp2_with fail
  refine HSp.out.mono ?_
  rintro e w2 ⟨⟨v, rfl, hsl⟩, b2⟩
  have HSl := Lib.hid hsl
  have hlm : (st.map mkS).length = st.length := List.length_map ..
  obtain ⟨A, cp, rfl, -⟩ := hsl.form
  clear hsl HSp
  rw [hlm]
  go_wp2_with fail
  have H2 := Lib.hid (fun hn => HSl.out.texts hn)
  go_loopw [3, 12] (fun o i wr => ∃ (k : Nat) (out : List (List UInt8)), k ≤ st.length ∧ out.length ≤ 2 * k ∧ i = .int .i64 k ∧ Owns wr w2.heap.size 9 1 es o (out.map mkS) ∧ Tar.dotsF [] st = Tar.dotsF out (st.drop k) ∧ Below w2.heap.size w2 wr) (fun _ i _ => st.length - (intOf i).toNat)
  case atStart => exact ⟨0, [], by omega, by simp, rfl, Owns.nil _ _ _ _ _, by simp, Below.refl _ _⟩
  case round =>
    obtain ⟨k, out, hk, hol, rfl, hown, hrec, hbel⟩ := hrel
    have HO := Lib.hid hown
    have HRec := Lib.hid hrec
    have Br := belT b2 hbel
    have hlo : (out.map mkS).length = out.length := List.length_map ..
    obtain ⟨Ao, co, rfl⟩ := hown.slice
    rw [hlo] at HO ⊢
    have hco : out.length ≤ co := by
      obtain ⟨A', c', hv, hc, -⟩ := SlR.of_owns HO.out
      injection hv with _ _ h3
      omega
    clear hown hrec
    by_cases hlt : k < st.length
    · obtain ⟨b, off, c', he, _, hbb, hcell⟩ := H2.out (by omega)
      obtain ⟨rfl, rfl⟩ : A = some ⟨b, off, none⟩ ∧ cp = c' := by injection he with h1 h2 h3; exact ⟨h1, h3⟩
      have c0 := (hbel.cell (p := ⟨b, off + k, none⟩) hbb).trans (hcell k (by omega))
      simp only [List.getElem_map] at c0
      have hx := hps _ (List.getElem_mem hlt)
      have HD : Hid (st.drop k = st[k] :: st.drop (k + 1)) := List.drop_eq_getElem_cons hlt
      have HIs := Lib.hid (Tar.drop_is st k hlt)
      have HE2 : Hid (((mkS st[k]).toList == ([46, 46] : List UInt8)) = decide (st[k] = [46, 46])) := by show _ = _; rw [ba_toList, sl_mkS, Bool.eq_iff_iff, beq_iff_eq, decide_eq_true_iff]
      have HE1 : Hid (((mkS st[k]).toList == ([46] : List UInt8)) = decide (st[k] = [46])) := by show _ = _; rw [ba_toList, sl_mkS, Bool.eq_iff_iff, beq_iff_eq, decide_eq_true_iff]
      clear hcell he
      generalize hsk : st[k] = s at *
      clear hsk
      generalize hS : mkS s = S at *
      have HS := Lib.hid hS
      clear hS
      by_cases h2 : s = [46, 46]
      · have e2 : (S.toList == [46, 46]) = true := by rw [HE2.out, decide_eq_true h2]
        have HO2 := Lib.hid (HO.out.cut es_len1 (out.length - 1) (by rw [hlo]; omega))
        have hdl1 : (out.map mkS).take (out.length - 1) = out.dropLast.map mkS := by rw [List.dropLast_eq_take, List.map_take]
        rw [hdl1] at HO2
        have hmx : max (0 : Int) ((out.length : Int) - 1) = ((out.length - 1 : Nat) : Int) := by omega
        have hwr : IntKind.i64.wrap ((out.length : Int) - 1) = (out.length : Int) - 1 := IntWalk.i64_in _ (by omega)
        have hwl : IntKind.i64.wrap ((st.length : Int) - 1) = (st.length : Int) - 1 := IntWalk.i64_in _ (by omega)
        by_cases hlast : k + 1 = st.length
        · have dl : ((k : Int) == (st.length : Int) - 1) = true := by rw [beq_iff_eq]; omega
          have HRN : Hid (Tar.dotsF [] st = Tar.dotsF (out.dropLast ++ [[]]) (st.drop (k + 1))) := by
            show _ = _
            rw [HRec.out, HD.out, h2, Tar.dotsF_two, HIs.out, decide_eq_true hlast]; rfl
          clear h2 hps
          go_wp2_with (at_builtin; go_must (refine wpList_append_owns rfl (.tmp 37) (.tmp 38) _ rfl w2.heap.size 9 (.string ByteArray.empty) 1 16 es Tryz.underlying69 stringInfo rfl (by decide) _ (out.dropLast.map mkS) rfl (HO2.out.alloc _) ⟨wr.heap.size, 0, none⟩ 1 1 [ByteArray.empty] rfl rfl rfl (new_cells _ [.string (ByteArray.empty)] _) (es_one _) (by rw [List.length_map, List.length_dropLast]; simp only [maxLen]; omega) (by rw [List.length_map, List.length_dropLast]; omega) (by have := hbel.size; simp; omega) ?_); intro v' w3 ho3 hg3)
          go_roundw
          case rel => exact ⟨k + 1, out.dropLast ++ [[]], by omega, by rw [List.length_append, List.length_dropLast]; simp only [List.length_cons, List.length_nil]; omega, by go_num, by rw [List.map_append]; exact ho3, HRN.out, bel_append hbel (Nat.le_refl _) HO2.out hg3⟩
          case measure => simp [intOf]; omega
        · have dl : ((k : Int) == (st.length : Int) - 1) = false := by rw [beq_eq_false_iff_ne]; omega
          have HRN : Hid (Tar.dotsF [] st = Tar.dotsF out.dropLast (st.drop (k + 1))) := by
            show _ = _
            rw [HRec.out, HD.out, h2, Tar.dotsF_two, HIs.out, decide_eq_false hlast, if_neg (by simp), List.append_nil]
          clear h2 hps
          go_wp2_with fail
          go_roundw
          case rel => exact ⟨k + 1, out.dropLast, by omega, by rw [List.length_dropLast]; omega, by go_num, HO2.out, HRN.out, hbel⟩
          case measure => simp [intOf]; omega
      · have e2 : (S.toList == [46, 46]) = false := by rw [HE2.out, decide_eq_false h2]
        have hwl : IntKind.i64.wrap ((st.length : Int) - 1) = (st.length : Int) - 1 := IntWalk.i64_in _ (by omega)
        by_cases h1 : s = [46]
        · have e1 : (S.toList == [46]) = true := by rw [HE1.out, decide_eq_true h1]
          by_cases hlast : k + 1 = st.length
          · have dl : ((k : Int) == (st.length : Int) - 1) = true := by rw [beq_iff_eq]; omega
            have HRN : Hid (Tar.dotsF [] st = Tar.dotsF (out ++ [[]]) (st.drop (k + 1))) := by
              show _ = _
              rw [HRec.out, HD.out, h1, Tar.dotsF_one, HIs.out, decide_eq_true hlast]; rfl
            clear h2 h1 hps
            go_wp2_with (at_builtin; go_must (refine wpList_append_owns rfl (.tmp 37) (.tmp 38) _ rfl w2.heap.size 9 (.string ByteArray.empty) 1 16 es Tryz.underlying69 stringInfo rfl (by decide) _ (out.map mkS) rfl (HO.out.alloc _) ⟨wr.heap.size, 0, none⟩ 1 1 [ByteArray.empty] rfl rfl rfl (new_cells _ [.string (ByteArray.empty)] _) (es_one _) (by rw [List.length_map]; simp only [maxLen]; omega) (by rw [List.length_map]; omega) (by have := hbel.size; simp; omega) ?_); intro v' w3 ho3 hg3)
            go_roundw
            case rel => exact ⟨k + 1, out ++ [[]], by omega, by rw [List.length_append]; simp only [List.length_cons, List.length_nil]; omega, by go_num, by rw [List.map_append]; exact ho3, HRN.out, bel_append hbel (Nat.le_refl _) HO.out hg3⟩
            case measure => simp [intOf]; omega
          · have dl : ((k : Int) == (st.length : Int) - 1) = false := by rw [beq_eq_false_iff_ne]; omega
            have HRN : Hid (Tar.dotsF [] st = Tar.dotsF out (st.drop (k + 1))) := by
              show _ = _
              rw [HRec.out, HD.out, h1, Tar.dotsF_one, HIs.out, decide_eq_false hlast, if_neg (by simp), List.append_nil]
            clear h2 h1 hps
            go_wp2_with fail
            go_roundw
            case rel => exact ⟨k + 1, out, by omega, by omega, by go_num, HO.out, HRN.out, hbel⟩
            case measure => simp [intOf]; omega
        · have e1 : (S.toList == [46]) = false := by rw [HE1.out, decide_eq_false h1]
          have HRN : Hid (Tar.dotsF [] st = Tar.dotsF (out ++ [s]) (st.drop (k + 1))) := by
            show _ = _
            rw [HRec.out, HD.out, Tar.dotsF_no _ _ _ h2 h1]
          clear h2 h1 hps
          go_wp2_with (at_builtin; go_must (refine wpList_append_owns rfl (.tmp 18) (.tmp 20) _ rfl w2.heap.size 9 (.string ByteArray.empty) 1 16 es Tryz.underlying69 stringInfo rfl (by decide) _ (out.map mkS) rfl (HO.out.alloc _) ⟨wr.heap.size, 0, none⟩ 1 1 [S] rfl rfl rfl (new_cells _ [.string (S)] _) (es_one _) (by rw [List.length_map]; simp only [maxLen]; omega) (by rw [List.length_map]; omega) (by have := hbel.size; simp; omega) ?_); intro v' w3 ho3 hg3)
          go_roundw
          case rel => exact ⟨k + 1, out ++ [s], by omega, by rw [List.length_append]; simp only [List.length_cons, List.length_nil]; omega, by go_num, by rw [List.map_append, List.map_cons, List.map_nil, HS.out]; exact ho3, HRN.out, bel_append hbel (Nat.le_refl _) HO.out hg3⟩
          case measure => simp [intOf]; omega
    · obtain rfl : k = st.length := by omega
      have HF : Hid (Tar.dotsF [] st = out) := by
        show _ = _
        rw [HRec.out, List.drop_length]; rfl
      have HRs := Lib.hid (SlR.of_owns HO.out)
      have hjl : (joinL (out.map mkS) ⟨#[47]⟩).length ≤ 140737488351232 := by
        have := congrArg ByteArray.size (Tar.join_map out)
        unfold joinS at this
        rw [mkS_size, mkS_size] at this
        rw [this, ← HF.out]
        exact Nat.le_trans hdl.out (by decide)
      have HJ := Lib.hid (join_any _ (out.map mkS) ⟨#[47]⟩ wr HRs.out (by rw [hlo]; omega) hjl)
      rw [Tar.join_map] at HJ
      have hjz : (mkS (Lib.join out [47])).size ≤ 200 := by rw [mkS_size, ← HF.out]; exact hdl.out
      have HCat := Lib.hid (Tar.slash_cons (Lib.join out [47]))
      have HRR : Hid (D = 47 :: Lib.join out [47]) := by show _ = _; rw [HR.out, HF.out]
      clear hjl
      generalize hJ : mkS (Lib.join out [47]) = J at *
      clear hJ
      go_wp2_with fail
      refine HJ.out.mono ?_
      rintro e w3 ⟨rfl, b3⟩
      have B3 := belT Br b3
      go_wp2_with fail
      go_ret
      exact ⟨ret_str (by rw [HCat.out, HRR.out]), B3⟩
set_option maxRecDepth 20000
namespace Tar
def NormAns (l : List UInt8) (e : Ending) : Prop :=
  match normalF l with
  | .error c => e = .returned (.tuple #[.string ByteArray.empty, .int .i64 c])
  | .ok t => e = .returned (.tuple #[.string (mkS t), .int .i64 0])
theorem ans_err {l : List UInt8} {c : Int} {e : Ending} (h : normalF l = .error c) (he : e = .returned (.tuple #[.string ByteArray.empty, .int .i64 c])) : NormAns l e := by unfold NormAns; rw [h]; exact he
theorem ans_ok {l t : List UInt8} {e : Ending} (h : normalF l = .ok t) (he : e = .returned (.tuple #[.string (mkS t), .int .i64 0])) : NormAns l e := by unfold NormAns; rw [h]; exact he
theorem good_iff (c : UInt8) : goodB c = (decide (33 ≤ (c.toNat : Int)) && decide ((c.toNat : Int) ≤ 126) && !((c.toNat : Int) == 35)) := by
  unfold goodB
  have e : ((c.toNat : Int) == 35) = (c == 35) := u8_beq c 35
  rw [e]
  congr 1
  rw [Bool.eq_iff_iff]
  simp only [Bool.and_eq_true, decide_eq_true_eq, u8_le]
  exact Iff.rfl
end Tar
open Tar in
set_option maxHeartbeats 6400000 in
theorem normal_any (s : ByteArray) (w : World) (hs : s.size ≤ 281474976710656) (hmx : (∃ m, w.cell? ⟨0, 0, none⟩ = some (.int .i64 m))) (hmg : 0 < w.heap.size) :
    Calls Tryz.prog 47 #[.string s] w fun e w' => NormAns (sl s) e ∧ Below w.heap.size w w' := by
  have HM := Lib.hid (fun w' (hb : Below w.heap.size w w') => show (∃ m, w'.cell? ⟨0, 0, none⟩ = some (.int .i64 m)) from hmx.elim fun m hm => ⟨m, (hb.cell hmg).trans hm⟩)
  clear hmx hmg
  by_cases h200 : 200 < s.size
  · have HF : Hid (normalF (sl s) = .error 2) := by show _ = _; unfold normalF; rw [if_pos (by rw [sl_len]; exact h200)]
    go_enter Tryz.func47, Tryz.ntmps47
    go_wp2_with fail
    go_ret2
    exact ⟨ans_err HF.out rfl, Below.refl _ _⟩
  · by_cases h0 : s.size = 0
    · have HF : Hid (normalF (sl s) = .error 3) := by
        show _ = _
        rw [empty_of_size s h0]; rfl
      have he : s.toList.isEmpty = true := by rw [ba_toList, empty_of_size s h0]; rfl
      have he2 : (s.toList == []) = true := by rw [ba_toList, empty_of_size s h0]; rfl
      go_enter Tryz.func47, Tryz.ntmps47
      go_wp2_with fail
      go_ret2
      exact ⟨ans_err HF.out rfl, Below.refl _ _⟩
    · have hpos : 0 < s.size := by omega
      have he : s.toList.isEmpty = false := isEmpty_no s hpos
      have HC := Lib.hid (sl_cons s hpos)
      by_cases h47 : s[0] = 47
      · have hne : ((s[0].toNat : Int) != 47) = false := by rw [h47]; rfl
        have HF : Hid (normalF (sl s) = match normL (sl s) with
            | none => .error 3
            | some b => if (sl s).all goodB = true then .ok (dotsP (cutQ b).1 ++ (cutQ b).2) else .error 3) := by
          show _ = _
          unfold normalF
          rw [if_neg (by rw [sl_len]; omega), if_neg (by rw [HC.out, h47]; simp)]
          all_goals rfl
        have hhd : Hid (∃ r, sl s = 47 :: r) := ⟨_, by rw [HC.out, h47]⟩
        clear h47 HC
        have hA : Acc (w.alloc (.cells #[.slice none 0 0] 135)) w.heap.size w.heap.size [] := ⟨Nat.le_refl _, by simp, _, Blk.new w _ _, Owns.nil .., by simp [Value.ownBlock]⟩
        have HE := Lib.hid (eachN_any s w.heap.size w.heap.size _ hA (by omega))
        clear hA
        go_enter Tryz.func47, Tryz.ntmps47
        go_wp2_with fail
        refine HE.out.mono ?_
        rintro e w1 ⟨hans, b1⟩
        have bb : Below w.heap.size w w1 := ((Below.refl _ _).alloc (Nat.le_refl _) _).trans b1
        clear HE b1
        have hcase : ∃ g0 : Bool, e = .returned (.bool g0) ∧ ((g0 = false ∧ normL (sl s) = none) ∨ (g0 = true ∧ ∃ b, normL (sl s) = some b ∧ Acc w1 w.heap.size w.heap.size b)) := by
          unfold EachNAns at hans
          cases hn : normL (sl s) with
          | none => rw [hn] at hans; exact ⟨false, hans.1, .inl ⟨rfl, rfl⟩⟩
          | some b => rw [hn] at hans; exact ⟨true, hans.1, .inr ⟨rfl, b, rfl, hans.2⟩⟩
        obtain ⟨g0, rfl, hg0⟩ := hcase
        have HG0 := Lib.hid hg0
        clear hans hg0
        go_wp2_with fail
        go_loopw [5, 25] (fun g i wr => ∃ k : Nat, k ≤ s.size ∧ i = .int .i64 k ∧ g = .bool (g0 && ((sl s).take k).all goodB) ∧ wr = w1) (fun _ i _ => s.size - (intOf i).toNat)
        case atStart => exact ⟨0, by omega, rfl, by simp, rfl⟩
        case round =>
          obtain ⟨k, hk, rfl, rfl, rfl⟩ := hrel
          by_cases hlt : k < s.size
          · have HS : Hid ((g0 && ((sl s).take (k + 1)).all goodB) = ((g0 && ((sl s).take k).all goodB) && goodB s[k])) := by
              show _ = _
              rw [List.take_add_one, sl_getElem? s k hlt, List.all_append]; simp [Bool.and_assoc]
            have HD := Lib.hid (good_iff s[k])
            generalize hgk : (g0 && ((sl s).take k).all goodB) = gk at *
            clear hgk
            have hu := s[k].toNat_lt
            generalize goodB s[k] = gb at *
            generalize hb0 : s[k].toNat = bt at *
            cases gk
            · go_wp2_with fail
              go_roundw
              case rel => exact ⟨k + 1, by omega, by go_num, by rw [HS.out]; rfl, (by trivial)⟩
              case measure => simp [intOf]; omega
            · by_cases hc1 : 33 ≤ (bt : Int)
              · by_cases hc2 : (bt : Int) ≤ 126
                · cases hc3 : ((bt : Int) == 35)
                  · have hc3' : ((bt : Int) != 35) = true := by rw [bne, hc3]; rfl
                    have HD2 : Hid (gb = true) := by show _ = _; rw [HD.out, decide_eq_true hc1, decide_eq_true hc2, hc3]; rfl
                    clear hc3
                    go_wp2_with fail
                    go_roundw
                    case rel => exact ⟨k + 1, by omega, by go_num, by rw [HS.out, HD2.out]; rfl, (by trivial)⟩
                    case measure => simp [intOf]; omega
                  · have hc3' : ((bt : Int) != 35) = false := by rw [bne, hc3]; rfl
                    have HD2 : Hid (gb = false) := by show _ = _; rw [HD.out, hc3]; simp
                    clear hc3
                    go_wp2_with fail
                    go_roundw
                    case rel => exact ⟨k + 1, by omega, by go_num, by rw [HS.out, HD2.out]; rfl, (by trivial)⟩
                    case measure => simp [intOf]; omega
                · have HD2 : Hid (gb = false) := by show _ = _; rw [HD.out, decide_eq_false hc2]; simp
                  go_wp2_with fail
                  go_roundw
                  case rel => exact ⟨k + 1, by omega, by go_num, by rw [HS.out, HD2.out]; rfl, (by trivial)⟩
                  case measure => simp [intOf]; omega
              · have HD2 : Hid (gb = false) := by show _ = _; rw [HD.out, decide_eq_false hc1]; simp
                go_wp2_with fail
                go_roundw
                case rel => exact ⟨k + 1, by omega, by go_num, by rw [HS.out, HD2.out]; rfl, (by trivial)⟩
                case measure => simp [intOf]; omega
          · obtain rfl : k = s.size := by omega
            have hE : (sl s).take s.size = sl s := List.take_of_length_le (by rw [sl_len]; exact Nat.le_refl _)
            rw [hE]
            clear hE
            rcases HG0.out with ⟨rfl, hn⟩ | ⟨rfl, b, hn, hacc⟩
            · have HF2 : Hid (normalF (sl s) = .error 3) := by show _ = _; rw [HF.out, hn]
              clear HF hn HG0
              go_wp2_with fail
              go_ret2
              exact ⟨ans_err HF2.out rfl, bb⟩
            · rw [Bool.true_and]
              cases hga : (sl s).all goodB
              · have HF2 : Hid (normalF (sl s) = .error 3) := by show _ = _; rw [HF.out, hn]; dsimp only; rw [hga, if_neg (by simp)]
                clear HF hn HG0 hga hacc
                go_wp2_with fail
                go_ret2
                exact ⟨ans_err HF2.out rfl, bb⟩
              · have HF2 : Hid (normalF (sl s) = .ok (dotsP (cutQ b).1 ++ (cutQ b).2)) := by show _ = _; rw [HF.out, hn]; dsimp only; rw [hga, if_pos rfl]
                have hbl : b.length ≤ 200 := by have := norm_len hn; rw [sl_len] at this; omega
                have hb47 : Hid (∃ rb, b = 47 :: rb) := by
                  obtain ⟨r, hr⟩ := hhd.out
                  rw [hr] at hn
                  obtain ⟨a, z, ha, hz, he⟩ := norm_at (x := []) s47.1 s47.2.1 hn
                  injection ha with ha
                  exact ⟨z, by rw [he, ← ha]; rfl⟩
                obtain ⟨-, -, v, hk2, ho, -⟩ := hacc
                clear HF hn HG0 hga hhd
                have c0 := hk2.cell 0
                simp only [List.getElem?_toArray, List.getElem?_cons_zero] at c0
                have hrs := run_string_own (dst := 9) Tryz.underlying135 Tryz.underlying5 Tryz.underlying9 (by rw [← eb_map]; exact ho)
                obtain ⟨A2, c2, hv⟩ := ho.slice
                subst hv
                clear hk2 ho
                have hbz : (mkS b).size ≤ 200 := by rw [mkS_size]; exact hbl
                have HCut := Lib.hid (fun w => cut_one (mkS b) 63 w (by omega))
                unfold CutOne at HCut
                rw [sl_mkS] at HCut
                go_wp2_with fail
                refine (HCut.out _).mono ?_
                rintro e w2 ⟨hcut, b2⟩
                have B2 := belT bb b2
                clear HCut
                rcases hcut with ⟨p, q, hpq, hp63, rfl⟩ | ⟨hno, rfl⟩
                · obtain ⟨pr, hpr⟩ : ∃ pr, p = 47 :: pr := by
                    obtain ⟨rb, hrb⟩ := hb47.out
                    cases p with
                    | nil => rw [List.nil_append, hrb] at hpq; injection hpq with h1 _; exact absurd h1 (by decide)
                    | cons x pr => rw [List.cons_append, hrb] at hpq; injection hpq with h1 _; exact ⟨pr, by rw [← h1]⟩
                  have HR : Hid (normalF (sl s) = .ok (dotsP p ++ 63 :: q)) := by
                    show _ = _
                    rw [HF2.out]; unfold cutQ; rw [cutC_some hpq hp63]
                  have hlen := congrArg List.length hpq
                  simp only [List.length_append, List.length_cons] at hlen
                  have HDo := Lib.hid (fun w' hb => dots_any (mkS p) pr w' (by rw [sl_mkS, hpr]) (by rw [mkS_size]; omega) (HM.out w' hb))
                  rw [sl_mkS] at HDo
                  have hdz : (mkS (dotsP p)).size ≤ 200 := by
                    rw [mkS_size]
                    have h1 := dots_tot List.length rfl (sg 47 [] pr) []
                    rw [seg_tot] at h1
                    have h4 : tot List.length [] = 0 := rfl
                    rcases dots_ne (sg 47 [] pr) [] (.inl (sg_ne 47 pr [])) with h | h
                    · exact absurd h (sg_ne 47 pr [])
                    · have h3 := join_tot 47 _ h
                      unfold dotsP
                      rw [hpr]
                      show (47 :: Lib.join (dotsF [] (sg 47 [] pr)) [47]).length ≤ 200
                      rw [hpr] at hlen
                      simp only [List.length_cons] at hlen ⊢; omega
                  have hqz : (mkS q).size ≤ 200 := by rw [mkS_size]; omega
                  have hq1 : (⟨#[63]⟩ : ByteArray) ++ mkS q = mkS (63 :: q) := by apply sl_inj; rw [sl_append, sl_mkS, sl_mkS]; rfl
                  have hq2 : (mkS (63 :: q)).size ≤ 201 := by rw [mkS_size, List.length_cons]; rw [mkS_size] at hqz; omega
                  have hq3 : mkS (dotsP p) ++ mkS (63 :: q) = mkS (dotsP p ++ 63 :: q) := by apply sl_inj; rw [sl_append, sl_mkS, sl_mkS, sl_mkS]
                  clear HF2 hpq hp63 hpr hlen hb47
                  have HZ := Lib.hid hq3
                  clear hq3
                  generalize mkS (dotsP p) = DD at *
                  generalize mkS (63 :: q) = QQ at *
                  generalize mkS q = Q0 at *
                  generalize mkS p = P0 at *
                  generalize mkS b = B0 at *
                  go_wp2_with fail
                  refine (HDo.out _ B2).mono ?_
                  rintro e w3 ⟨rfl, b3⟩
                  have B3 := belT B2 b3
                  go_wp2_with fail
                  go_ret2
                  exact ⟨ans_ok HR.out (by rw [← HZ.out]; rfl), B3⟩
                · have HR : Hid (normalF (sl s) = .ok (dotsP b ++ [])) := by
                    show _ = _
                    rw [HF2.out]; unfold cutQ; rw [cutC_none hno]
                  rw [List.append_nil] at HR
                  obtain ⟨pr, hpr⟩ := hb47.out
                  have HDo := Lib.hid (fun w' hb => dots_any (mkS b) pr w' (by rw [sl_mkS, hpr]) (by rw [mkS_size]; omega) (HM.out w' hb))
                  rw [sl_mkS] at HDo
                  have hdz : (mkS (dotsP b)).size ≤ 200 := by
                    rw [mkS_size]
                    have h1 := dots_tot List.length rfl (sg 47 [] pr) []
                    rw [seg_tot] at h1
                    have h4 : tot List.length [] = 0 := rfl
                    rcases dots_ne (sg 47 [] pr) [] (.inl (sg_ne 47 pr [])) with h | h
                    · exact absurd h (sg_ne 47 pr [])
                    · have h3 := join_tot 47 _ h
                      unfold dotsP
                      rw [hpr]
                      show (47 :: Lib.join (dotsF [] (sg 47 [] pr)) [47]).length ≤ 200
                      rw [hpr] at hbl
                      simp only [List.length_cons] at hbl ⊢; omega
                  clear HF2 hno hpr hb47
                  generalize hDD : mkS (dotsP b) = DD at *
                  have HDD := Lib.hid hDD
                  clear hDD
                  generalize mkS b = B0 at *
                  go_wp2_with fail
                  refine (HDo.out _ B2).mono ?_
                  rintro e w3 ⟨rfl, b3⟩
                  have B3 := belT B2 b3
                  go_wp2_with fail
                  go_ret2
                  exact ⟨ans_ok HR.out (by rw [HDD.out]; first | rfl | simp), B3⟩
      · have hne : ((s[0].toNat : Int) != 47) = true := by
          rw [bne_iff_ne]; intro e; apply h47; apply UInt8.toNat_inj.1
          have : (47 : UInt8).toNat = 47 := rfl
          omega
        have HF : Hid (normalF (sl s) = .error 3) := by
          show _ = _
          unfold normalF
          rw [if_neg (by rw [sl_len]; omega), if_pos (by rw [HC.out]; simp; exact h47)]
        clear h47 HC
        go_enter Tryz.func47, Tryz.ntmps47
        go_wp2_with fail
        go_ret2
        exact ⟨ans_err HF.out rfl, Below.refl _ _⟩
end Go.Proofs.YtgjfhgcjiglfkaaGreatDoor
namespace Go.Proofs.YtgjfhgcjiglfkaaGreatDoor
set_option maxRecDepth 20000
open Go.RowKit Go.Shelf
namespace Ca
open Bk
def normE (t : ByteArray) : Int := match Tar.normalF (sl t) with | .error c => c | .ok _ => 0
def normK (t : ByteArray) : ByteArray := match Tar.normalF (sl t) with | .error _ => ByteArray.empty | .ok k => mkS k
end Ca
end Go.Proofs.YtgjfhgcjiglfkaaGreatDoor
namespace Go.Proofs.YtgjfhgcjiglfkaaGreatDoor
set_option maxRecDepth 20000
open Go.RowKit
namespace Dt
def numI (l : List UInt8) : Int := match num l 0 with | some k => (k : Int) | none => -1
theorem num_bound : ∀ (l : List UInt8) (n k : Nat), num l n = some k → k + 1 ≤ (n + 1) * 10 ^ l.length
  | [], n, k, h => by unfold num at h; injection h with h; subst h; simp
  | c :: l, n, k, h => by
    unfold num at h
    split at h
    · rename_i hc
      have ih := num_bound l _ k h
      have h57 : c.toNat ≤ 57 := hc.2
      rw [List.length_cons, Nat.pow_succ]
      refine Nat.le_trans ih ?_
      have : 10 * n + (c.toNat - 48) + 1 ≤ (n + 1) * 10 := by omega
      calc (10 * n + (c.toNat - 48) + 1) * 10 ^ l.length ≤ ((n + 1) * 10) * 10 ^ l.length := Nat.mul_le_mul_right _ this
        _ = (n + 1) * (10 ^ l.length * 10) := by rw [Nat.mul_assoc, Nat.mul_comm 10]
    · cases h
theorem numI_bound (l : List UInt8) (h : l.length ≤ 4) : -1 ≤ numI l ∧ numI l ≤ 9999 := by
  unfold numI
  cases hn : num l 0 with
  | none => simp
  | some k =>
    have := num_bound l 0 k hn
    have hp : 10 ^ l.length ≤ 10 ^ 4 := Nat.pow_le_pow_right (by omega) h
    simp only
    omega
theorem numI_bound2 (l : List UInt8) (h : l.length ≤ 2) : -1 ≤ numI l ∧ numI l ≤ 99 := by
  unfold numI
  cases hn : num l 0 with
  | none => simp
  | some k =>
    have := num_bound l 0 k hn
    have hp : 10 ^ l.length ≤ 10 ^ 2 := Nat.pow_le_pow_right (by omega) h
    simp only
    omega
end Dt
set_option maxHeartbeats 800000 in
theorem number_any (s : ByteArray) (w : World) (hs : s.size ≤ 4) :
    Calls Tryz.prog 118 #[.string s] w fun e w' => e = .returned (.int .i64 (Dt.numI (sl s))) ∧ w = w' := by
  go_enter Tryz.func118, Tryz.ntmps118
  go_wp2_with fail
  go_loop [3, 7] (fun n i => ∃ (j k : Nat), j ≤ s.size ∧ i = .int .i64 j ∧ n = .int .i64 k ∧ k < 10 ^ j ∧ Dt.num (sl s) 0 = Dt.num ((sl s).drop j) k) (fun _ i => s.size - (intOf i).toNat)
  case atStart => exact ⟨0, 0, by omega, rfl, rfl, by simp, rfl⟩
  case round =>
    obtain ⟨j, k, hj, rfl, rfl, hk, hn⟩ := hrel
    have HN := Lib.hid hn
    have hp : 10 ^ j ≤ 10 ^ 4 := Nat.pow_le_pow_right (by omega) (by omega)
    have hk4 : k < 10000 := by omega
    clear hn
    by_cases hlt : j < s.size
    · have hc := sl_getElem? s j hlt
      have hd : (sl s).drop j = s[j] :: (sl s).drop (j + 1) := by
        rw [List.drop_eq_getElem_cons (by rw [sl_len]; exact hlt), sl_getElem s j hlt]
      have HD := Lib.hid hd
      have hj1 : (j : Int) < (s.size : Int) := by omega
      clear hc hd
      obtain ⟨c, hc⟩ : ∃ c, s[j] = c := ⟨_, rfl⟩
      rw [hc] at HD
      have hcl := c.toNat_lt
      by_cases hdig : 48 ≤ c ∧ c ≤ 57
      · have h48 : 48 ≤ c.toNat := hdig.1
        have h57 : c.toNat ≤ 57 := hdig.2
        have HS : Hid (Dt.num (sl s) 0 = Dt.num ((sl s).drop (j + 1)) (10 * k + (c.toNat - 48))) := by
          show _ = _
          rw [HN.out, HD.out]
          show (if _ then _ else _) = _
          rw [if_pos hdig]
        have hpk : 10 * k + (c.toNat - 48) < 10 ^ (j + 1) := by rw [Nat.pow_succ]; omega
        have HPK := Lib.hid hpk
        have d1 : decide ((c.toNat : Int) < 48) = false := decide_eq_false (by omega)
        have d2 : decide ((57 : Int) < (c.toNat : Int)) = false := decide_eq_false (by omega)
        have d1' : decide (c.toNat < 48) = false := decide_eq_false (by omega)
        have d2' : decide (57 < c.toNat) = false := decide_eq_false (by omega)
        clear hdig hpk hp hk
        go_wp2_with fail
        go_round
        case rel => exact ⟨j + 1, 10 * k + (c.toNat - 48), by omega, by go_num, by go_num, HPK.out, HS.out⟩
        case measure => simp [intOf]; omega
      · have HS : Hid (Dt.numI (sl s) = -1) := by
          show _ = _
          unfold Dt.numI
          rw [HN.out, HD.out]
          have : Dt.num (c :: (sl s).drop (j + 1)) k = none := by
            show (if _ then _ else _) = _
            rw [if_neg hdig]
          rw [this]
        have hor : c.toNat < 48 ∨ 57 < c.toNat := by
          rcases Nat.lt_or_ge c.toNat 48 with h | h
          · exact .inl h
          · rcases Nat.lt_or_ge 57 c.toNat with h2 | h2
            · exact .inr h2
            · exact absurd ⟨h, h2⟩ hdig
        clear hdig hp hk
        rcases hor with h | h
        · have d1 : decide (c.toNat < 48) = true := decide_eq_true h
          go_wp2_with fail
          go_ret
          exact ⟨ret_int HS.out.symm, rfl⟩
        · have d1 : decide (c.toNat < 48) = false := decide_eq_false (by omega)
          have d2 : decide (57 < c.toNat) = true := decide_eq_true h
          go_wp2_with fail
          go_ret
          exact ⟨ret_int HS.out.symm, rfl⟩
    · have HS : Hid (Dt.numI (sl s) = (k : Int)) := by
        show _ = _
        unfold Dt.numI
        rw [HN.out, List.drop_of_length_le (by rw [sl_len]; omega)]
        rfl
      clear hp hk
      go_wp2_with fail
      go_ret
      exact ⟨ret_int HS.out.symm, rfl⟩
end Go.Proofs.YtgjfhgcjiglfkaaGreatDoor
