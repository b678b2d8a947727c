/- What target's Unescape computes; TargetBack: the law's walk. -/
import Derived.Test.YthocoplaehbncaaDoorTargetA
import Derived.IntWalk
import Derived.Test.YthocoplaehbncaaDoorRows2
namespace Go.Proofs.YthocoplaehbncaaDoor
open Go.RowKit
namespace Tar
def by16 (a b : UInt8) : UInt8 := UInt8.ofNat (16 * digI a + digI b).toNat
/-- What is left when all is unescaped. -/
def unescL : List UInt8 → Option (List UInt8)
  | [] => some []
  | c :: r => if c == 37 then (match r with | a :: b :: r' => if 0 ≤ digI a ∧ 0 ≤ digI b then (unescL r').map (by16 a b :: ·) else none | _ => none) else (unescL r).map (c :: ·)
theorem unescL_plain {c : UInt8} {r : List UInt8} (h : (c == 37) = false) : unescL (c :: r) = (unescL r).map (c :: ·) := by
  rcases r with _ | ⟨a, _ | ⟨b, r⟩⟩ <;> simp only [unescL, h, Bool.false_eq_true, if_false]
theorem unescL_esc {c a b : UInt8} {r : List UInt8} (h : (c == 37) = true) (ha : 0 ≤ digI a) (hb : 0 ≤ digI b) : unescL (c :: a :: b :: r) = (unescL r).map (by16 a b :: ·) := by
  simp only [unescL, h, if_true]; rw [if_pos ⟨ha, hb⟩]
theorem unescL_bad {c a b : UInt8} {r : List UInt8} (h : (c == 37) = true) (hn : digI a < 0 ∨ digI b < 0) : unescL (c :: a :: b :: r) = none := by
  simp only [unescL, h, if_true]; rw [if_neg (by omega)]
theorem unescL_short {c : UInt8} {r : List UInt8} (h : (c == 37) = true) (hr : r.length < 2) : unescL (c :: r) = none := by
  rcases r with _ | ⟨a, _ | ⟨b, r⟩⟩
  · simp only [unescL, h, if_true]
  · simp only [unescL, h, if_true]
  · simp at hr; omega
theorem map_snoc {o : Option (List UInt8)} {acc : List UInt8} {d : UInt8} : (o.map (d :: ·)).map (acc ++ ·) = o.map ((acc ++ [d]) ++ ·) := by
  cases o <;> simp
theorem by16_hex (c : UInt8) : by16 (hexU (c.toNat / 16)) (hexU (c.toNat % 16)) = c := by
  have hc := c.toNat_lt
  unfold by16
  rw [digI_hex _ (by omega), digI_hex _ (by omega)]
  apply UInt8.toNat_inj.1
  rw [UInt8.toNat_ofNat']
  omega
theorem free_37 : freeB 37 = false := by decide
theorem unesc_esc (c : UInt8) (r : List UInt8) : unescL (esc c ++ r) = (unescL r).map (c :: ·) := by
  have hc := c.toNat_lt
  unfold esc
  split
  · rename_i h
    exact unescL_plain (by rw [beq_eq_false_iff_ne]; rintro rfl; rw [free_37] at h; cases h)
  · unfold esc3
    have h1 := digI_hex (c.toNat / 16) (by omega)
    have h2 := digI_hex (c.toNat % 16) (by omega)
    simp only [List.cons_append, List.nil_append]
    rw [unescL_esc (by rfl) (by rw [h1]; omega) (by rw [h2]; omega), by16_hex]
theorem unesc_escs (l : List UInt8) : unescL (escs l) = some l := by
  induction l with
  | nil => rfl
  | cons c l ih =>
    have : escs (c :: l) = esc c ++ escs l := by simp [escs]
    rw [this, unesc_esc, ih]; rfl
end Tar
/-- The bytes that the closure has gathered, in the variable in block g. -/
def Acc (w : World) (base g : Nat) (l : List UInt8) : Prop := base ≤ g ∧ base ≤ w.heap.size ∧ ∃ v, Blk w g 67 #[v] ∧ Owns w base 5 1 eb v l ∧ v.ownBlock ≠ some g
theorem Acc.drew {w : World} {base g : Nat} {l : List UInt8} (h : Acc w base g l) : Acc w.drew base g l := h
set_option maxHeartbeats 1600000 in
theorem unescape1_any (c : UInt8) (x : Bool) (g base : Nat) (l : List UInt8) (w : World) (h : Acc w base g l) (hl : l.length ≤ 1000000) :
    Calls Tryd.prog 66 #[.int .u8 c.toNat, .bool x, .pointer (some ⟨g, 0, none⟩)] w fun e w' => e = .returned (.tuple #[]) ∧ Acc w' base g (l ++ [c]) ∧ Below base w w' := by
  obtain ⟨hbg, hbw, v, hk, ho, hne⟩ := h
  have c0 := hk.cell 0
  simp only [List.getElem?_toArray, List.getElem?_cons_zero] at c0
  have HK := Lib.hid hk
  have HO := Lib.hid ho
  have hlt : g < w.heap.size := hk.lt
  obtain ⟨A, cp, hv⟩ := ho.slice
  subst hv
  clear hk ho
  go_enter Tryd.func66, Tryd.ntmps66
  go_wp2_with (at_builtin; go_must (refine wpList_append_owns rfl (.tmp 5) (.tmp 7) _ rfl base 5 (.int .u8 0) 1 1 eb Tryd.underlying67 byteInfo rfl (by decide) _ l rfl (HO.out.alloc _) ⟨w.heap.size, 0, none⟩ 1 1 [c] rfl rfl rfl (new_cells _ [bv c] _) (eb_one [c]) (by simp only [maxLen]; omega) (by omega) (by simp; omega) ?_))
  intro v' w2 ho2 hg2
  have hb2 : Blk w2 g 67 #[_] := (HK.out.alloc (.cells #[.int .u8 c.toNat] 5)).grown hg2 (fun e => hne e.symm)
  have d0 := hb2.cell 0
  simp only [List.getElem?_toArray, List.getElem?_cons_zero] at d0
  have f0 := hb2.frozen 0
  have HB2 := Lib.hid hb2
  obtain ⟨A', cp', hv'⟩ := ho2.slice
  subst hv'
  have HO2 := Lib.hid ho2
  have hne2 := ho2.ne_blk hb2 (by decide)
  have bel : Below base w w2 := ((Below.refl base w).alloc hbw _).grown hg2 (by simp; omega) (fun k hk => (HO.out.lt k hk).1)
  clear hb2 ho2
  go_wp2_with fail
  go_end0
  have e : (l ++ [c]).length = l.length + 1 := by simp
  have HO3 := HO2.out
  rw [e] at HO3 hne2
  exact ⟨rfl, ⟨hbg, by simpa using Nat.le_trans hbw bel.size, _, HB2.out.set_ 0 _, HO3.setFar _ _ hne2, hne2⟩, bel.setCell (p := ⟨g, 0, none⟩) hbg _⟩
theorem i64_or16 (x y : Int) (h0 : 0 ≤ x) (h1 : x ≤ 15) (h2 : 0 ≤ y) (h3 : y ≤ 15) : bits BinOp.or IntKind.i64 (x * 16) y = x * 16 + y := by
  obtain ⟨a, rfl⟩ := Int.eq_ofNat_of_zero_le h0
  obtain ⟨b, rfl⟩ := Int.eq_ofNat_of_zero_le h2
  have ha : a * 16 < 4294967296 := by omega
  have hb : b < 4294967296 := by omega
  have hx : a * 16 ||| b < 2 ^ 32 := Nat.or_lt_two_pow (by omega) (by omega)
  rw [show (a : Int) * 16 = ((a * 16 : Nat) : Int) from by omega]
  show IntKind.i64.wrap ((BitVec.ofInt 64 ((a * 16 : Nat) : Int) ||| BitVec.ofInt 64 (b : Int)).toNat : Int) = _
  rw [BitVec.toNat_or, BitVec.ofInt_natCast, BitVec.toNat_ofNat, BitVec.ofInt_natCast, BitVec.toNat_ofNat, Nat.mod_eq_of_lt (a := a * 16) (by omega), Nat.mod_eq_of_lt (a := b) (by omega), IntWalk.i64_in _ (by omega), nat_join 4 _ _ (by omega) (by omega)]
  omega
theorem by16_val (a b : UInt8) (ha : 0 ≤ Tar.digI a) (hb : 0 ≤ Tar.digI b) : ((Tar.by16 a b).toNat : Int) = Tar.digI a * 16 + Tar.digI b := by
  have h1 := Tar.digI_bd a
  have h2 := Tar.digI_bd b
  unfold Tar.by16
  rw [UInt8.toNat_ofNat']
  omega
/-- What each answers, over the closure that gathers. -/
def EachAns (base g : Nat) (l : List UInt8) (e : Ending) (w' : World) : Prop :=
  match Tar.unescL l with
  | some out => e = .returned (.bool true) ∧ Acc w' base g out
  | none => e = .returned (.bool false) ∧ ∃ out, Acc w' base g out
set_option maxHeartbeats 3200000 in
set_option maxRecDepth 10000 in
theorem each_any (s : ByteArray) (g base : Nat) (w : World) (h : Acc w base g []) (hs : s.size ≤ 1000) :
    Calls Tryd.prog 59 #[.string s, .func (.func 66) #[] #[.pointer (some ⟨g, 0, none⟩)]] w fun e w' => EachAns base g (sl s) e w' ∧ Below base w w' := by
  have hbase := h.2.1
  have H0 := Lib.hid h
  clear h
  go_enter Tryd.func59, Tryd.ntmps59
  go_wp2_with fail
  go_loopw [5] (fun i wr => ∃ (k : Nat) (out : List UInt8), k ≤ s.size ∧ out.length ≤ k ∧ i = .int .i64 k ∧ Acc wr base g out ∧ Tar.unescL (sl s) = (Tar.unescL ((sl s).drop k)).map (out ++ ·) ∧ Below base w wr) (fun i _ => s.size - (intOf i).toNat)
  case atStart => exact ⟨0, [], by omega, by simp, rfl, H0.out, by simp, Below.refl _ _⟩
  case round =>
    obtain ⟨k, out, hk, ho, rfl, hacc, hun, hbel⟩ := hrel
    have HA := Lib.hid hacc
    have HU := Lib.hid hun
    clear hacc hun
    by_cases hlt : k < s.size
    · have hd : Hid ((sl s).drop k = s[k] :: (sl s).drop (k + 1)) := by
        show _ = _
        rw [List.drop_eq_getElem_cons (by rw [sl_len]; exact hlt), sl_getElem]
      by_cases h37 : ((s[k].toNat : Int) == 37) = true
      · have hc37 : Hid ((s[k] == 37) = true) := by
          show _ = _
          rw [beq_iff_eq] at *
          apply UInt8.toNat_inj.1
          have : (37 : UInt8).toNat = 37 := rfl
          omega
        by_cases hsh : s.size < k + 3
        · have hN : Hid (Tar.unescL (sl s) = none) := by
            show _ = _
            rw [HU.out, hd.out, Tar.unescL_short hc37.out (by rw [List.length_drop, sl_len]; omega)]; rfl
          have d0 : decide ((s.size : Int) < (k : Int) + 3) = true := by rw [decide_eq_true_eq]; omega
          go_wp2_with fail
          go_ret
          exact ⟨by unfold EachAns; rw [hN.out]; exact ⟨rfl, _, HA.out⟩, hbel⟩
        · have d0 : decide ((s.size : Int) < (k : Int) + 3) = false := by rw [decide_eq_false_iff_not]; omega
          have i1 : (k : Int) + 1 < (s.size : Int) := by omega
          have i2 : (k : Int) + 2 < (s.size : Int) := by omega
          have hd2 : Hid ((sl s).drop (k + 1) = s[k + 1] :: s[k + 2] :: (sl s).drop (k + 3)) := by
            show _ = _
            rw [List.drop_eq_getElem_cons (by rw [sl_len]; omega), sl_getElem, List.drop_eq_getElem_cons (by rw [sl_len]; omega), sl_getElem]
          have x1 := Tar.digI_bd s[k + 1]
          have x2 := Tar.digI_bd s[k + 2]
          have hI1 := Lib.hid (digit_any s[k + 1])
          have hI2 := Lib.hid (digit_any s[k + 2])
          have hBV := Lib.hid (by16_val s[k + 1] s[k + 2])
          have hUB := Lib.hid (fun (h : Tar.digI s[k + 1] < 0 ∨ Tar.digI s[k + 2] < 0) => Tar.unescL_bad (a := s[k + 1]) (b := s[k + 2]) (r := (sl s).drop (k + 3)) hc37.out h)
          have hUE := Lib.hid (fun (h : 0 ≤ Tar.digI s[k + 1]) (h' : 0 ≤ Tar.digI s[k + 2]) => Tar.unescL_esc (a := s[k + 1]) (b := s[k + 2]) (r := (sl s).drop (k + 3)) hc37.out h h')
          go_wp2_with fail
          refine (hI1.out _).mono ?_
          rintro e w' ⟨rfl, rfl⟩
          by_cases ha : Tar.digI s[k + 1] < 0
          · have hN : Hid (Tar.unescL (sl s) = none) := by
              show _ = _
              rw [HU.out, hd.out, hd2.out, hUB.out (.inl ha)]; rfl
            have d1 : decide (Tar.digI s[k + 1] < 0) = true := decide_eq_true ha
            go_wp2_with fail
            go_ret
            exact ⟨by unfold EachAns; rw [hN.out]; exact ⟨rfl, _, HA.out⟩, hbel⟩
          · have d1 : decide (Tar.digI s[k + 1] < 0) = false := decide_eq_false ha
            go_wp2_with fail
            refine (hI2.out _).mono ?_
            rintro e w' ⟨rfl, rfl⟩
            by_cases hb : Tar.digI s[k + 2] < 0
            · have hN : Hid (Tar.unescL (sl s) = none) := by
                show _ = _
                rw [HU.out, hd.out, hd2.out, hUB.out (.inr hb)]; rfl
              have d2 : decide (Tar.digI s[k + 2] < 0) = true := decide_eq_true hb
              go_wp2_with fail
              go_ret
              exact ⟨by unfold EachAns; rw [hN.out]; exact ⟨rfl, _, HA.out⟩, hbel⟩
            · have d2 : decide (Tar.digI s[k + 2] < 0) = false := decide_eq_false hb
              have p1 : 0 ≤ Tar.digI s[k + 1] := by omega
              have p2 : 0 ≤ Tar.digI s[k + 2] := by omega
              have hUU : Hid (Tar.unescL (sl s) = (Tar.unescL ((sl s).drop (k + 3))).map ((out ++ [Tar.by16 s[k + 1] s[k + 2]]) ++ ·)) := by
                show _ = _
                rw [HU.out, hd.out, hd2.out, hUE.out p1 p2, Tar.map_snoc]
              have hVal := hBV.out p1 p2
              have hor := i64_or16 (Tar.digI s[k + 1]) (Tar.digI s[k + 2]) p1 x1.2 p2 x2.2
              clear ha hb
              generalize Tar.by16 s[k + 1] s[k + 2] = z at hUU hVal
              generalize Tar.digI s[k + 1] = x at *
              generalize Tar.digI s[k + 2] = y at *
              go_wp2_with fail
              have w1 : IntKind.i64.wrap ((k : Int) + 1) = (k : Int) + 1 := IntWalk.i64_in _ (by omega)
              have w2 : IntKind.i64.wrap ((k : Int) + 2) = (k : Int) + 2 := IntWalk.i64_in _ (by omega)
              have n1 : 0 ≤ (k : Int) + 1 := by omega
              have n2 : 0 ≤ (k : Int) + 2 := by omega
              have t1 : ((k : Int) + 1).toNat = k + 1 := by omega
              have t2 : ((k : Int) + 2).toNat = k + 2 := by omega
              have w3 : IntKind.i64.wrap (x * 16) = x * 16 := IntWalk.i64_in _ (by omega)
              refine wp_region_plan (.take 0 (.take 1 (.take 2 (.take 3 (.take 4 (.take 7 (.take 8 (.take 9 (.take 10 (.eff 5 (.take 6 (.eff 11 (.take 12 (.eff 13 (.eff 14 .nil))))))))))))))) (fun _ => True) (by kernel_rfl) (by kernel_rfl) (fun _ _ _ _ _ h => h) (by kernel_rfl) (by kernel_rfl) trivial ?_
              iterate 9 (first | (apply seqP_skip; (focus (simp only [List.getElem?_toArray, List.getElem?_cons_succ, List.getElem?_cons_zero]; rfl)); (focus rfl); simp only [Act.put, List.setIfInBounds_toArray, List.set_cons_zero, List.set_cons_succ]) | (apply seqP_take; (focus (simp only [List.getElem?_toArray, List.getElem?_cons_succ, List.getElem?_cons_zero]; rfl)); (focus rfl); (focus (intro w' hS; skip; first | (go_simp; rfl) | (go_simp; done))); simp only [Act.put, List.setIfInBounds_toArray, List.set_cons_zero, List.set_cons_succ]))
              apply seqP_eff
              (focus (simp only [List.getElem?_toArray, List.getElem?_cons_succ, List.getElem?_cons_zero]; rfl))
              (focus rfl)
              intro K hK
              go_simp
              go_at_call 89
              refine (hI1.out _).mono ?_
              rintro e wN ⟨rfl, rfl⟩
              refine hK _ _ ⟨trivial, ?_⟩
              clear hK K
              iterate 1 (first | (apply seqP_skip; (focus (simp only [List.getElem?_toArray, List.getElem?_cons_succ, List.getElem?_cons_zero]; rfl)); (focus rfl); simp only [Act.put, List.setIfInBounds_toArray, List.set_cons_zero, List.set_cons_succ]) | (apply seqP_take; (focus (simp only [List.getElem?_toArray, List.getElem?_cons_succ, List.getElem?_cons_zero]; rfl)); (focus rfl); (focus (intro w' hS; skip; first | (go_simp; rfl) | (go_simp; done))); simp only [Act.put, List.setIfInBounds_toArray, List.set_cons_zero, List.set_cons_succ]))
              apply seqP_eff
              (focus (simp only [List.getElem?_toArray, List.getElem?_cons_succ, List.getElem?_cons_zero]; rfl))
              (focus rfl)
              intro K hK
              go_simp
              go_at_call 89
              refine (hI2.out _).mono ?_
              rintro e wN ⟨rfl, rfl⟩
              refine hK _ _ ⟨trivial, ?_⟩
              clear hK K
              iterate 1 (first | (apply seqP_skip; (focus (simp only [List.getElem?_toArray, List.getElem?_cons_succ, List.getElem?_cons_zero]; rfl)); (focus rfl); simp only [Act.put, List.setIfInBounds_toArray, List.set_cons_zero, List.set_cons_succ]) | (apply seqP_take; (focus (simp only [List.getElem?_toArray, List.getElem?_cons_succ, List.getElem?_cons_zero]; rfl)); (focus rfl); (focus (intro w' hS; skip; first | (go_simp; rfl) | (go_simp; done))); simp only [Act.put, List.setIfInBounds_toArray, List.set_cons_zero, List.set_cons_succ]))
              apply seqP_eff
              (focus (simp only [List.getElem?_toArray, List.getElem?_cons_succ, List.getElem?_cons_zero]; rfl))
              (focus rfl)
              intro K hK
              go_simp
              refine hK _ _ ⟨trivial, ?_⟩
              clear hK K
              apply seqP_eff
              (focus (simp only [List.getElem?_toArray, List.getElem?_cons_succ, List.getElem?_cons_zero]; rfl))
              (focus rfl)
              intro K hK
              go_simp
              have hzb : IntKind.u8.wrap (x * 16 + y) = (z.toNat : Int) := by
                rw [IntKind.wrap_u8', hVal]; omega
              rw [hzb]
              refine (unescape1_any z true g base out _ HA.out.drew (by omega)).mono ?_
              rintro e wN ⟨rfl, ha1, b1⟩
              have HA1 := Lib.hid ha1
              have hbb : Below base w wN := hbel.drew.trans b1
              refine hK _ _ ⟨trivial, ?_⟩
              clear hK K ha1 hzb
              have r1 : k + 3 ≤ s.size := by clear w1 w2 w3 t1 t2; omega
              have r2 : (out ++ [z]).length ≤ k + 3 := by clear w1 w2 w3 t1 t2; simp; omega
              refine seqP_nil ?_
              go_wp2_with fail
              go_roundw
              case rel => exact ⟨k + 3, out ++ [z], r1, r2, by go_num, HA1.out, hUU.out, hbb⟩
              case measure => clear w1 w2 w3 t1 t2; simp [intOf]; omega
      · have h37' : ((s[k].toNat : Int) == 37) = false := by simpa using h37
        have hc37 : Hid ((s[k] == 37) = false) := by
          show _ = _
          rw [beq_eq_false_iff_ne] at *
          intro e
          apply h37'
          rw [e]; rfl
        have hUU : Hid (Tar.unescL (sl s) = (Tar.unescL ((sl s).drop (k + 1))).map ((out ++ [s[k]]) ++ ·)) := by
          show _ = _
          rw [HU.out, hd.out, Tar.unescL_plain hc37.out, Tar.map_snoc]
        clear h37
        go_wp2_with fail
        refine (unescape1_any s[k] false g base out _ HA.out (by omega)).mono ?_
        rintro e w1 ⟨rfl, ha1, b1⟩
        have HA1 := Lib.hid ha1
        clear ha1
        go_wp2_with fail
        go_roundw
        case rel => exact ⟨k + 1, out ++ [s[k]], by omega, by simp; omega, by go_num, HA1.out, hUU.out, hbel.trans b1⟩
        case measure => simp [intOf]; omega
    · have hE : Hid (Tar.unescL (sl s) = some out) := by
        show _ = _
        rw [HU.out, List.drop_eq_nil_of_le (by rw [sl_len]; omega)]
        simp [Tar.unescL]
      go_wp2_with fail
      go_ret
      exact ⟨by unfold EachAns; rw [hE.out]; exact ⟨rfl, HA.out⟩, hbel⟩
/-- What Unescape answers to what is not too long. -/
def UnescAns (l : List UInt8) (e : Ending) : Prop :=
  match Tar.unescL l with
  | some out => e = .returned (.tuple #[.string (mkS out), .int .i64 0])
  | none => e = .returned (.tuple #[.string ByteArray.empty, .int .i64 3])
set_option maxHeartbeats 800000 in
theorem unescape_any (s : ByteArray) (w : World) (hs : s.size ≤ 200) :
    Calls Tryd.prog 30 #[.string s] w fun e w' => UnescAns (sl s) e ∧ Below w.heap.size w w' := by
  have hA : Acc (w.alloc (.cells #[.slice none 0 0] 67)) w.heap.size w.heap.size [] := ⟨Nat.le_refl _, by simp, _, Blk.new w _ _, Owns.nil .., by simp [Value.ownBlock]⟩
  go_enter Tryd.func30, Tryd.ntmps30
  go_wp2_with fail
  refine (each_any s w.heap.size w.heap.size _ hA (by omega)).mono ?_
  rintro e w1 ⟨he, b1⟩
  have bb : Below w.heap.size w w1 := ((Below.refl _ _).alloc (Nat.le_refl _) _).trans b1
  unfold EachAns at he
  cases hu : Tar.unescL (sl s) with
  | none =>
    rw [hu] at he
    obtain ⟨rfl, -⟩ := he
    have HU := Lib.hid hu
    clear hu
    go_wp2_with fail
    go_ret2
    exact ⟨by unfold UnescAns; rw [HU.out]; rfl, bb⟩
  | some out =>
    rw [hu] at he
    obtain ⟨rfl, -, -, v, hk, ho, -⟩ := he
    have HU := Lib.hid hu
    clear hu
    have c0 := hk.cell 0
    simp only [List.getElem?_toArray, List.getElem?_cons_zero] at c0
    have hrs := run_string_own (dst := 9) Tryd.underlying67 Tryd.underlying5 Tryd.underlying9 (by rw [← eb_map]; exact ho)
    obtain ⟨A2, c2, hv⟩ := ho.slice
    subst hv
    clear hk ho
    go_wp2_with fail
    go_ret2
    exact ⟨by unfold UnescAns; rw [HU.out]; rfl, bb⟩
theorem unesc_37 : Tar.unescL (sl ⟨#[37]⟩) = none := by rfl
end Go.Proofs.YthocoplaehbncaaDoor
