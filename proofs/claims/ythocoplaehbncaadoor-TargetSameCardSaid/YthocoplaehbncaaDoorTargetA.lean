/- What target's isFree, escape, Escape and digit compute. -/
import Derived.Test.YthocoplaehbncaaDoorShelf
import Derived.Test.YthocoplaehbncaaDoorIdx
import Derived.Test.YthocoplaehbncaaDoorRegionP
import Derived.Laws.BitsAllLaws
namespace Go.Proofs.YthocoplaehbncaaDoor
open Go.RowKit
namespace Tar
def alnum (c : UInt8) : Bool := (97 ≤ c && c ≤ 122) || (65 ≤ c && c ≤ 90) || (48 ≤ c && c ≤ 57)
def marks : List UInt8 := [45, 46, 95, 126]
def freeB (c : UInt8) : Bool := alnum c || marks.contains c
def hexU (d : Nat) : UInt8 := if d < 10 then UInt8.ofNat (48 + d) else UInt8.ofNat (55 + d)
def esc3 (c : UInt8) : List UInt8 := [37, hexU (c.toNat / 16), hexU (c.toNat % 16)]
def esc (c : UInt8) : List UInt8 := if freeB c then [c] else esc3 c
def escs (l : List UInt8) : List UInt8 := l.flatMap esc
theorem escs_snoc (l : List UInt8) (c : UInt8) : escs (l ++ [c]) = escs l ++ esc c := by simp [escs]
theorem esc_len (c : UInt8) : (esc c).length ≤ 3 := by unfold esc esc3; split <;> simp
theorem escs_len (l : List UInt8) : (escs l).length ≤ 3 * l.length := by
  induction l with
  | nil => simp [escs]
  | cons c l ih => have := esc_len c; simp only [escs, List.flatMap_cons, List.length_append, List.length_cons] at ih ⊢; omega
/-- A digit of base 16, or -1. -/
def digI (c : UInt8) : Int :=
  if 48 ≤ c ∧ c ≤ 57 then (c.toNat : Int) - 48 else if 97 ≤ c ∧ c ≤ 102 then (c.toNat : Int) - 87 else if 65 ≤ c ∧ c ≤ 70 then (c.toNat : Int) - 55 else -1
theorem digI_bd (c : UInt8) : -1 ≤ digI c ∧ digI c ≤ 15 := by
  unfold digI
  simp only [u8_le]
  have e48 : ((48 : UInt8).toNat : Int) = 48 := rfl
  have e57 : ((57 : UInt8).toNat : Int) = 57 := rfl
  have e97 : ((97 : UInt8).toNat : Int) = 97 := rfl
  have e102 : ((102 : UInt8).toNat : Int) = 102 := rfl
  have e65 : ((65 : UInt8).toNat : Int) = 65 := rfl
  have e70 : ((70 : UInt8).toNat : Int) = 70 := rfl
  rw [e48, e57, e97, e102, e65, e70]
  split
  · omega
  · split
    · omega
    · split <;> omega
theorem digI_hex (d : Nat) (h : d < 16) : digI (hexU d) = d := by
  have : ∀ d : Fin 16, digI (hexU d.1) = (d.1 : Int) := by decide
  exact this ⟨d, h⟩
end Tar
theorem talnum_iff (c : UInt8) : Tar.alnum c = true ↔ (97 ≤ (c.toNat : Int) ∧ (c.toNat : Int) ≤ 122) ∨ (65 ≤ (c.toNat : Int) ∧ (c.toNat : Int) ≤ 90) ∨ (48 ≤ (c.toNat : Int) ∧ (c.toNat : Int) ≤ 57) := by
  simp [Tar.alnum, u8_le]
  omega
set_option maxHeartbeats 800000 in
theorem isFree_any (c : UInt8) (w : World) :
    Calls Tryd.prog 61 #[.int .u8 c.toNat] w fun e w' => e = .returned (.bool (Tar.freeB c)) ∧ w = w' := by
  have hb := c.toNat_lt
  cases ha : Tar.alnum c
  · have hn : ¬ _ := fun h => by have := (talnum_iff c).2 h; rw [ha] at this; cases this
    have hi : decide (0 ≤ Lib.indexByte Tar.marks c) = Tar.freeB c := by rw [indexByte_nn]; unfold Tar.freeB; rw [ha, Bool.false_or]
    have hc : (c.toNat : Int).toNat.toUInt8 = c := by simp
    have HI := Lib.hid (Tryd.strings_IndexByte ⟨Tar.marks.toArray⟩ (c.toNat : Int))
    rw [hc] at HI
    have HD := Lib.hid hi
    clear hc hi ha
    simp only [not_or, not_and, Int.not_le] at hn
    obtain ⟨n1, n2, n3⟩ := hn
    go_enter Tryd.func61, Tryd.ntmps61
    go_wp2_with ((go_at_call 90; refine (HI.out _).mono ?_); rintro e w' ⟨rfl, rfl⟩)
    all_goals
      first
        | (exfalso; omega)
        | (go_ret
           exact ⟨ret_bool (by first | exact HD.out | (rw [Bool.eq_iff_iff, ← HD.out]; simp; try omega)), rfl⟩)
  · have hy := (talnum_iff c).1 ha
    have HT : Hid (Tar.freeB c = true) := by show _ = _; unfold Tar.freeB; rw [ha]; rfl
    clear ha
    go_enter Tryd.func61, Tryd.ntmps61
    go_wp2_with fail
    all_goals
      first
        | (exfalso; omega)
        | (go_ret
           exact ⟨ret_bool HT.out.symm, rfl⟩)
set_option maxHeartbeats 800000 in
theorem digit_any (c : UInt8) (w : World) :
    Calls Tryd.prog 89 #[.int .u8 c.toNat] w fun e w' => e = .returned (.int .i64 (Tar.digI c)) ∧ w = w' := by
  have hb := c.toNat_lt
  have HD : Hid (Tar.digI c = if 48 ≤ (c.toNat : Int) ∧ (c.toNat : Int) ≤ 57 then (c.toNat : Int) - 48 else if 97 ≤ (c.toNat : Int) ∧ (c.toNat : Int) ≤ 102 then (c.toNat : Int) - 87 else if 65 ≤ (c.toNat : Int) ∧ (c.toNat : Int) ≤ 70 then (c.toNat : Int) - 55 else -1) := by
    show _ = _; unfold Tar.digI; simp only [u8_le]; rfl
  generalize Tar.digI c = d at *
  generalize c.toNat = n at *
  go_enter Tryd.func89, Tryd.ntmps89
  go_wp2_with fail
  all_goals
    first
      | (exfalso; omega)
      | (go_ret
         exact ⟨ret_int (by rw [HD.out]; first | (rw [if_pos (by omega)]; done) | (rw [if_pos (by omega)]; omega) | (rw [if_neg (by omega), if_pos (by omega)]; omega) | (rw [if_neg (by omega), if_neg (by omega), if_pos (by omega)]; omega) | (rw [if_neg (by omega), if_neg (by omega), if_neg (by omega)])), rfl⟩)
/-- What escape leaves: three bytes more. -/
def EscRet (base : Nat) (l : List UInt8) (e : Ending) (w' : World) : Prop := ∃ v, e = .returned v ∧ Owns w' base 5 1 eb v l
def hexs : ByteArray := ⟨#[48, 49, 50, 51, 52, 53, 54, 55, 56, 57, 65, 66, 67, 68, 69, 70]⟩
theorem hexs_at (d : Nat) (h : d < 16) : hexs[d]'h = Tar.hexU d := by
  have : ∀ d : Fin 16, hexs[d.1]'d.2 = Tar.hexU d.1 := by decide
  exact this ⟨d, h⟩
set_option maxHeartbeats 1600000 in
set_option maxRecDepth 10000 in
theorem escape_any (v : Value) (c : UInt8) (l : List UInt8) (base : Nat) (w : World) (h : Owns w base 5 1 eb v l) (hb : base ≤ w.heap.size) (hl : l.length ≤ 100000000) :
    Calls Tryd.prog 62 #[v, .int .u8 c.toNat] w fun e w' => EscRet base (l ++ Tar.esc3 c) e w' ∧ w.grownBy w' v.ownBlock := by
  have HO := Lib.hid h
  have hc := c.toNat_lt
  have q1 : (c.toNat : Int) / 16 < 16 := by omega
  have q0 : 0 ≤ (c.toNat : Int) / 16 := by omega
  have q2 : bits BinOp.and IntKind.u8 (c.toNat : Int) 15 = ((c.toNat % 16 : Nat) : Int) := by
    have := u8_and_nat c.toNat 15 hc (by omega)
    rw [show ((15 : Nat) : Int) = 15 from rfl] at this
    rw [this, show (15 : Nat) = 2 ^ 4 - 1 from rfl, Nat.and_two_pow_sub_one_eq_mod]
  have q3 : (c.toNat : Int) % 16 < 16 := by omega
  have q6 : 0 ≤ (c.toNat : Int) % 16 := by omega
  have q4 : ∀ h, (⟨#[48, 49, 50, 51, 52, 53, 54, 55, 56, 57, 65, 66, 67, 68, 69, 70]⟩ : ByteArray)[((c.toNat : Int) / 16).toNat]'h = Tar.hexU (c.toNat / 16) := by
    intro h
    have e : ((c.toNat : Int) / 16).toNat = c.toNat / 16 := by omega
    have := hexs_at (c.toNat / 16) (by omega)
    rw [← this]
    show hexs[_]'_ = _
    congr 1
  have q5 : ∀ h, (⟨#[48, 49, 50, 51, 52, 53, 54, 55, 56, 57, 65, 66, 67, 68, 69, 70]⟩ : ByteArray)[((c.toNat : Int) % 16).toNat]'h = Tar.hexU (c.toNat % 16) := by
    intro h
    have e : ((c.toNat : Int) % 16).toNat = c.toNat % 16 := by omega
    have := hexs_at (c.toNat % 16) (by omega)
    rw [← this]
    show hexs[_]'_ = _
    congr 1
  generalize hx : Tar.hexU (c.toNat / 16) = x at *
  generalize hy : Tar.hexU (c.toNat % 16) = y at *
  clear h
  go_enter Tryd.func62, Tryd.ntmps62
  go_wp2_with fail
  refine wp_region_plan (.take 0 (.take 1 (.take 2 (.take 3 (.take 4 (.take 5 (.take 6 (.eff 7 (.eff 8 (.take 9 .nil)))))))))) (fun _ => True) (by kernel_rfl) (by kernel_rfl) (fun _ _ _ _ _ h => h) (by kernel_rfl) (by kernel_rfl) trivial ?_
  iterate 7 (first | (apply seqP_skip; (focus (simp only [List.getElem?_toArray, List.getElem?_cons_succ, List.getElem?_cons_zero]; rfl)); (focus rfl); simp only [Act.put, List.setIfInBounds_toArray, List.set_cons_zero, List.set_cons_succ]) | (apply seqP_take; (focus (simp only [List.getElem?_toArray, List.getElem?_cons_succ, List.getElem?_cons_zero]; rfl)); (focus rfl); (focus (intro w' hS; skip; first | (go_simp; rfl) | (go_simp; done))); simp only [Act.put, List.setIfInBounds_toArray, List.set_cons_zero, List.set_cons_succ]))
  have hE3 : Hid (Tar.esc3 c = [37, x, y]) := by show _ = _; unfold Tar.esc3; rw [hx, hy]
  clear q4 q5 hx hy
  apply seqP_eff
  (focus (simp only [List.getElem?_toArray, List.getElem?_cons_succ, List.getElem?_cons_zero]; rfl))
  (focus rfl)
  intro K hK
  go_simp
  have sA : Below w.heap.size w (w.alloc (.cells #[.int .u8 37, .int .u8 x.toNat, .int .u8 y.toNat] 5)).drew := ((Below.refl w.heap.size w).alloc (Nat.le_refl _) _).drew
  refine hK _ _ ⟨trivial, ?_⟩
  clear hK K
  have HN : SlR (w.alloc (.cells #[.int .u8 37, .int .u8 x.toNat, .int .u8 y.toNat] 5)).drew eb (.slice (some ⟨w.heap.size, 0, none⟩) 3 3) [37, x, y] := (SlR.lit (enc := eb) w [.int .u8 37, .int .u8 x.toNat, .int .u8 y.toNat] 5 [37, x, y] rfl).drew
  have HO2 := Lib.hid (HO.out.below sA)
  apply seqP_eff
  (focus (simp only [List.getElem?_toArray, List.getElem?_cons_succ, List.getElem?_cons_zero]; rfl))
  (focus rfl)
  intro K hK
  refine wp_append_owns (.tmp 5) (.tmp 12) _ rfl base 5 (.int .u8 0) 1 1 eb Tryd.underlying67 byteInfo rfl (by decide) (fun _ => rfl) v l rfl HO2.out _ [37, x, y] rfl HN (eb_one _) (by simp only [maxLen, List.length_cons, List.length_nil]; omega) (by simp only [List.length_cons, List.length_nil]; omega) (Nat.le_trans hb sA.size) ?_
  intro v' w' ho hg
  refine hK _ _ ⟨trivial, ?_⟩
  clear hK K
  iterate 1 (first | (apply seqP_skip; (focus (simp only [List.getElem?_toArray, List.getElem?_cons_succ, List.getElem?_cons_zero]; rfl)); (focus rfl); simp only [Act.put, List.setIfInBounds_toArray, List.set_cons_zero, List.set_cons_succ]) | (apply seqP_take; (focus (simp only [List.getElem?_toArray, List.getElem?_cons_succ, List.getElem?_cons_zero]; rfl)); (focus rfl); (focus (intro w' hS; skip; first | (go_simp; rfl) | (go_simp; done))); simp only [Act.put, List.setIfInBounds_toArray, List.set_cons_zero, List.set_cons_succ]))
  refine seqP_nil ?_
  go_wp2_with fail
  go_ret
  refine ⟨⟨_, rfl, by rw [hE3.out]; exact ho⟩, ?_⟩
  exact ⟨hg.os.trans sA.os, hg.tape.trans sA.tape, hg.output.trans sA.output, Nat.le_trans sA.size hg.size, fun k hk hr => (hg.block k (Nat.lt_of_lt_of_le hk sA.size) hr).trans (sA.block k hk)⟩
/-- What Escape answers. -/
def EscAns (l : List UInt8) (e : Ending) : Prop :=
  if 200 < (Tar.escs l).length then e = .returned (.tuple #[.string ByteArray.empty, .int .i64 2]) else e = .returned (.tuple #[.string (mkS (Tar.escs l)), .int .i64 0])
set_option maxHeartbeats 1600000 in
theorem targetEscape_any (s : ByteArray) (w : World) (hs : s.size ≤ 1048576) :
    Calls Tryd.prog 33 #[.string s] w fun e w' => EscAns (sl s) e ∧ Below w.heap.size w w' := by
  go_enter Tryd.func33, Tryd.ntmps33
  go_wp2_with fail
  go_loopw [4, 8] (fun v i wr => ∃ k : Nat, k ≤ s.size ∧ i = .int .i64 k ∧ Owns wr w.heap.size 5 1 eb v (Tar.escs ((sl s).take k)) ∧ Below w.heap.size w wr) (fun _ i _ => s.size - (intOf i).toNat)
  case atStart => exact ⟨0, by omega, rfl, Owns.nil .., Below.refl _ _⟩
  case round =>
    obtain ⟨k, hk, rfl, hown, hbel⟩ := hrel
    have hlen := Tar.escs_len ((sl s).take k)
    have hlt1 := List.length_take_le k (sl s)
    have HO := Lib.hid hown
    clear hown
    by_cases hlt : k < s.size
    · have HC := Lib.hid (sl_getElem? s k hlt)
      have HT : Hid (Tar.escs ((sl s).take (k + 1)) = Tar.escs ((sl s).take k) ++ Tar.esc s[k]) := by
        show _ = _; rw [take_succ_of HC.out, Tar.escs_snoc]
      cases hq : Tar.freeB s[k]
      all_goals
        have HQ := Lib.hid hq
        have HI := Lib.hid (isFree_any s[k])
        rw [hq] at HI
        clear hq
        go_wp2_with fail
        refine (HI.out _).mono ?_
        rintro e w' ⟨rfl, rfl⟩
      · go_wp2_with fail
        refine (escape_any _ s[k] _ w.heap.size _ HO.out hbel.size (by omega)).mono ?_
        rintro e w1 ⟨⟨v1, rfl, o1⟩, g1⟩
        go_wp2_with fail
        go_roundw
        case rel => exact ⟨k + 1, by omega, by go_num, by rw [HT.out]; unfold Tar.esc; rw [HQ.out]; exact o1, hbel.grown g1 hbel.size (fun k hk => (HO.out.lt k hk).1)⟩
        case measure => simp [intOf]; omega
      · go_wp2_with (at_builtin; go_must (refine wpList_append_owns rfl (.tmp 15) (.tmp 19) _ rfl w.heap.size 5 (.int .u8 0) 1 1 eb Tryd.underlying67 byteInfo rfl (by decide) _ _ rfl (HO.out.alloc _) ⟨wr.heap.size, 0, none⟩ 1 1 [s[k]] rfl rfl rfl (new_cells _ [bv s[k]] _) (eb_one [s[k]]) (by simp only [maxLen]; omega) (by omega) (bel_size hbel (Nat.le_refl _) _) ?_); intro v1 w1 hown1 hg1)
        go_roundw
        case rel => exact ⟨k + 1, by omega, by go_num, by rw [HT.out]; unfold Tar.esc; rw [HQ.out]; exact hown1, bel_append hbel (Nat.le_refl _) HO.out hg1⟩
        case measure => simp [intOf]; omega
    · obtain rfl : k = s.size := by omega
      have ht : (sl s).take s.size = sl s := List.take_of_length_le (by rw [sl_len]; exact Nat.le_refl _)
      rw [ht] at HO hlen
      obtain ⟨A2, c2, hv⟩ := HO.out.slice
      subst hv
      obtain ⟨n, hn⟩ : ∃ n, (Tar.escs (sl s)).length = n := ⟨_, rfl⟩
      have HN := Lib.hid hn
      have hrs := run_string_own (dst := 9) Tryd.underlying67 Tryd.underlying5 Tryd.underlying9 (by rw [← eb_map]; exact HO.out)
      rw [hn] at hrs hlen ⊢
      clear ht hn
      by_cases h200 : 200 < n
      · have d : decide (200 < (n : Int)) = true := by rw [decide_eq_true_eq]; omega
        go_wp2_with fail
        go_ret2
        exact ⟨by unfold EscAns; rw [HN.out, if_pos h200]; rfl, hbel⟩
      · have d : decide (200 < (n : Int)) = false := by rw [decide_eq_false_iff_not]; omega
        go_wp2_with fail
        go_ret2
        exact ⟨by unfold EscAns; rw [HN.out, if_neg h200]; rfl, hbel⟩
end Go.Proofs.YthocoplaehbncaaDoor
