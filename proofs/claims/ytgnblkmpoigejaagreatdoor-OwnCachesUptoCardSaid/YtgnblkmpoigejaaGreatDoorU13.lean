import Derived.Test.YtgnblkmpoigejaaGreatDoorU3
import Derived.Test.YtgnblkmpoigejaaGreatDoorU1
import Derived.Laws.StructEq
import Derived.Test.YtgnblkmpoigejaaGreatDoorU12
import Derived.Test.YtgnblkmpoigejaaGreatDoorChecked
import Derived.Test.YtgnblkmpoigejaaGreatDoorU0
import Derived.Lib.Bytealg
import Derived.Test.YtgnblkmpoigejaaGreatDoorU9
import Derived.Deep.QuietTactic
import Derived.BigQuiet
import Derived.IntWalk
set_option linter.unusedVariables false
set_option linter.unusedSimpArgs false
namespace Go.Proofs.YtgnblkmpoigejaaGreatDoor
open Go.RowKit
theorem eqGuardFld : (Tryz.prog).eqGuardType (Tryz.prog).depth 57 = false := by kernel_rfl
theorem neqFld (a0 b0 : ByteArray) (a1 b1 : ByteArray) (w : World) : (binOp .neq 57 (.agg #[.string a0, .string a1]) (.agg #[.string b0, .string b1])).run Tryz.prog w = .ok (.bool (!((a0.toList == b0.toList) && (a1.toList == b1.toList)))) w := by
 rw [run_neq_struct, run_equalIn_agg w 9999 57 _ _ (by kernel_rfl) (by kernel_rfl)]
 simp only [Program.fieldsOf, Tryz.underlying57]
 have hus := Tryz.underlying9
 cases h0 : (a0.toList == b0.toList) <;> cases h1 : (a1.toList == b1.toList) <;> go_simp
abbrev ElFld := ByteArray × ByteArray
def sameFld (x y : ElFld) : Bool := (x.1.toList == y.1.toList) && (x.2.toList == y.2.toList)
theorem sameFld_eq (x y : ElFld) : sameFld x y = decide (x = y) := by
 rw [Bool.eq_iff_iff, decide_eq_true_iff]
 obtain ⟨a0, a1⟩ := x
 obtain ⟨b0, b1⟩ := y
 simp only [sameFld, Bool.and_eq_true, beq_iff_eq, Prod.mk.injEq, ba_toList]
 constructor
 ·rintro ⟨h0, h1⟩; exact ⟨sl_inj h0, sl_inj h1⟩
 ·rintro ⟨rfl, rfl⟩; exact ⟨rfl, rfl⟩
set_option maxRecDepth 8000 in
set_option maxHeartbeats 1600000 in
theorem eqFld_any (v1 v2 : Value) (xs ys : List (ElFld)) (w : World) (h1 : SlR w e_ss v1 xs) (h2 : SlR w e_ss v2 ys) (hx : xs.length ≤ 140737488351232) (hy : ys.length ≤ 140737488351232) :
  Calls Tryz.prog 91 #[v1, v2] w fun e w' => e = .returned (.bool (decide (xs = ys))) ∧ Below w.heap.size w w' := by
 have H1 := Lib.hid (fun hn => h1.two (fun _ => rfl) hn)
 have H2 := Lib.hid (fun hn => h2.two (fun _ => rfl) hn)
 obtain ⟨A, c, rfl, hc, -⟩ := h1
 obtain ⟨B, d, rfl, hd, -⟩ := h2
 by_cases hl : xs.length = ys.length
 ·have hL := Lib.hid hl
  have hb : (((xs.length : Nat) : Int) != ((ys.length : Nat) : Int)) = false := by simp [hl]
  clear hl
  go_enter Tryz.func91, Tryz.ntmps91
  go_wp2_with fail
  go_loopw [14] (fun i wr => ∃ k : Nat, k ≤ xs.length ∧ i = .int .i64 k ∧ xs.take k = ys.take k ∧ Below w.heap.size w wr) (fun i _ => xs.length - (intOf i).toNat)
  case atStart => exact ⟨0, by omega, rfl, rfl, Below.refl _ _⟩
  case round =>
   obtain ⟨k, hk, rfl, hEq, hbel⟩ := hrel
   have HE := Lib.hid hEq
   clear hEq
   by_cases hlt : k < xs.length
   ·have hlt' : k < ys.length := by rw [← hL.out]; exact hlt
    obtain ⟨b1, o1, c1', he1, hb1, hc1⟩ := H1.out (by omega)
    obtain ⟨b2, o2, c2', he2, hb2, hc2⟩ := H2.out (by omega)
    obtain ⟨rfl, rfl⟩ : A = some ⟨b1, o1, none⟩ ∧ c = c1' := by injection he1 with h1 h2 h3; exact ⟨h1, h3⟩
    obtain ⟨rfl, rfl⟩ : B = some ⟨b2, o2, none⟩ ∧ d = c2' := by injection he2 with h1 h2 h3; exact ⟨h1, h3⟩
    obtain ⟨q0, q1⟩ := hc1 k hlt (.string xs[k].1) (.string xs[k].2) rfl rfl
    obtain ⟨p0, p1⟩ := hc2 k hlt' (.string ys[k].1) (.string ys[k].2) rfl rfl
    have c0 := (hbel.cell (p := ⟨b1, o1 + k * 2, none⟩) hb1).trans q0
    have c1 := (hbel.cell (p := ⟨b1, o1 + k * 2 + 1, none⟩) hb1).trans q1
    have d0 := (hbel.cell (p := ⟨b2, o2 + k * 2, none⟩) hb2).trans p0
    have d1 := (hbel.cell (p := ⟨b2, o2 + k * 2 + 1, none⟩) hb2).trans p1
    clear hc1 hc2 q0 q1 p0 p1 he1 he2 H1 H2
    have hb2' : b2 < wr.heap.size := Nat.lt_of_lt_of_le hb2 hbel.size
    have HTK : Hid (xs.take (k + 1) = ys.take (k + 1) ↔ xs[k] = ys[k]) := by
     show _ ↔ _
     rw [List.take_succ_eq_append_getElem hlt, List.take_succ_eq_append_getElem hlt', HE.out]
     exact ⟨fun h => by have := List.append_cancel_left h; injection this, fun h => by rw [h]⟩
    have HNE : Hid (xs[k] ≠ ys[k] → decide (xs = ys) = false) := fun h => by
     rw [decide_eq_false_iff_not]; rintro rfl; exact h rfl
    generalize xs[k] = x at *
    generalize ys[k] = y at *
    have HSM := Lib.hid (sameFld_eq x y)
    have b0 : Below wr.heap.size wr (wr.alloc (Obj.cells #[.string x.1, .string x.2] 57)) := (Below.refl _ _).alloc (Nat.le_refl _) _
    have HC := Lib.hid (fun w' (hb : Below (wr.alloc (Obj.cells #[.string x.1, .string x.2] 57)).heap.size (wr.alloc (Obj.cells #[.string x.1, .string x.2] 57)) w') => show w'.cell? ⟨wr.heap.size, 0, none⟩ = some (.string x.1) ∧ w'.cell? ⟨wr.heap.size, 1, none⟩ = some (.string x.2) ∧ w'.cell? ⟨b2, o2 + k * 2, none⟩ = some (.string y.1) ∧ w'.cell? ⟨b2, o2 + k * 2 + 1, none⟩ = some (.string y.2) from ⟨(hb.cell (by simp)).trans (by go_simp), (hb.cell (by simp)).trans (by go_simp), (hb.cell (by simp; omega)).trans ((b0.cell hb2').trans d0), (hb.cell (by simp; omega)).trans ((b0.cell hb2').trans d1)⟩)
    clear d0 d1
    go_wp2_with fail
    have g1 := eqGuardFld
    have g2 := neqFld
    clear c0 c1
    cases hs : sameFld x y
    all_goals
     have hs' := hs
     unfold sameFld at hs'
     have hsm := HSM.out
     rw [hs] at hsm
     have HS := Lib.hid hsm
     have hnn : (!((x.1.toList == y.1.toList) && (x.2.toList == y.2.toList))) = !(sameFld x y) := rfl
     rw [hs] at hnn
     clear hs hs' hsm
     refine wp_region_seq [(true, 0), (true, 1), (true, 2), (true, 3), (true, 4), (true, 5)] (fun w' => Below (wr.alloc (Obj.cells #[.string x.1, .string x.2] 57)).heap.size (wr.alloc (Obj.cells #[.string x.1, .string x.2] 57)) w') (by kernel_rfl) (by kernel_rfl) (fun _ _ _ _ _ h => h) (by kernel_rfl) (by kernel_rfl) (by first | exact (Below.refl _ _).drew | exact Below.drew (by assumption)) ?_
     have bS : Below (wr.alloc (Obj.cells #[.string x.1, .string x.2] 57)).heap.size (wr.alloc (Obj.cells #[.string x.1, .string x.2] 57)) _ := (by first | exact Below.drew (by assumption) | exact (Below.refl _ (wr.alloc (Obj.cells #[.string x.1, .string x.2] 57))).drew)
     iterate 6 (first
      | (apply seqH_skip; (focus (simp only [List.getElem?_toArray, List.getElem?_cons_succ, List.getElem?_cons_zero]; rfl)); (focus rfl); simp only [Act.put, List.setIfInBounds_toArray, List.set_cons_zero, List.set_cons_succ])
      | (apply seqH_take; (focus (simp only [List.getElem?_toArray, List.getElem?_cons_succ, List.getElem?_cons_zero]; rfl)); (focus rfl); (focus (intro w' hS; obtain ⟨e0, e1, e2, e3⟩ := HC.out _ hS; have e99 := g2 x.1 y.1 x.2 y.2 w'; rw [hnn] at e99; first | (go_simp; rfl) | (go_simp; done))); simp only [Act.put, List.setIfInBounds_toArray, List.set_cons_zero, List.set_cons_succ])
      | (apply seqH_pass; (focus (simp only [List.getElem?_toArray, List.getElem?_cons_succ, List.getElem?_cons_zero]; rfl)); (focus rfl); (focus assumption); simp only [Act.put, List.setIfInBounds_toArray, List.set_cons_zero, List.set_cons_succ])
      | (apply seqH_eff; (focus (simp only [List.getElem?_toArray, List.getElem?_cons_succ, List.getElem?_cons_zero]; rfl)); (focus rfl); intro K hK; go_simp; fail; rintro e wN ⟨rfl, bN⟩; refine hK _ _ (seq_next (by assumption) bN (fun bS' => ?_)); clear hK K))
     refine seqH_nil ?_
     go_wp2_with fail
    ·go_ret
     exact ⟨ret_bool (HNE.out (fun h => by have := HS.out; rw [decide_eq_true h] at this; cases this)).symm, (hbel.trans (b0.mono hbel.size)).trans (Below.mono (by assumption) (by simp; exact Nat.le_trans hbel.size (Nat.le_succ _)))⟩
    ·go_roundw
     case rel => exact ⟨k + 1, by omega, by go_num, HTK.out.2 (of_decide_eq_true HS.out.symm), (hbel.trans (b0.mono hbel.size)).trans (Below.mono (by assumption) (by simp; exact Nat.le_trans hbel.size (Nat.le_succ _)))⟩
     case measure => simp [intOf]; omega
   ·have HF : Hid (decide (xs = ys) = true) := by
     show _ = _
     rw [decide_eq_true_iff]
     have := HE.out
     rw [List.take_of_length_le (by omega), List.take_of_length_le (by rw [← hL.out]; omega)] at this
     exact this
    go_wp2_with fail
    go_ret
    exact ⟨ret_bool HF.out.symm, hbel⟩
 ·have hb : (((xs.length : Nat) : Int) != ((ys.length : Nat) : Int)) = true := by simp; omega
  have HF : Hid (decide (xs = ys) = false) := by
   show _ = _
   rw [decide_eq_false_iff_not]; rintro rfl; exact hl rfl
  clear hl
  go_enter Tryz.func91, Tryz.ntmps91
  go_wp2_with fail
  go_ret
  exact ⟨ret_bool HF.out.symm, Below.refl _ _⟩
theorem selF_sum (l : List Fld) (n : ByteArray) : ((selF l n).map (fun x => x.size + sep2.size)).sum ≤ (l.map (fun f => f.2.size + 2)).sum := by
 induction l with
 | nil => simp [selF]
 | cons f l ih =>
  have e : selF (f :: l) n = selF [f] n ++ selF l n := by rw [← selF_append]; rfl
  rw [e, List.map_append, List.sum_append, List.map_cons, List.sum_cons]
  have h2 : sep2.size = 2 := rfl
  have : ((selF [f] n).map (fun x => x.size + sep2.size)).sum ≤ f.2.size + 2 := by
   unfold selF
   cases hq : isN (lowS n) f <;> simp [hq, h2]
  omega
theorem selF_join (l : List Fld) (n : ByteArray) : (joinL (selF l n) sep2).length ≤ (l.map (fun f => f.2.size + 2)).sum := Nat.le_trans (joinL_len _ _) (selF_sum l n)
theorem copyFld_any (v : Value) (l : List Fld) (w : World) (h : SlR w e_ss v l) (hl : l.length * 32 ≤ 140737488355328) :
  Calls Tryz.prog 27 #[v] w fun e w' => RetFlds w.heap.size l e w' ∧ Below w.heap.size w w' := by
 go_enter Tryz.func27, Tryz.ntmps27
 go_wp2_with (at_builtin; go_must (refine wpList_append_slr rfl (.const (.slice none 0 0)) (.tmp 3) _ rfl w.heap.size 57 (.agg #[.string ByteArray.empty, .string ByteArray.empty]) 2 32 e_ss Tryz.underlying23 fldInfoB rfl (by decide) (fun _ => rfl) _ [] rfl (Owns.nil w w.heap.size 57 2 e_ss) _ l rfl h (ss_oneB l) (by simp [maxLen]; omega) (by simp; omega) (by simp) ?_); intro v' w2 hown' hgrow)
 go_ret
 exact ⟨⟨_, rfl, hown'⟩, (Below.refl _ _).grown hgrow (Nat.le_refl _) (fun k hk => by have hk' : (none : Option Nat) = some k := hk; cases hk')⟩
set_option maxRecDepth 20000
namespace Tok
def plainB (c : UInt8) : Bool := (32 ≤ c && c ≤ 126) || c == 9
def blankB (c : UInt8) : Bool := c == 32 || c == 9
def esc (c : UInt8) : List UInt8 := if c == 34 || c == 92 then [92, c] else [c]
def escs (l : List UInt8) : List UInt8 := l.flatMap esc
def quoteL (l : List UInt8) : List UInt8 := 34 :: (escs l ++ [34])
theorem esc_len (c : UInt8) : (esc c).length ≤ 2 := by unfold esc; split <;> simp
end Tok
theorem plainB_iff (c : UInt8) : Tok.plainB c = true ↔ (32 ≤ (c.toNat : Int) ∧ (c.toNat : Int) ≤ 126) ∨ (c.toNat : Int) = 9 := by
 simp [Tok.plainB, u8_le, u8_eq]
theorem blankB_iff (c : UInt8) : Tok.blankB c = true ↔ (c.toNat : Int) = 32 ∨ (c.toNat : Int) = 9 := by
 simp [Tok.blankB, u8_eq]
theorem isPlain_any (c : UInt8) (w : World) :
  Calls Tryz.prog 181 #[.int .u8 (c.toNat : Int)] w fun e w' => e = .returned (.bool (Tok.plainB c)) ∧ w = w' := by
 have H := Lib.hid (plainB_iff c)
 go_enter Tryz.func181, Tryz.ntmps181
 go_wp2
 all_goals
  go_ret
  exact ⟨ret_bool (by rw [Bool.eq_iff_iff, H.out]; simp; omega), rfl⟩
theorem isBlank_any (c : UInt8) (w : World) :
  Calls Tryz.prog 201 #[.int .u8 (c.toNat : Int)] w fun e w' => e = .returned (.bool (Tok.blankB c)) ∧ w = w' := by
 have H := Lib.hid (blankB_iff c)
 go_enter Tryz.func201, Tryz.ntmps201
 go_wp2
 all_goals
  go_ret
  exact ⟨ret_bool (by rw [Bool.eq_iff_iff, H.out]; simp; try omega), rfl⟩
set_option maxRecDepth 20000
namespace Tok
def unq : List UInt8 → Option (List UInt8)
 | [] => some []
 | c :: r => if c == 92 then (match r with | [] => none | d :: r' => if plainB d then (unq r').map (d :: ·) else none)
  else if c == 34 then none else if plainB c then (unq r).map (c :: ·) else none
def unquoteL (l : List UInt8) : Option (List UInt8) := if l.length < 2 || l[0]? != some 34 || l[l.length - 1]? != some 34 then none else unq ((l.drop 1).take (l.length - 2))
end Tok
def UnqEnd (l : List UInt8) (e : Ending) : Prop :=
 (Tok.unquoteL l = none ∧ e = .returned (.tuple #[.string ByteArray.empty, .int .i64 3])) ∨
 ∃ b, Tok.unquoteL l = some b ∧ ((1000 < b.length ∧ e = .returned (.tuple #[.string ByteArray.empty, .int .i64 2])) ∨ (b.length ≤ 1000 ∧ e = .returned (.tuple #[.string (mkS b), .int .i64 0])))
theorem unq_plain (c : UInt8) (l : List UInt8) (h1 : (c == 92) = false) (h2 : (c == 34) = false) (h3 : Tok.plainB c = true) : Tok.unq (c :: l) = (Tok.unq l).map (c :: ·) := by
 rw [Tok.unq.eq_def]; simp [h1, h2, h3]
theorem unq_bad (c : UInt8) (l : List UInt8) (h1 : (c == 92) = false) (h : (c == 34) = true ∨ Tok.plainB c = false) : Tok.unq (c :: l) = none := by
 rw [Tok.unq.eq_def]; simp only [h1, Bool.false_eq_true, if_false]
 rcases h with h | h <;> simp [h]
theorem unq_esc (c d : UInt8) (l : List UInt8) (h1 : (c == 92) = true) : Tok.unq (c :: d :: l) = if Tok.plainB d then (Tok.unq l).map (d :: ·) else none := by
 rw [Tok.unq.eq_def]; simp only [h1, if_true]
theorem unq_esc_end (c : UInt8) (h1 : (c == 92) = true) : Tok.unq [c] = none := by
 rw [Tok.unq.eq_def]; simp only [h1, if_true]
theorem map_snoc {o : Option (List UInt8)} {acc : List UInt8} {d : UInt8} : (o.map (d :: ·)).map (acc ++ ·) = o.map ((acc ++ [d]) ++ ·) := by
 cases o <;> simp
set_option maxHeartbeats 800000 in
theorem unquote_walk (s : ByteArray) (w : World) (hs : s.size ≤ 140737488351232) :
  Calls Tryz.prog 140 #[.string s] w fun e w' => UnqEnd (sl s) e ∧ Below w.heap.size w w' := by
 by_cases h2 : s.size < 2
 ·go_enter Tryz.func140, Tryz.ntmps140
  go_wp2_with fail
  go_ret2
  exact ⟨.inl ⟨by unfold Tok.unquoteL; rw [sl_len]; simp [h2], rfl⟩, Below.refl _ _⟩
 ·have g0 := Lib.hid (sl_getElem? s 0 (by omega))
  have g1 := Lib.hid (sl_getElem? s (s.size - 1) (by omega))
  by_cases c0 : ((s[0].toNat : Int) != 34) = true
  ·go_enter Tryz.func140, Tryz.ntmps140
   go_wp2_with fail
   go_ret2
   refine ⟨.inl ⟨?_, rfl⟩, Below.refl _ _⟩
   have : s[0] ≠ 34 := by intro h; rw [h] at c0; simp at c0
   unfold Tok.unquoteL; rw [g0.out]; simp [this]
  ·have c0' : ((s[0].toNat : Int) != 34) = false := by simpa using c0
   by_cases c1 : ((s[s.size - 1].toNat : Int) != 34) = true
   ·clear c0
    go_enter Tryz.func140, Tryz.ntmps140
    go_wp2_with fail
    go_ret2
    refine ⟨.inl ⟨?_, rfl⟩, Below.refl _ _⟩
    have : s[s.size - 1] ≠ 34 := by intro h; rw [h] at c1; simp at c1
    unfold Tok.unquoteL; rw [sl_len, g1.out]; simp [this]
   ·have c1' : ((s[s.size - 1].toNat : Int) != 34) = false := by simpa using c1
    have HU : Hid (Tok.unquoteL (sl s) = Tok.unq (((sl s).drop 1).take (s.size - 2))) := by
     show _ = _
     have e0 : s[0] = 34 := by rw [u8_eq]; simpa using c0
     have e1 : s[s.size - 1] = 34 := by rw [u8_eq]; simpa using c1
     unfold Tok.unquoteL; rw [sl_len, g0.out, g1.out, e0, e1]; simp; intro; omega
    clear c0 c1 g0 g1
    go_enter Tryz.func140, Tryz.ntmps140
    go_wp2_with fail
    go_loopw [0, 4] (fun t v wr => ∃ (r : ByteArray) (acc : List UInt8), t = .string r ∧ Owns wr w.heap.size 5 1 eb v acc ∧ acc.length + r.size ≤ s.size ∧ Tok.unquoteL (sl s) = (Tok.unq (sl r)).map (acc ++ ·) ∧ Below w.heap.size w wr) (fun t _ _ => strLen t)
    case atStart =>
     refine ⟨_, [], rfl, Owns.nil _ _ _ _ _, ?_, ?_, Below.refl _ _⟩
     ·rw [ext_size _ _ _ (by omega)]; simp; omega
     ·rw [sl_extract, HU.out, show s.size - 1 - 1 = s.size - 2 from by omega]; simp
    case round =>
     obtain ⟨r, acc, rfl, hown, hlen, heq, hbel⟩ := hrel
     have HQ := Lib.hid heq
     clear heq
     by_cases hr : r.size = 0
     ·obtain rfl := empty_of_size r hr
      have hE : (!ByteArray.empty.toList.isEmpty) = false := by rw [ba_toList]; rfl
      have HF : Hid (Tok.unquoteL (sl s) = some acc) := by
       show _ = _
       rw [HQ.out, sl_empty]; simp [Tok.unq]
      have hrs := Lib.hid (fun (x : World) (h : Owns x w.heap.size 5 1 eb u4 acc) => run_string_own (dst := 9) Tryz.underlying106 Tryz.underlying5 Tryz.underlying9 (by rw [← eb_map]; exact h))
      have hrs' := hrs.out wr hown
      rcases hown.form with ⟨hv, ha⟩ | ⟨g, cap, hv⟩
      ·subst hv ha
       go_wp2_with fail
       go_ret2
       exact ⟨.inr ⟨_, HF.out, .inr ⟨by simp, rfl⟩⟩, hbel⟩
      ·subst hv
       by_cases h1000 : 1000 < acc.length
       ·go_wp2_with fail
        go_ret2
        exact ⟨.inr ⟨_, HF.out, .inl ⟨h1000, rfl⟩⟩, hbel⟩
       ·go_wp2_with fail
        go_ret2
        exact ⟨.inr ⟨_, HF.out, .inr ⟨by omega, rfl⟩⟩, hbel⟩
     ·have hr0 : 0 < r.size := by omega
      have hE : (!r.toList.isEmpty) = true := by rw [isEmpty_no r hr0]; rfl
      have HC := Lib.hid (sl_cons r hr0)
      cases c92 : ((r[0].toNat : Int) == 92)
      ·have k92 : Hid ((r[0] == 92) = false) := (u8_beq r[0] 92).symm.trans c92
       cases c34 : ((r[0].toNat : Int) == 34)
       ·have k34 : Hid ((r[0] == 34) = false) := (u8_beq r[0] 34).symm.trans c34
        cases hp : Tok.plainB r[0]
        ·go_wp2_with (go_at_call 181; refine (isPlain_any _ _).mono ?_; rintro e w' ⟨rfl, rfl⟩)
         go_ret2
         exact ⟨.inl ⟨by rw [HQ.out, HC.out, unq_bad _ _ k92.out (.inr hp)]; rfl, rfl⟩, hbel⟩
        ·go_wp2_with (first | (go_at_call 181; refine (isPlain_any _ _).mono ?_; rintro e w' ⟨rfl, rfl⟩) | (at_builtin; go_must (refine wpList_append_owns rfl (.tmp 52) (.tmp 55) _ rfl w.heap.size 5 (.int .u8 0) 1 1 eb Tryz.underlying106 byteInfo rfl (by decide) _ _ rfl (hown.alloc _) ⟨wr.heap.size, 0, none⟩ 1 1 [r[0]] rfl rfl rfl (new_cells _ [bv r[0]] _) (eb_one [r[0]]) (by simp only [maxLen]; omega) (by omega) (bel_size hbel (Nat.le_refl _) _) ?_); intro v1 w1 hown1 hg1))
         go_roundw
         case rel => exact ⟨_, acc ++ [r[0]], rfl, hown1, by rw [ext_size _ _ _ (Nat.le_refl _)]; simp; omega, by rw [HQ.out, HC.out, unq_plain _ _ k92.out k34.out hp, map_snoc], bel_append hbel (Nat.le_refl _) hown hg1⟩
         case measure => simp only [strLen]; rw [ext_size _ _ _ (Nat.le_refl _)]; omega
       ·have k34 : Hid ((r[0] == 34) = true) := (u8_beq r[0] 34).symm.trans c34
        go_wp2_with fail
        go_ret2
        exact ⟨.inl ⟨by rw [HQ.out, HC.out, unq_bad _ _ k92.out (.inl k34.out)]; rfl, rfl⟩, hbel⟩
      ·have k92 : Hid ((r[0] == 92) = true) := (u8_beq r[0] 92).symm.trans c92
       by_cases h1 : 1 < r.size
       ·have hx : 0 < (r.extract 1 r.size).size := by rw [ext_size _ _ _ (Nat.le_refl _)]; omega
        have HD := Lib.hid (sl_cons (r.extract 1 r.size) hx)
        have hz : (r.extract 1 r.size).size = r.size - 1 := ext_size _ _ _ (Nat.le_refl _)
        have HZ := Lib.hid hz
        have HX : Hid ((r.extract 1 r.size).extract 1 (r.size - 1) = (r.extract 1 r.size).extract 1 (r.extract 1 r.size).size) := by show _ = _; rw [hz]
        clear hz
        cases hp : Tok.plainB (r.extract 1 r.size)[0]
        ·go_wp2_with (go_at_call 181; refine (isPlain_any _ _).mono ?_; rintro e w' ⟨rfl, rfl⟩)
         go_ret2
         exact ⟨.inl ⟨by rw [HQ.out, HC.out, HD.out, unq_esc _ _ _ k92.out, hp]; rfl, rfl⟩, hbel⟩
        ·go_wp2_with (first | (go_at_call 181; refine (isPlain_any _ _).mono ?_; rintro e w' ⟨rfl, rfl⟩) | (at_builtin; go_must (refine wpList_append_owns rfl (.tmp 52) (.tmp 55) _ rfl w.heap.size 5 (.int .u8 0) 1 1 eb Tryz.underlying106 byteInfo rfl (by decide) _ _ rfl (hown.alloc _) ⟨wr.heap.size, 0, none⟩ 1 1 [(r.extract 1 r.size)[0]] rfl rfl rfl (new_cells _ [bv (r.extract 1 r.size)[0]] _) (eb_one [(r.extract 1 r.size)[0]]) (by simp only [maxLen]; omega) (by omega) (bel_size hbel (Nat.le_refl _) _) ?_); intro v1 w1 hown1 hg1))
         go_roundw
         case rel => exact ⟨_, acc ++ [(r.extract 1 r.size)[0]], rfl, hown1, by rw [HX.out, ext_size _ _ _ (Nat.le_refl _), HZ.out]; simp; omega, by rw [HX.out, HQ.out, HC.out, HD.out, unq_esc _ _ _ k92.out, hp, if_pos rfl, map_snoc], bel_append hbel (Nat.le_refl _) hown hg1⟩
         case measure => simp only [strLen]; rw [HX.out, ext_size _ _ _ (Nat.le_refl _), HZ.out]; omega
       ·have HN : Hid (sl (r.extract 1 r.size) = []) := by
         show _ = _
         exact List.eq_nil_of_length_eq_zero (by rw [sl_len, ext_size _ _ _ (Nat.le_refl _)]; omega)
        go_wp2_with fail
        all_goals
         go_ret2
         exact ⟨.inl ⟨by rw [HQ.out, HC.out, HN.out, unq_esc_end _ k92.out]; rfl, rfl⟩, hbel⟩
set_option maxRecDepth 20000
namespace Tok
def trimL (l : List UInt8) : List UInt8 := ((l.dropWhile blankB).reverse.dropWhile blankB).reverse
def cutL (sign : UInt8) : Bool → List UInt8 → List UInt8 → Option (List (List UInt8))
 | q, cur, [] => if q then none else some [cur]
 | q, cur, c :: r =>
  if c == 34 then cutL sign (!q) (cur ++ [c]) r
  else if q && c == 92 then (match r with | [] => none | d :: r' => cutL sign q (cur ++ [c, d]) r')
  else if !q && c == sign then (cutL sign false [] r).map (cur :: ·)
  else cutL sign q (cur ++ [c]) r
theorem dw_cons_true {p : UInt8 → Bool} {c : UInt8} {l : List UInt8} (h : p c = true) : (c :: l).dropWhile p = l.dropWhile p := by simp [h]
theorem dw_cons_false {p : UInt8 → Bool} {c : UInt8} {l : List UInt8} (h : p c = false) : (c :: l).dropWhile p = c :: l := by simp [h]
end Tok
theorem sl_snoc (r : ByteArray) (h : 0 < r.size) : sl r = sl (r.extract 0 (r.size - 1)) ++ [r[r.size - 1]] := by
 have hl : (sl r).length = r.size := sl_len r
 rw [sl_extract, List.drop_zero, Nat.sub_zero, ← sl_getElem r (r.size - 1) (by omega)]
 have h2 := List.take_append_getElem (by omega : r.size - 1 < (sl r).length)
 rw [h2, List.take_of_length_le (by omega)]
set_option maxHeartbeats 800000 in
theorem trim_any (s : ByteArray) (w : World) (hs : s.size ≤ 140737488351232) :
  Calls Tryz.prog 166 #[.string s] w fun e w' => e = .returned (.string (mkS (Tok.trimL (sl s)))) ∧ w = w' := by
 go_enter Tryz.func166, Tryz.ntmps166
 go_wp2_with fail
 go_loop [0] (fun t => ∃ r : ByteArray, t = .string r ∧ r.size ≤ s.size ∧ Tok.trimL (sl s) = (((sl r).dropWhile Tok.blankB).reverse.dropWhile Tok.blankB).reverse) (fun t => strLen t)
 case atStart => exact ⟨s, rfl, Nat.le_refl _, rfl⟩
 case round =>
  obtain ⟨r, rfl, hrs, heq⟩ := hrel
  have HQ := Lib.hid heq
  clear heq
  have hcs : (r.size = 0 ∧ (!r.toList.isEmpty) = false ∧ Hid ((sl r).dropWhile Tok.blankB = sl r)) ∨ (0 < r.size ∧ ∃ h : 0 < r.size, (!r.toList.isEmpty) = true ∧ Tok.blankB r[0] = false ∧ Hid ((sl r).dropWhile Tok.blankB = sl r)) ∨ (0 < r.size ∧ ∃ h : 0 < r.size, (!r.toList.isEmpty) = true ∧ Tok.blankB r[0] = true) := by
   by_cases hr : r.size = 0
   ·obtain rfl := empty_of_size r hr
    exact .inl ⟨rfl, by rw [ba_toList]; rfl, rfl⟩
   ·have hr0 : 0 < r.size := by omega
    have hE : (!r.toList.isEmpty) = true := by rw [isEmpty_no r hr0]; rfl
    cases hb : Tok.blankB r[0]
    ·exact .inr (.inl ⟨hr0, hr0, hE, hb, by show _ = _; rw [sl_cons r hr0, Tok.dw_cons_false hb]⟩)
    ·exact .inr (.inr ⟨hr0, hr0, hE, hb⟩)
  rcases hcs with ⟨hr, hE, HD⟩ | ⟨hr0, h0, hE, hb, HD⟩ | ⟨hr0, h0, hE, hb⟩
  case inr.inr =>
   have HC := Lib.hid (sl_cons r hr0)
   go_wp2_with (go_at_call 201; refine (isBlank_any _ _).mono ?_; rintro e w' ⟨rfl, rfl⟩)
   go_round
   case rel => exact ⟨_, rfl, by rw [ext_size _ _ _ (Nat.le_refl _)]; omega, by rw [HQ.out, HC.out, Tok.dw_cons_true hb]⟩
   case measure => simp only [strLen]; rw [ext_size _ _ _ (Nat.le_refl _)]; omega
  all_goals
   have HR : Hid (Tok.trimL (sl s) = ((sl r).reverse.dropWhile Tok.blankB).reverse) := by show _ = _; rw [HQ.out, HD.out]
   clear HQ HD
   go_wp2_with (go_at_call 201; refine (isBlank_any _ _).mono ?_; rintro e w' ⟨rfl, rfl⟩)
   go_loop [0] (fun t => ∃ q : ByteArray, t = .string q ∧ q.size ≤ s.size ∧ Tok.trimL (sl s) = ((sl q).reverse.dropWhile Tok.blankB).reverse) (fun t => strLen t)
   case atStart => exact ⟨r, rfl, hrs, HR.out⟩
   case round =>
    clear hE HR
    try clear hb
    obtain ⟨q, rfl, hqs, heq⟩ := hrel
    have HQ := Lib.hid heq
    clear heq
    by_cases hq : q.size = 0
    ·obtain rfl := empty_of_size q hq
     have hE : (!ByteArray.empty.toList.isEmpty) = false := by rw [ba_toList]; rfl
     have HF : Hid (mkS (Tok.trimL (sl s)) = ByteArray.empty) := by show _ = _; rw [HQ.out]; rfl
     go_wp2_with fail
     go_ret
     exact ⟨ret_str HF.out.symm, rfl⟩
    ·have hq0 : 0 < q.size := by omega
     have hE : (!q.toList.isEmpty) = true := by rw [isEmpty_no q hq0]; rfl
     have HC := Lib.hid (sl_snoc q hq0)
     cases hb : Tok.blankB q[q.size - 1]
     ·have HF : Hid (mkS (Tok.trimL (sl s)) = q) := by
       show _ = _
       rw [HQ.out, HC.out, List.reverse_append, List.reverse_singleton, List.singleton_append, Tok.dw_cons_false hb, ← List.singleton_append, List.reverse_append, List.reverse_reverse, List.reverse_singleton, ← HC.out, mkS_sl]
      go_wp2_with (go_at_call 201; refine (isBlank_any _ _).mono ?_; rintro e w' ⟨rfl, rfl⟩)
      go_ret
      exact ⟨ret_str HF.out.symm, rfl⟩
     ·go_wp2_with (go_at_call 201; refine (isBlank_any _ _).mono ?_; rintro e w' ⟨rfl, rfl⟩)
      go_round
      case rel => exact ⟨_, rfl, by rw [ext_size _ _ _ (by omega)]; omega, by rw [HQ.out, HC.out, List.reverse_append, List.reverse_singleton, List.singleton_append, Tok.dw_cons_true hb]⟩
      case measure => simp only [strLen]; rw [ext_size _ _ _ (by omega)]; omega
namespace Tok
def partS (p : List UInt8) : ByteArray := mkS (trimL p)
theorem seg_succ {l : List UInt8} {f i : Nat} {c : UInt8} (hf : f ≤ i) (hc : l[i]? = some c) : (l.drop f).take (i + 1 - f) = (l.drop f).take (i - f) ++ [c] := by
 rw [show i + 1 - f = (i - f) + 1 from by omega, List.take_add_one, List.getElem?_drop, show f + (i - f) = i from by omega, hc]; rfl
theorem cutL_quote (sign c : UInt8) (q : Bool) (cur r : List UInt8) (h : (c == 34) = true) : cutL sign q cur (c :: r) = cutL sign (!q) (cur ++ [c]) r := by
 rw [cutL.eq_def]; simp only [h, if_true]
theorem cutL_esc (sign c d : UInt8) (cur r : List UInt8) (h : (c == 34) = false) (h2 : (c == 92) = true) : cutL sign true cur (c :: d :: r) = cutL sign true (cur ++ [c, d]) r := by
 rw [cutL.eq_def]; simp only [h, h2, Bool.true_and, if_true, Bool.false_eq_true, if_false]
theorem cutL_esc_end (sign c : UInt8) (cur : List UInt8) (h : (c == 34) = false) (h2 : (c == 92) = true) : cutL sign true cur [c] = none := by
 rw [cutL.eq_def]; simp only [h, h2, Bool.true_and, if_true, Bool.false_eq_true, if_false]
theorem cutL_sign (sign c : UInt8) (cur r : List UInt8) (h : (c == 34) = false) (h2 : (c == sign) = true) : cutL sign false cur (c :: r) = (cutL sign false [] r).map (cur :: ·) := by
 rw [cutL.eq_def]; simp only [h, h2, Bool.false_and, Bool.not_false, Bool.true_and, if_true, Bool.false_eq_true, if_false]
theorem cutL_q (sign c : UInt8) (cur r : List UInt8) (h : (c == 34) = false) (h2 : (c == 92) = false) : cutL sign true cur (c :: r) = cutL sign true (cur ++ [c]) r := by
 rw [cutL.eq_def]; simp only [h, h2, Bool.true_and, Bool.not_true, Bool.false_and, Bool.false_eq_true, if_false]
theorem cutL_n (sign c : UInt8) (cur r : List UInt8) (h : (c == 34) = false) (h2 : (c == sign) = false) : cutL sign false cur (c :: r) = cutL sign false (cur ++ [c]) r := by
 rw [cutL.eq_def]; simp only [h, h2, Bool.false_and, Bool.not_false, Bool.true_and, Bool.false_eq_true, if_false]
theorem map_cons_snoc {o : Option (List (List UInt8))} {parts : List (List UInt8)} {cur : List UInt8} : (o.map (cur :: ·)).map (parts ++ ·) = o.map ((parts ++ [cur]) ++ ·) := by
 cases o <;> simp
end Tok
def CutAns (T : TypeId) (base : Nat) (sign : UInt8) (l : List UInt8) (e : Ending) (w' : World) : Prop :=
 (Tok.cutL sign false [] l = none ∧ e = .returned (.tuple #[.slice none 0 0, .int .i64 3])) ∨
 ∃ ps v, Tok.cutL sign false [] l = some ps ∧ ps.length ≤ l.length + 1 ∧ e = .returned (.tuple #[v, .int .i64 0]) ∧ Owns w' base T 1 es v (ps.map Tok.partS)
set_option maxHeartbeats 1600000 in
theorem cut_any (s : ByteArray) (sign : UInt8) (w : World) (hs : s.size ≤ 1000) :
  Calls Tryz.prog 121 #[.string s, .int .u8 (sign.toNat : Int)] w fun e w' => CutAns 9 w.heap.size sign (sl s) e w' ∧ Below w.heap.size w w' := by
 go_enter Tryz.func121, Tryz.ntmps121
 go_wp2_with fail
 go_loopw [6, 7, 8, 9] (fun v t q i wr => ∃ (f k : Nat) (b : Bool) (parts : List (List UInt8)), f ≤ k ∧ f ≤ s.size ∧ k ≤ s.size + 1 ∧ (b = false → k ≤ s.size) ∧ parts.length ≤ f ∧ t = .int .i64 f ∧ q = .bool b ∧ i = .int .i64 k ∧
  Owns wr w.heap.size 9 1 es v (parts.map Tok.partS) ∧ Tok.cutL sign false [] (sl s) = (Tok.cutL sign b (((sl s).drop f).take (k - f)) ((sl s).drop k)).map (parts ++ ·) ∧ Below w.heap.size w wr) (fun _ _ _ i _ => s.size + 1 - (intOf i).toNat)
 case atStart => exact ⟨0, 0, false, [], Nat.le_refl _, by omega, by omega, by simp, by simp, rfl, rfl, rfl, Owns.nil _ _ _ _ _, by simp, Below.refl _ _⟩
 case round =>
  obtain ⟨f, k, b, parts, hfk, hfs, hks, hbk, hpl, rfl, rfl, rfl, hown, heq, hbel⟩ := hrel
  have HQ := Lib.hid heq
  have HB := Lib.hid hbk
  clear heq hbk
  by_cases hlt : k < s.size
  ·have HC := Lib.hid (sl_getElem? s k hlt)
   have HD : Hid ((sl s).drop k = s[k] :: (sl s).drop (k + 1)) := by
    show _ = _
    rw [← sl_getElem s k hlt]; exact List.drop_eq_getElem_cons (by rw [sl_len]; exact hlt)
   cases c34 : ((s[k].toNat : Int) == 34)
   ·have k34 : Hid ((s[k] == 34) = false) := (u8_beq s[k] 34).symm.trans c34
    cases b
    ·cases csg : ((s[k].toNat : Int) == (sign.toNat : Int))
     ·have ksg : Hid ((s[k] == sign) = false) := (u8_beq s[k] sign).symm.trans csg
      go_wp2_with fail
      go_roundw
      case rel => exact ⟨f, k + 1, false, parts, by omega, hfs, by omega, by omega, hpl, rfl, rfl, by go_num, hown, by rw [HQ.out, HD.out, Tok.cutL_n _ _ _ _ k34.out ksg.out, Tok.seg_succ hfk HC.out], hbel⟩
      case measure => simp [intOf]; omega
     ·have ksg : Hid ((s[k] == sign) = true) := (u8_beq s[k] sign).symm.trans csg
      have hx : (s.extract f k).size ≤ 140737488351232 := by rw [ext_size _ _ _ (by omega)]; omega
      have hex := Lib.hid (sl_extract s f k)
      go_wp2_with (first | (go_at_call 166; refine (trim_any _ _ hx).mono ?_; rintro e w' ⟨rfl, rfl⟩) | (at_builtin; go_must (refine wpList_append_owns rfl (.tmp 43) (.tmp 49) _ rfl w.heap.size 9 (.string ByteArray.empty) 1 16 es Tryz.underlying59 stringInfo rfl (by decide) _ _ rfl (hown.alloc _) ⟨wr.heap.size, 0, none⟩ 1 1 [Tok.partS (sl (s.extract f k))] rfl rfl rfl (new_cells _ [.string (Tok.partS (sl (s.extract f k)))] _) (es_one [_]) (by simp only [List.length_map, maxLen]; omega) (by simp only [List.length_map]; omega) (bel_size hbel (Nat.le_refl _) _) ?_); intro v1 w1 hown1 hg1))
      go_roundw
      case rel => exact ⟨k + 1, k + 1, false, parts ++ [((sl s).drop f).take (k - f)], by omega, by omega, by omega, by omega, by simp; omega, by go_num, rfl, by go_num, by rw [hex.out] at hown1; simpa using hown1, by rw [HQ.out, HD.out, Tok.cutL_sign _ _ _ _ k34.out ksg.out, Tok.map_cons_snoc]; simp, bel_append hbel (Nat.le_refl _) hown hg1⟩
      case measure => simp [intOf]; omega
    ·cases c92 : ((s[k].toNat : Int) == 92)
     ·have k92 : Hid ((s[k] == 92) = false) := (u8_beq s[k] 92).symm.trans c92
      go_wp2_with fail
      go_roundw
      case rel => exact ⟨f, k + 1, true, parts, by omega, hfs, by omega, by simp, hpl, rfl, rfl, by go_num, hown, by rw [HQ.out, HD.out, Tok.cutL_q _ _ _ _ k34.out k92.out, Tok.seg_succ hfk HC.out], hbel⟩
      case measure => simp [intOf]; omega
     ·have k92 : Hid ((s[k] == 92) = true) := (u8_beq s[k] 92).symm.trans c92
      go_wp2_with fail
      go_roundw
      case rel =>
       refine ⟨f, k + 2, true, parts, by omega, hfs, by omega, by simp, hpl, rfl, rfl, by go_num, hown, ?_, hbel⟩
       rw [HQ.out, HD.out]
       by_cases h1 : k + 1 < s.size
       ·have e1 := sl_getElem? s (k + 1) h1
        have e2 : (sl s).drop (k + 1) = s[k + 1] :: (sl s).drop (k + 2) := by
         rw [← sl_getElem s (k + 1) h1]; exact List.drop_eq_getElem_cons (by rw [sl_len]; exact h1)
        rw [e2, Tok.cutL_esc _ _ _ _ _ k34.out k92.out, show k + 2 = (k + 1) + 1 from rfl, Tok.seg_succ (by omega) e1, Tok.seg_succ hfk HC.out]
        simp
       ·have e2 : (sl s).drop (k + 1) = [] := List.drop_eq_nil_of_le (by rw [sl_len]; omega)
        have e3 : (sl s).drop (k + 2) = [] := List.drop_eq_nil_of_le (by rw [sl_len]; omega)
        rw [e2, e3, Tok.cutL_esc_end _ _ _ k34.out k92.out]
        rfl
      case measure => simp [intOf]; omega
   ·have k34 : Hid ((s[k] == 34) = true) := (u8_beq s[k] 34).symm.trans c34
    go_wp2_with fail
    go_roundw
    case rel => exact ⟨f, k + 1, !b, parts, by omega, hfs, by omega, by omega, hpl, rfl, rfl, by go_num, hown, by rw [HQ.out, HD.out, Tok.cutL_quote _ _ _ _ _ k34.out, Tok.seg_succ hfk HC.out], hbel⟩
    case measure => simp [intOf]; omega
  ·have HE : Hid ((sl s).drop k = []) := by show _ = _; exact List.drop_eq_nil_of_le (by rw [sl_len]; omega)
   cases b
   ·have hk := HB.out rfl
    have HF : Hid (Tok.cutL sign false [] (sl s) = some (parts ++ [(sl s).drop f])) := by
     show _ = _
     have e : ((sl s).drop f).take (k - f) = (sl s).drop f := List.take_of_length_le (by rw [List.length_drop, sl_len]; omega)
     rw [HQ.out, HE.out, e]; rfl
    have hx : (s.extract f s.size).size ≤ 140737488351232 := by rw [ext_size _ _ _ (by omega)]; omega
    have hex := Lib.hid (sl_extract_end s f)
    go_wp2_with (first | (go_at_call 166; refine (trim_any _ _ hx).mono ?_; rintro e w' ⟨rfl, rfl⟩) | (at_builtin; go_must (refine wpList_append_owns rfl (.tmp 54) (.tmp 59) _ rfl w.heap.size 9 (.string ByteArray.empty) 1 16 es Tryz.underlying59 stringInfo rfl (by decide) _ _ rfl (hown.alloc _) ⟨wr.heap.size, 0, none⟩ 1 1 [Tok.partS (sl (s.extract f s.size))] rfl rfl rfl (new_cells _ [.string (Tok.partS (sl (s.extract f s.size)))] _) (es_one [_]) (by simp only [List.length_map, maxLen]; omega) (by simp only [List.length_map]; omega) (bel_size hbel (Nat.le_refl _) _) ?_); intro v1 w1 hown1 hg1))
    go_ret2
    exact ⟨.inr ⟨_, _, HF.out, by simp [sl_len]; omega, rfl, by rw [hex.out] at hown1; simpa using hown1⟩, bel_append hbel (Nat.le_refl _) hown hg1⟩
   ·go_wp2_with fail
    go_ret2
    exact ⟨.inl ⟨by rw [HQ.out, HE.out]; rfl, rfl⟩, hbel⟩
set_option maxRecDepth 20000
namespace Tok
theorem escs_cons (c : UInt8) (l : List UInt8) : escs (c :: l) = esc c ++ escs l := rfl
theorem unq_escs : ∀ (l : List UInt8), l.all plainB = true → unq (escs l) = some l
 | [], _ => rfl
 | c :: l, h => by
  simp only [List.all_cons, Bool.and_eq_true] at h
  have ih := unq_escs l h.2
  rw [escs_cons]
  by_cases hc : (c == 34 || c == 92) = true
  ·have e : esc c = [92, c] := if_pos hc
   rw [e]
   show unq (92 :: c :: escs l) = _
   rw [unq_esc _ _ _ rfl, h.1, if_pos rfl, ih]; rfl
  ·have e : esc c = [c] := if_neg hc
   rw [e]
   simp only [Bool.or_eq_true, not_or, Bool.not_eq_true] at hc
   show unq (c :: escs l) = _
   rw [unq_plain _ _ hc.2 hc.1 h.1, ih]; rfl
theorem escs_of_unq : ∀ (n : Nat) (l b : List UInt8), l.length ≤ n → unq l = some b → (escs b).length ≤ l.length ∧ b.all plainB = true
 | _, [], b, _, h => by simp only [unq] at h; obtain rfl := Option.some.inj h; simp [escs]
 | 0, c :: l, b, hn, h => by simp at hn
 | n + 1, c :: l, b, hn, h => by
  simp only [List.length_cons] at hn
  cases h92 : (c == 92)
  ·cases h34 : (c == 34)
   ·cases hp : plainB c
    ·rw [unq_bad _ _ h92 (.inr hp)] at h; cases h
    ·rw [unq_plain _ _ h92 h34 hp] at h
     obtain ⟨b', hb, rfl⟩ := Option.map_eq_some_iff.1 h
     obtain ⟨i1, i2⟩ := escs_of_unq n l b' (by omega) hb
     have e : esc c = [c] := by unfold esc; rw [h92, h34]; rfl
     refine ⟨?_, by simp [hp, i2]⟩
     rw [escs_cons, e]
     simp only [List.length_append, List.length_cons, List.length_nil]; omega
   ·rw [unq_bad _ _ h92 (.inl h34)] at h; cases h
  ·cases l with
   | nil => rw [unq_esc_end _ h92] at h; cases h
   | cons d l =>
    rw [unq_esc _ _ _ h92] at h
    cases hp : plainB d
    ·rw [hp] at h; cases h
    ·rw [hp, if_pos rfl] at h
     obtain ⟨b', hb, rfl⟩ := Option.map_eq_some_iff.1 h
     simp only [List.length_cons] at hn
     obtain ⟨i1, i2⟩ := escs_of_unq n l b' (by omega) hb
     have := esc_len d
     refine ⟨?_, by simp [hp, i2]⟩
     rw [escs_cons]
     simp only [List.length_append, List.length_cons]; omega
theorem unquote_some {l b : List UInt8} (h : unquoteL l = some b) : (quoteL b).length ≤ l.length ∧ b.all plainB = true := by
 unfold unquoteL at h
 split at h
 ·cases h
 ·rename_i hc
  simp only [Bool.or_eq_true, decide_eq_true_eq, not_or] at hc
  have hlen : ((l.drop 1).take (l.length - 2)).length ≤ l.length - 2 := by simp; omega
  obtain ⟨i1, i2⟩ := escs_of_unq _ _ b (Nat.le_refl _) h
  refine ⟨?_, i2⟩
  simp [quoteL] at i1 ⊢
  omega
end Tok
set_option maxRecDepth 20000
namespace Tok
def ne (s : ByteArray) : Bool := !s.toList.isEmpty
theorem ne_mkS (l : List UInt8) : ne (mkS l) = !l.isEmpty := by unfold ne; rw [ba_toList, sl_mkS]
def splitL (l : List UInt8) : Except Int (List (List UInt8)) :=
 if 1000 < l.length then .error 2
 else match cutL 44 false [] l with
  | none => .error 3
  | some ps => if 20 < ((ps.map trimL).filter (fun p => !p.isEmpty)).length then .error 2 else .ok ((ps.map trimL).filter (fun p => !p.isEmpty))
theorem filter_parts (ps : List (List UInt8)) : (ps.map partS).filter ne = ((ps.map trimL).filter (fun p => !p.isEmpty)).map mkS := by
 induction ps with
 | nil => rfl
 | cons p ps ih =>
  simp only [List.map_cons, List.filter_cons]
  have e : ne (partS p) = !(trimL p).isEmpty := ne_mkS _
  rw [e]
  cases (trimL p).isEmpty
  ·simp [ih, partS]
  ·simp [ih]
end Tok
def SplitAns (T : TypeId) (base : Nat) (l : List UInt8) (e : Ending) (w' : World) : Prop :=
 match Tok.splitL l with
 | .error c => e = .returned (.tuple #[.slice none 0 0, .int .i64 c])
 | .ok out => ∃ v, e = .returned (.tuple #[v, .int .i64 0]) ∧ Owns w' base T 1 es v (out.map mkS)
set_option maxHeartbeats 1600000 in
theorem split_any (s : ByteArray) (w : World) (hs : s.size ≤ 140737488351232) :
  Calls Tryz.prog 83 #[.string s] w fun e w' => SplitAns 9 w.heap.size (sl s) e w' ∧ Below w.heap.size w w' := by
 by_cases h1000 : 1000 < s.size
 ·have HF : Hid (Tok.splitL (sl s) = .error 2) := by show _ = _; unfold Tok.splitL; rw [sl_len, if_pos h1000]
  go_enter Tryz.func83, Tryz.ntmps83
  go_wp2_with fail
  go_ret2
  exact ⟨by unfold SplitAns; rw [HF.out]; rfl, Below.refl _ _⟩
 ·have HS : Hid (Tok.splitL (sl s) = match Tok.cutL 44 false [] (sl s) with
    | none => .error 3
    | some ps => if 20 < ((ps.map Tok.trimL).filter (fun p => !p.isEmpty)).length then .error 2 else .ok ((ps.map Tok.trimL).filter (fun p => !p.isEmpty))) := by
   show _ = _; unfold Tok.splitL; rw [sl_len, if_neg h1000]
  go_enter Tryz.func83, Tryz.ntmps83
  go_wp2_with fail
  refine (cut_any s 44 _ (by omega)).mono ?_
  rintro e w1 ⟨ha, hb1⟩
  rcases ha with ⟨hc, rfl⟩ | ⟨ps, v, hc, hlen, rfl, hown⟩
  ·have HC := Lib.hid hc
   clear hc
   go_wp2_with fail
   go_ret2
   exact ⟨by unfold SplitAns; rw [HS.out, HC.out]; rfl, hb1⟩
  ·have HC := Lib.hid hc
   have hfp := Tok.filter_parts ps
   have hr := SlR.of_owns hown
   have hl2 : (ps.map Tok.partS).length ≤ 1001 := by rw [List.length_map]; rw [sl_len] at hlen; omega
   have HF := Lib.hid hfp
   clear hc hown hlen hfp
   generalize ps.map Tok.partS = xs at hr hl2 HF
   obtain ⟨A, c, rfl, hcap, hA⟩ := hr
   go_wp2_with fail
   go_loopw [6, 22] (fun o i wr => ∃ k : Nat, k ≤ xs.length ∧ i = .int .i64 k ∧ Owns wr w1.heap.size 9 1 es o ((xs.take k).filter Tok.ne) ∧ Below w1.heap.size w1 wr) (fun _ i _ => xs.length - (intOf i).toNat)
   case atStart => exact ⟨0, by omega, rfl, Owns.nil _ _ _ _ _, Below.refl _ _⟩
   case round =>
    obtain ⟨k, hk, rfl, hown, hbel⟩ := hrel
    have hfl : ((xs.take k).filter Tok.ne).length ≤ k := Nat.le_trans (List.length_filter_le _ _) (List.length_take_le _ _)
    by_cases hlt : k < xs.length
    ·obtain ⟨b, off, rfl, hb, hcell⟩ := hA (by omega)
     have hc1 := (hbel.cell (p := ⟨b, off + k, none⟩) hb).trans (hcell k (.string xs[k]) (by rw [es_map]; simp [hlt]))
     have HT : Hid (xs.take (k + 1) = xs.take k ++ [xs[k]]) := by show _ = _; rw [List.take_add_one, List.getElem?_eq_getElem hlt]; rfl
     clear hA hcell
     cases hne : (!xs[k].toList.isEmpty)
     ·have HN : Hid (Tok.ne xs[k] = false) := hne
      go_wp2_with fail
      go_roundw
      case rel => exact ⟨k + 1, by omega, by go_num, by rw [HT.out, List.filter_append, List.filter_cons, HN.out]; simpa using hown, hbel⟩
      case measure => simp [intOf]; omega
     ·have HN : Hid (Tok.ne xs[k] = true) := hne
      go_wp2_with (at_builtin; go_must (refine wpList_append_owns rfl (.tmp 28) (.tmp 30) _ rfl w1.heap.size 9 (.string ByteArray.empty) 1 16 es Tryz.underlying59 stringInfo rfl (by decide) _ _ rfl (hown.alloc _) ⟨wr.heap.size, 0, none⟩ 1 1 [xs[k]] rfl rfl rfl (new_cells _ [.string xs[k]] _) (es_one [_]) (by simp only [maxLen]; omega) (by omega) (bel_size hbel (Nat.le_refl _) _) ?_); intro v2 w2 hown2 hg2)
      go_roundw
      case rel => exact ⟨k + 1, by omega, by go_num, by rw [HT.out, List.filter_append, List.filter_cons, HN.out]; exact hown2, bel_append hbel (Nat.le_refl _) hown hg2⟩
      case measure => simp [intOf]; omega
    ·have ht : xs.take k = xs := List.take_of_length_le (by omega)
     rw [ht] at hown hfl
     rw [HF.out] at hown hfl
     clear ht hA
     obtain ⟨out, HW⟩ : ∃ out, Hid (((ps.map Tok.trimL).filter (fun p => !p.isEmpty)).map mkS = out) := ⟨_, rfl⟩
     have HM : Hid (out.length = ((ps.map Tok.trimL).filter (fun p => !p.isEmpty)).length) := by show _ = _; rw [← HW.out, List.length_map]
     rw [HW.out] at hown hfl
     have hbw : Below w.heap.size w wr := hb1.trans (hbel.mono hb1.size)
     have HO := Lib.hid hown
     by_cases h20 : 20 < out.length
     ·have HE : Hid (Tok.splitL (sl s) = .error 2) := by
       show _ = _; rw [HS.out, HC.out]; show (if _ then _ else _) = _; rw [if_pos (by rw [← HM.out]; exact h20)]
      rcases hown.form with ⟨hv, ha⟩ | ⟨g, cap, hv⟩
      ·rw [ha] at h20; simp at h20
      ·clear hown
       subst hv
       go_wp2_with fail
       go_ret2
       exact ⟨by unfold SplitAns; rw [HE.out]; rfl, hbw⟩
     ·have HE : Hid (Tok.splitL (sl s) = .ok ((ps.map Tok.trimL).filter (fun p => !p.isEmpty))) := by
       show _ = _; rw [HS.out, HC.out]; show (if _ then _ else _) = _; rw [if_neg (by rw [← HM.out]; exact h20)]
      rcases hown.form with ⟨hv, ha⟩ | ⟨g, cap, hv⟩
      all_goals
       clear hown
       try clear ha
       subst hv
       go_wp2_with fail
       go_ret2
       exact ⟨by unfold SplitAns; rw [HE.out]; exact ⟨_, rfl, by rw [HW.out]; exact HO.out.mono hb1.size⟩, hbw⟩
namespace Tok
end Tok
theorem indexByte_case (l : List UInt8) (c : UInt8) : (∃ k : Nat, ∃ hk : k < l.length, Lib.indexByte l c = (k : Int) ∧ l[k] = c ∧ c ∉ l.take k) ∨ (Lib.indexByte l c = -1 ∧ c ∉ l) := by
 induction l with
 | nil => exact .inr ⟨rfl, by simp⟩
 | cons b l ih =>
  by_cases hb : b = c
  ·refine .inl ⟨0, by simp, ?_, hb, by simp⟩
   simp [Lib.indexByte, hb]
  ·have hb' : (b == c) = false := by simpa using hb
   rcases ih with ⟨k, hk, h1, h2, h3⟩ | ⟨h1, h2⟩
   ·refine .inl ⟨k + 1, by simpa using hk, ?_, by simpa using h2, ?_⟩
    ·have : ((k : Int) == -1) = false := by rw [beq_eq_false_iff_ne]; omega
     simp only [Lib.indexByte, hb', h1, this, Bool.false_eq_true, if_false]
     omega
    ·simp only [List.take_succ_cons, List.mem_cons, not_or]
     exact ⟨fun e => hb e.symm, h3⟩
   ·refine .inr ⟨?_, by simp only [List.mem_cons, not_or]; exact ⟨fun e => hb e.symm, h2⟩⟩
    simp [Lib.indexByte, hb', h1]
theorem indexByte_nn (l : List UInt8) (c : UInt8) : decide (0 ≤ Lib.indexByte l c) = l.contains c := by
 rcases indexByte_case l c with ⟨k, hk, h1, h2, _⟩ | ⟨h1, h2⟩
 ·rw [h1, List.contains_iff_mem.2 (by rw [← h2]; exact List.getElem_mem hk)]; simp
 ·rw [h1]
  have : l.contains c = false := by rw [← Bool.not_eq_true, List.contains_iff_mem]; exact h2
  rw [this]; rfl
namespace Tok
def signs : List UInt8 := [33, 35, 36, 37, 38, 39, 42, 43, 45, 46, 94, 95, 96, 124, 126]
def alnum (c : UInt8) : Bool := (97 ≤ c && c ≤ 122) || (65 ≤ c && c ≤ 90) || (48 ≤ c && c ≤ 57)
def tokB (c : UInt8) : Bool := alnum c || signs.contains c
def isTok (s : ByteArray) : Bool := (sl s).all tokB && decide (0 < s.size)
end Tok
theorem alnum_iff (c : UInt8) : Tok.alnum c = true ↔ (97 ≤ (c.toNat : Int) ∧ (c.toNat : Int) ≤ 122) ∨ (65 ≤ (c.toNat : Int) ∧ (c.toNat : Int) ≤ 90) ∨ (48 ≤ (c.toNat : Int) ∧ (c.toNat : Int) ≤ 57) := by
 simp [Tok.alnum, u8_le]
 omega
set_option maxHeartbeats 800000 in
theorem isTokenByte_any (c : UInt8) (w : World) :
  Calls Tryz.prog 122 #[.int .u8 c.toNat] w fun e w' => e = .returned (.bool (Tok.tokB c)) ∧ w = w' := by
 have hb := c.toNat_lt
 cases ha : Tok.alnum c
 ·have hn : ¬ _ := fun h => by have := (alnum_iff c).2 h; rw [ha] at this; cases this
  have hi : decide (0 ≤ Lib.indexByte Tok.signs c) = Tok.tokB c := by rw [indexByte_nn]; unfold Tok.tokB; rw [ha, Bool.false_or]
  have hc : (c.toNat : Int).toNat.toUInt8 = c := by simp
  have HI := Lib.hid (Tryz.strings_IndexByte ⟨Tok.signs.toArray⟩ (c.toNat : Int))
  rw [hc] at HI
  have HD := Lib.hid hi
  clear hc hi ha
  simp only [not_or, not_and, Int.not_le] at hn
  obtain ⟨n1, n2, n3⟩ := hn
  go_enter Tryz.func122, Tryz.ntmps122
  go_wp2_with ((go_at_call 99; refine (HI.out _).mono ?_); rintro e w' ⟨rfl, rfl⟩)
  all_goals
   first
    | (exfalso; omega)
    | (go_ret; exact ⟨ret_bool HD.out, rfl⟩)
 ·have hy := (alnum_iff c).1 ha
  have HT : Hid (Tok.tokB c = true) := by show _ = _; unfold Tok.tokB; rw [ha]; rfl
  clear ha
  go_enter Tryz.func122, Tryz.ntmps122
  go_wp2_with fail
  all_goals
   first
    | (exfalso; omega)
    | (go_ret; exact ⟨ret_bool HT.out.symm, rfl⟩)
set_option maxHeartbeats 800000 in
theorem isToken_any (s : ByteArray) (w : World) (hs : s.size ≤ 9223372036854775807) :
  Calls Tryz.prog 84 #[.string s] w fun e w' => e = .returned (.bool (Tok.isTok s)) ∧ w = w' := by
 go_enter Tryz.func84, Tryz.ntmps84
 go_wp2_with fail
 go_loop [6] (fun i => ∃ k : Nat, k ≤ s.size ∧ i = .int .i64 k ∧ ((sl s).take k).all Tok.tokB = true) (fun i => s.size - (intOf i).toNat)
 case atStart => exact ⟨0, by omega, rfl, by simp⟩
 case round =>
  obtain ⟨k, hk, rfl, hall⟩ := hrel
  have HA := Lib.hid hall
  clear hall
  by_cases hlt : k < s.size
  ·have HC := Lib.hid (sl_getElem? s k hlt)
   cases hq : Tok.tokB s[k]
   all_goals
    have HQ := Lib.hid hq
    have HI := Lib.hid (isTokenByte_any s[k])
    rw [hq] at HI
    clear hq
    go_wp2_with fail
    refine (HI.out _).mono ?_
    rintro e w' ⟨rfl, rfl⟩
    go_wp2_with fail
   ·go_ret
    exact ⟨ret_bool (by unfold Tok.isTok; rw [all_false HC.out HQ.out]; rfl), rfl⟩
   ·go_round
    case rel => exact ⟨k + 1, by omega, by go_num, all_take_succ HC.out HA.out HQ.out⟩
    case measure => simp [intOf]; omega
  ·have HF : Hid ((!s.toList.isEmpty) = Tok.isTok s) := by
    show _ = _
    unfold Tok.isTok
    have := HA.out
    rw [List.take_of_length_le (by rw [sl_len]; omega)] at this
    rw [this, Bool.true_and, ba_toList]
    rcases Nat.eq_zero_or_pos s.size with h | h
    ·rw [empty_of_size s h]; rfl
    ·rw [sl_cons s h, decide_eq_true h]; rfl
   go_wp2_with fail
   go_ret
   exact ⟨ret_bool HF.out, rfl⟩
namespace Tok
def seg : List UInt8 → List UInt8 → List (List UInt8)
 | cur, [] => [cur]
 | cur, c :: r => if c == 44 then cur :: seg [] r else seg (cur ++ [c]) r
def parts (cur l : List UInt8) : List (List UInt8) := ((seg cur l).map trimL).filter (fun p => !p.isEmpty)
def gapB (c : UInt8) : Bool := blankB c || c == 44
structure Gap (g : List UInt8) : Prop where
 all : g.all gapB = true
 comma : ∃ b g', g = b ++ 44 :: g' ∧ b.all blankB = true
end Tok
def CutOne (s : ByteArray) (c : UInt8) (e : Ending) : Prop :=
 (∃ a b, sl s = a ++ c :: b ∧ c ∉ a ∧ e = .returned (.tuple #[.string (mkS a), .string (mkS b), .bool true])) ∨ (c ∉ sl s ∧ e = .returned (.tuple #[.string s, .string ByteArray.empty, .bool false]))
theorem slite_cut_any (s : ByteArray) (c : UInt8) (w : World) (hs : s.size ≤ 140737488351232) :
  Calls Tryz.prog 100 #[.string s, .string ⟨#[c]⟩] w fun e w' => CutOne s c e ∧ ∃ n, w' = w.drewN n := by
 have HI := Lib.hid (Tryz.stringslite_Index_one s c)
 have hcs := indexByte_case (sl s) c
 rcases hcs with ⟨k, hk, h1, h2, h3⟩ | ⟨h1, h2⟩
 ·rw [sl_len] at hk
  rw [show Lib.indexByte s.data.toList c = (k : Int) from h1] at HI
  have HS : Hid (sl s = (sl s).take k ++ c :: (sl s).drop (k + 1) ∧ c ∉ (sl s).take k) := by
   refine ⟨?_, h3⟩
   conv => lhs; rw [← List.take_append_drop k (sl s), List.drop_eq_getElem_cons (by rw [sl_len]; exact hk), h2]
  have e1 : s.extract 0 k = mkS ((sl s).take k) := sl_inj (by rw [sl_extract, sl_mkS, Nat.sub_zero, List.drop_zero])
  have e2 : s.extract (k + 1) s.size = mkS ((sl s).drop (k + 1)) := sl_inj (by rw [sl_extract_end, sl_mkS])
  have i1 : (k : Int) + 1 ≤ (s.size : Int) := by omega
  have i2 : (k : Int) ≤ (s.size : Int) := by omega
  have htn : ((k : Int) + 1).toNat = k + 1 := by omega
  have hnn : 0 ≤ (k : Int) + 1 := by omega
  have hwr : IntKind.i64.wrap ((k : Int) + 1) = (k : Int) + 1 := IntWalk.i64_in _ (by omega)
  clear h1 h2 h3
  generalize (sl s).take k = a at *
  generalize (sl s).drop (k + 1) = b at *
  go_enter Tryz.func100, Tryz.ntmps100
  go_wp2_with fail
  refine (HI.out _).mono ?_
  rintro e w' ⟨rfl, rfl⟩
  go_wp2_with fail
  go_quiet (fail)
  go_wp2_with fail
  refine bodyPost_ret (v := .tuple #[.string (mkS a), .string (mkS b), .bool true]) (by simp [results, Tryz.results100, go_sem]) rfl ⟨.inl ⟨a, b, HS.out.1, HS.out.2, rfl⟩, _, rfl⟩
 ·rw [show Lib.indexByte s.data.toList c = -1 from h1] at HI
  have H2 := Lib.hid h2
  clear h1 h2
  go_enter Tryz.func100, Tryz.ntmps100
  go_wp2_with fail
  refine (HI.out _).mono ?_
  rintro e w' ⟨rfl, rfl⟩
  go_wp2_with fail
  refine bodyPost_ret (v := .tuple #[.string s, .string ByteArray.empty, .bool false]) (by simp [results, Tryz.results100, go_sem]; rfl) rfl ⟨.inr ⟨H2.out, rfl⟩, 0, rfl⟩
theorem cut_one (s : ByteArray) (c : UInt8) (w : World) (hs : s.size ≤ 140737488351232) :
  Calls Tryz.prog 59 #[.string s, .string ⟨#[c]⟩] w fun e w' => CutOne s c e ∧ Below w.heap.size w w' := by
 go_enter Tryz.func59, Tryz.ntmps59
 go_wp2_with fail
 refine (slite_cut_any s c _ hs).mono ?_
 rintro e w' ⟨h, n, rfl⟩
 rcases h with ⟨a, b, h1, h2, rfl⟩ | ⟨h1, rfl⟩
 ·have HR := Lib.hid (And.intro h1 h2)
  clear h1 h2
  go_wp2_with fail
  refine bodyPost_ret (v := .tuple #[.string (mkS a), .string (mkS b), .bool true]) (by simp [results, Tryz.results59, go_sem]) rfl ⟨.inl ⟨a, b, HR.out.1, HR.out.2, rfl⟩, Go.below_drewN (Below.refl _ _) _⟩
 ·have HR := Lib.hid h1
  clear h1
  go_wp2_with fail
  refine bodyPost_ret (v := .tuple #[.string s, .string ByteArray.empty, .bool false]) (by simp [results, Tryz.results59, go_sem]) rfl ⟨.inr ⟨HR.out, rfl⟩, Go.below_drewN (Below.refl _ _) _⟩
def lowT (n : ByteArray) : ByteArray := mkS (Tok.low (sl n))
structure Piece (p n v : ByteArray) : Prop where
 name : Tok.isTok n = true
 size : p.size ≤ 1000
 text : (sl p = sl n ++ 61 :: sl v ∧ Tok.isTok v = true) ∨ (sl p = sl n ++ 61 :: Tok.quoteL (sl v) ∧ (sl v).all Tok.plainB = true)
namespace Tok
end Tok
set_option maxRecDepth 20000
abbrev Dr := ByteArray × Bool × ByteArray
def vDr (d : Dr) : Value := .agg #[.string d.1, .bool d.2.1, .string d.2.2]
def okD (d : Dr) : Bool := Tok.isTok d.1 && (d.1.toList == (lowT d.1).toList) && (d.2.1 || d.2.2.toList.isEmpty)
def textD (d : Dr) : Option ByteArray :=
 if okD d then (if d.2.1 then (if Tok.isTok d.2.2 then some (d.1 ++ ⟨#[61]⟩ ++ d.2.2) else if (sl d.2.2).length ≤ 1000 ∧ (sl d.2.2).all Tok.plainB = true then some (d.1 ++ ⟨#[61]⟩ ++ mkS (Tok.quoteL (sl d.2.2))) else none) else some d.1) else none
end Go.Proofs.YtgnblkmpoigejaaGreatDoor
