import Derived.Test.YtgnblkmpoigejaaGreatDoorU15
import Derived.ArgAppend
import Derived.Test.YtgnblkmpoigejaaGreatDoorU9
import Derived.Test.YtgnblkmpoigejaaGreatDoorU13
import Derived.Test.YtgnblkmpoigejaaGreatDoorU1
import Derived.Laws.BitsAllLaws
import Derived.IntWalk
import Derived.Test.YtgnblkmpoigejaaGreatDoorU3
import Derived.Test.YtgnblkmpoigejaaGreatDoorU0
import Derived.Lib.Split
set_option linter.unusedVariables false
set_option linter.unusedSimpArgs false
namespace Go.Proofs.YtgnblkmpoigejaaGreatDoor
open Go.RowKit
namespace Pol
set_option maxHeartbeats 800000 in
theorem indexFldW_any (v : Value) (l : List Fld) (g : Nat) (n : List ByteArray) (w : World) (h : SlR w e_ss v l) (hl : l.length ≤ 140737488351232) (hz : Lims l) (w0 : World) (hc : CapW w w0 g n) (hns : n.length ≤ 140737488351232) :
  Calls Tryz.prog 134 #[v, wfn g] w fun e w' => e = .returned (.int .i64 (idxI (isW n) l)) ∧ Below w.heap.size w w' := by
 have h2 := Lib.hid (fun hn => fld_two h hn)
 obtain ⟨A, c, rfl, hcc, -⟩ := h
 have HC := Lib.hid hc
 clear hc
 unfold wfn
 go_enter Tryz.func134, Tryz.ntmps134
 go_wp2_with fail
 go_loopw [8] (fun i wr => ∃ k : Nat, k ≤ l.length ∧ i = .int .i64 k ∧ (l.take k).any (isW n) = false ∧ Below w.heap.size w wr) (fun i _ => l.length - (intOf i).toNat)
 case atStart => exact ⟨0, by omega, rfl, rfl, Below.refl _ _⟩
 case round =>
  obtain ⟨k, hk, rfl, hN, hbel⟩ := hrel
  have HN := Lib.hid hN
  clear hN
  by_cases hlt : k < l.length
  ·obtain ⟨b, o, c', he, hb, hcell⟩ := h2.out (by omega)
   obtain ⟨rfl, rfl⟩ : A = some ⟨b, o, none⟩ ∧ c = c' := by injection he with h1 h2 h3; exact ⟨h1, h3⟩
   obtain ⟨q0, q1⟩ := hcell k hlt
   have c0 := (hbel.cell (p := ⟨b, o + k * 2, none⟩) hb).trans q0
   have c1 := (hbel.cell (p := ⟨b, o + k * 2 + 1, none⟩) hb).trans q1
   clear hcell h2 q0 q1 he
   have HT : Hid ((l.take (k + 1)).any (isW n) = isW n l[k]) := by
    show _ = _; rw [List.take_add_one, List.getElem?_eq_getElem hlt, List.any_append, HN.out]; simp
   have HI : Hid (isW n l[k] = true → idxI (isW n) l = k) := fun hp => idx_yes hlt HN.out hp
   have hf := hz _ (List.getElem_mem hlt)
   generalize l[k] = f at c0 c1 HT HI hf
   cases hq : isW n f
   all_goals
    have HQ := Lib.hid hq
    clear hq
    go_wp2_with fail
    refine (without1_any f g n _ w0 (HC.out.below hbel) hf hns).mono ?_
    rintro e w1 ⟨rfl, b1⟩
    rw [HQ.out]
    go_wp2_with fail
   ·go_roundw
    case rel => exact ⟨k + 1, by omega, by go_num, by rw [HT.out, HQ.out], hbel.trans (b1.mono hbel.size)⟩
    case measure => simp [intOf]; omega
   ·go_ret
    exact ⟨ret_int (HI.out HQ.out).symm, hbel.trans (b1.mono hbel.size)⟩
  ·have HA : Hid (idxI (isW n) l = -1) := idx_no (by have := HN.out; rwa [List.take_of_length_le (by omega)] at this)
   go_wp2_with fail
   go_ret
   exact ⟨ret_int HA.out.symm, hbel⟩
def keepW (n : List ByteArray) (l : List Fld) : List Fld := l.filter (fun f => !isW n f)
theorem keepW_snoc {n : List ByteArray} {l : List Fld} {j : Nat} (h : j < l.length) : keepW n (l.take (j + 1)) = keepW n (l.take j) ++ (if isW n l[j] = true then [] else [l[j]]) := by
 unfold keepW
 rw [List.take_add_one, List.getElem?_eq_getElem h, List.filter_append]
 congr 1
 cases hq : isW n l[j] <;> simp [hq]
theorem keepW_none {n : List ByteArray} {l : List Fld} (h : l.any (isW n) = false) : keepW n l = l := by
 unfold keepW
 rw [List.filter_eq_self]
 intro x hx
 rw [List.any_eq_false] at h
 simpa using h x hx
set_option maxHeartbeats 3200000 in
set_option maxRecDepth 10000 in
theorem deleteFldW_any (v : Value) (l : List Fld) (base gn : Nat) (n : List ByteArray) (w : World) (h : Owns w base 57 2 e_ss v l) (hl : l.length ≤ 140737488351232) (hz : Lims l) (w0 : World) (hc : CapW w w0 gn n) (hns : n.length ≤ 140737488351232) (hne : v.ownBlock ≠ some gn) (hw0 : w0.heap.size ≤ base) :
  Calls Tryz.prog 105 #[v, wfn gn] w fun e w' => RetFlds base (keepW n l) e w' ∧ w.grownBy w' v.ownBlock := by
 have HO := Lib.hid h
 have HC := Lib.hid hc
 by_cases hany : l.any (isW n) = true
 ·obtain ⟨k, hk, hi, hpre, hp⟩ := idx_some hany
  obtain ⟨g, cap, rfl⟩ : ∃ g cap, v = .slice (some ⟨g, 0, none⟩) l.length cap := by
   rcases h.form with ⟨_, h0⟩ | h0
   ·rw [h0] at hk; simp at hk
   ·exact h0
  obtain ⟨-, -, hcap, hcm, -⟩ := h.row
  unfold maxLen at hcm
  have hgn : gn ≠ g := fun e => hne (by rw [e]; rfl)
  have hgb : w0.heap.size ≤ g := Nat.le_trans hw0 (h.lt g rfl).1
  have HI := Lib.hid (indexFldW_any _ l gn n w (SlR.of_owns h) hl hz w0 hc hns)
  rw [hi] at HI
  have hK : Hid (l.take k = keepW n (l.take (k + 1))) := by
   show _ = _
   rw [keepW_snoc hk, if_pos hp, List.append_nil, keepW_none hpre]
  clear hi hpre hp hany h hc hne
  have hk1 : ((k : Int) == -1) = false := by rw [beq_eq_false_iff_ne]; omega
  unfold wfn at HI ⊢
  go_enter Tryz.func105, Tryz.ntmps105
  go_wp2_with fail
  refine HI.out.mono ?_
  rintro e w1 ⟨rfl, b1⟩
  have HO1 := Lib.hid (HO.out.below b1)
  have HC1 := Lib.hid (HC.out.below b1)
  go_wp2_with fail
  go_loopw [5, 6] (fun i j wr => ∃ (i' j' : Nat) (L : List Fld), i' < j' ∧ j' ≤ l.length ∧ L.length = l.length ∧ i = .int .i64 i' ∧ j = .int .i64 j' ∧ L.take i' = keepW n (l.take j') ∧ L.drop j' = l.drop j' ∧ Owns wr base 57 2 e_ss (.slice (some ⟨g, 0, none⟩) l.length cap) L ∧ w1.grownBy wr (some g)) (fun _ j _ => l.length - (intOf j).toNat)
  case atStart => exact ⟨k, k + 1, l, by omega, by omega, rfl, rfl, by go_num, hK.out, rfl, HO1.out, World.grownBy.refl _ _⟩
  case round =>
   obtain ⟨i, j, L, hij, hj, hL, rfl, rfl, htk, hdr, hown, hgr⟩ := hrel
   have HL := Lib.hid hL
   have HT := Lib.hid htk
   have HD := Lib.hid hdr
   have HW := Lib.hid hown
   have hglt : g < wr.heap.size := (hown.lt g rfl).2
   clear hL htk hdr hown
   by_cases hlt : j < l.length
   ·have hjL : j < L.length := by rw [HL.out]; exact hlt
    have hiL : i < L.length := by omega
    have hLj : L[j] = l[j] := by
     have e := HD.out
     rw [List.drop_eq_getElem_cons hjL, List.drop_eq_getElem_cons hlt] at e
     injection e
    obtain ⟨c0, c1, -, -⟩ := HW.out.cells2 (fun _ => rfl) j hjL _ _ rfl rfl
    obtain ⟨q0, q1, f0, f1⟩ := HW.out.cells2 (fun _ => rfl) i hiL _ _ rfl rfl
    rw [hLj] at c0 c1
    have hf := hz _ (List.getElem_mem hlt)
    have HS := Lib.hid (keepW_snoc (n := n) hlt)
    have HP := Lib.hid (fun x : Fld => HW.out.put2 (fun _ => rfl) i hiL x (.string x.1) (.string x.2) rfl)
    generalize L[i] = fi at q0 q1
    generalize l[j] = f at c0 c1 hf HS
    clear hLj
    have b0 : Below wr.heap.size wr (wr.alloc (.cells #[.string f.1, .string f.2] 57)) := (Below.refl _ _).alloc (Nat.le_refl _) _
    have HCr := Lib.hid (((HC1.out.grown hgr hgn hgb).below b0))
    cases hq : isW n f
    all_goals
     have HQ := Lib.hid hq
     clear hq
     go_wp2_with fail
     refine (without1_any f gn n _ w0 HCr.out hf hns).mono ?_
     rintro e w2 ⟨rfl, b2⟩
     rw [HQ.out]
     have bw := b0.trans (b2.mono (by simp))
     have hgr2 := gr_below hgr bw
     have HS2 := HS.out
     rw [HQ.out] at HS2
     have HS3 := Lib.hid HS2
     clear HS2
    ·have e0 : w2.cell? ⟨wr.heap.size, 0, none⟩ = some (.string f.1) := (b2.cell (by simp)).trans (by go_simp)
     have e1 : w2.cell? ⟨wr.heap.size, 1, none⟩ = some (.string f.2) := (b2.cell (by simp)).trans (by go_simp)
     have d0 : w2.cell? ⟨g, i * 2, none⟩ = some (.string fi.1) := (bw.cell hglt).trans q0
     have d1 : w2.cell? ⟨g, i * 2 + 1, none⟩ = some (.string fi.2) := (bw.cell hglt).trans q1
     have g0 : w2.frozen? ⟨g, i * 2, none⟩ = false := (bw.frozen hglt).trans f0
     have g1 : w2.frozen? ⟨g, i * 2 + 1, none⟩ = false := (bw.frozen hglt).trans f1
     have HW2 := Lib.hid ((HW.out.below bw).put2 (fun _ => rfl) i hiL f (.string f.1) (.string f.2) rfl)
     clear q0 q1 f0 f1 c0 c1
     go_wp2_with fail
     go_roundw
     case rel =>
      refine ⟨i + 1, j + 1, L.set i f, by omega, by omega, by rw [List.length_set]; exact HL.out, by go_num, by go_num, ?_, ?_, HW2.out, gr_set (gr_set hgr2 _ _) _ _⟩
      ·rw [HS3.out, ← HT.out, if_neg (by decide), List.take_add_one, List.take_set_of_le (Nat.le_refl _), List.getElem?_set_self hiL]; rfl
      ·rw [List.drop_set_of_lt (by omega)]
       have e := HD.out
       rw [List.drop_eq_getElem_cons hjL, List.drop_eq_getElem_cons hlt] at e
       injection e
     case measure => simp [intOf]; omega
    ·go_wp2_with fail
     go_roundw
     case rel =>
      refine ⟨i, j + 1, L, by omega, by omega, HL.out, rfl, by go_num, ?_, ?_, HW.out.below bw, hgr2⟩
      ·rw [HS3.out, ← HT.out, if_pos trivial, List.append_nil]
      ·have e := HD.out
       rw [List.drop_eq_getElem_cons hjL, List.drop_eq_getElem_cons hlt] at e
       injection e
     case measure => simp [intOf]; omega
   ·have hE : Hid (L.take i = keepW n l) := by
     show _ = _; rw [HT.out, List.take_of_length_le (by omega)]
    have hiL : i ≤ L.length := by rw [HL.out]; omega
    have HWc : Hid (Owns wr base 57 2 e_ss (.slice (some ⟨g, 0, none⟩) L.length cap) L) := by rw [HL.out]; exact HW.out
    have i1 : (i : Int) ≤ (l.length : Int) := by omega
    go_wp2_with ((refine wpList_clear_owns (size := 2) rfl (.tmp 38) 23 rfl _ Tryz.underlying23 Tryz.zeroValue57 rfl (by decide) fld_z (fun _ => rfl) HW.out i (l.length - i) _ (by rw [HL.out]; omega) rfl ?_); intro w3 ho3 hg3)
    go_ret
    refine ⟨⟨_, rfl, by rw [← hE.out]; exact ho3⟩, gr_trans (gr_trans (gr_of b1) hgr) hg3⟩
 ·have hidx : idxI (isW n) l = -1 := idx_no (by simpa using hany)
  have hkp : keepW n l = l := keepW_none (by simpa using hany)
  have HI := Lib.hid (indexFldW_any v l gn n w (SlR.of_owns h) hl hz w0 hc hns)
  rw [hidx] at HI
  rw [hkp]
  clear hany h hidx hkp hc
  unfold wfn at HI ⊢
  go_enter Tryz.func105, Tryz.ntmps105
  go_wp2_with fail
  refine HI.out.mono ?_
  rintro e w1 ⟨rfl, b1⟩
  go_wp2_with fail
  go_ret
  exact ⟨⟨_, rfl, HO.out.below b1⟩, gr_of b1⟩
end Pol
set_option maxRecDepth 20000
namespace Pol
def txt (l : List Fld) (n : ByteArray) : ByteArray := joinS (selF l n) sep2
def isR (l : List Fld) (n : ByteArray) : Bool := decide (0 < (selF l n).length)
def wt (l : List Fld) : Nat := (l.map (fun f => f.1.size + f.2.size + 2)).sum
structure FOk (w : World) (u : Value) (l : List Fld) : Prop where
 sl : SlR w e_ss u l
 sum : wt l ≤ 4398046511104
theorem FOk.below {w w' : World} {u : Value} {l : List Fld} (h : FOk w u l) (hb : Below w.heap.size w w') : FOk w' u l := ⟨h.sl.below hb, h.sum⟩
theorem wt_len (l : List Fld) : l.length ≤ wt l := sum_len _ (fun _ => by omega) l
theorem wt_sum (l : List Fld) : (l.map (fun f => f.2.size + 2)).sum ≤ wt l := by
 unfold wt
 induction l with
 | nil => simp
 | cons x m ih => simp only [List.map_cons, List.sum_cons]; omega
theorem FOk.len {w : World} {u : Value} {l : List Fld} (h : FOk w u l) : l.length * 32 ≤ 140737488355328 := by have := wt_len l; have := h.sum; omega
theorem FOk.lims {w : World} {u : Value} {l : List Fld} (h : FOk w u l) : Lims l := fun f hf => by have := sum_mem (fun d : Fld => d.1.size + d.2.size + 2) hf; have := h.sum; unfold wt at this; omega
theorem FOk.join {w : World} {u : Value} {l : List Fld} (h : FOk w u l) (n : ByteArray) : (joinL (selF l n) sep2).length ≤ 140737488351232 := Nat.le_trans (selF_join l n) (by have := wt_sum l; have := h.sum; omega)
theorem wt_append (l m : List Fld) : wt (l ++ m) = wt l + wt m := by unfold wt; rw [List.map_append, List.sum_append]
theorem wt_filter (p : Fld → Bool) : ∀ l : List Fld, wt (l.filter p) ≤ wt l
 | [] => Nat.le_refl _
 | x :: l => by
  have ih := wt_filter p l
  unfold wt at *
  rw [List.filter_cons]
  split
  ·simp only [List.map_cons, List.sum_cons]; omega
  ·simp only [List.map_cons, List.sum_cons]; omega
theorem getP_any (u : Value) (l : List Fld) (n : ByteArray) (w : World) (h : FOk w u l) (hn : n.size ≤ 140737488351232) :
  Calls Tryz.prog 61 #[u, .string n] w fun e w' => e = .returned (.tuple #[.string (txt l n), .bool (isR l n)]) ∧ Below w.heap.size w w' := get_any u l n w h.sl h.len h.lims hn (h.join n)
def hop7 : List ByteArray := [⟨#[99, 111, 110, 110, 101, 99, 116, 105, 111, 110]⟩, ⟨#[107, 101, 101, 112, 45, 97, 108, 105, 118, 101]⟩, ⟨#[112, 114, 111, 120, 121, 45, 99, 111, 110, 110, 101, 99, 116, 105, 111, 110]⟩, ⟨#[116, 101]⟩, ⟨#[116, 114, 97, 105, 108, 101, 114]⟩, ⟨#[116, 114, 97, 110, 115, 102, 101, 114, 45, 101, 110, 99, 111, 100, 105, 110, 103]⟩, ⟨#[117, 112, 103, 114, 97, 100, 101]⟩]
def below4 : List ByteArray := [⟨#[99, 111, 110, 116, 101, 110, 116, 45, 108, 101, 110, 103, 116, 104]⟩, ⟨#[99, 111, 110, 116, 101, 110, 116, 45, 114, 97, 110, 103, 101]⟩, ⟨#[99, 111, 110, 116, 101, 110, 116, 45, 101, 110, 99, 111, 100, 105, 110, 103]⟩, ⟨#[99, 111, 110, 116, 101, 110, 116, 45, 116, 121, 112, 101]⟩]
def nConn : ByteArray := ⟨#[67, 111, 110, 110, 101, 99, 116, 105, 111, 110]⟩
def partsF (l : List Fld) : List ByteArray := match Tok.splitL (sl (txt l nConn)) with | .ok ps => ps.map mkS | .error _ => []
def hopsF (l : List Fld) : List ByteArray := hop7 ++ (partsF l).map lowS
open Tok in
theorem cutL_short (sign : UInt8) : ∀ (n : Nat) (l : List UInt8) (q : Bool) (cur : List UInt8) (ps : List (List UInt8)), l.length ≤ n → cutL sign q cur l = some ps → ∀ p ∈ ps, p.length ≤ cur.length + l.length
 | _, [], q, cur, ps, _, h, p, hp => by
  unfold cutL at h
  cases q
  ·simp only [Bool.false_eq_true, if_false, Option.some.injEq] at h; subst h; rw [List.mem_singleton] at hp; subst hp; omega
  ·simp at h
 | 0, c :: l, _, _, _, hn, _, _, _ => by simp at hn
 | n + 1, c :: l, q, cur, ps, hn, h, p, hp => by
  simp only [List.length_cons] at hn
  unfold cutL at h
  split at h
  ·have := cutL_short sign n l _ _ ps (by omega) h p hp
   simp only [List.length_append, List.length_cons, List.length_nil] at this ⊢; omega
  ·split at h
   ·cases l with
    | nil => simp at h
    | cons d l =>
     simp only [List.length_cons] at hn
     have := cutL_short sign n l _ _ ps (by omega) h p hp
     simp only [List.length_append, List.length_cons, List.length_nil] at this ⊢; omega
   ·split at h
    ·obtain ⟨qs, hq, rfl⟩ := Option.map_eq_some_iff.1 h
     rcases List.mem_cons.1 hp with rfl | hp
     ·omega
     ·have := cutL_short sign n l _ _ qs (by omega) hq p hp
      simp only [List.length_cons, List.length_nil] at this ⊢; omega
    ·have := cutL_short sign n l _ _ ps (by omega) h p hp
     simp only [List.length_append, List.length_cons, List.length_nil] at this ⊢; omega
open Tok in
theorem trimL_le (l : List UInt8) : (trimL l).length ≤ l.length := by
 unfold trimL
 rw [List.length_reverse]
 refine Nat.le_trans (List.dropWhile_sublist _).length_le ?_
 rw [List.length_reverse]
 exact (List.dropWhile_sublist _).length_le
open Tok in
theorem split_short {l : List UInt8} {ps : List (List UInt8)} (h : splitL l = .ok ps) : (∀ p ∈ ps, p.length ≤ 1000) ∧ ps.length ≤ 20 ∧ l.length ≤ 1000 := by
 unfold splitL at h
 split at h
 ·cases h
 ·rename_i hl
  cases hc : cutL 44 false [] l with
  | none => rw [hc] at h; cases h
  | some qs =>
   rw [hc] at h
   dsimp only at h
   split at h
   ·cases h
   ·rename_i h20
    injection h with h
    subst h
    refine ⟨fun p hp => ?_, by omega, by omega⟩
    obtain ⟨q, hq, rfl⟩ := List.mem_map.1 (List.mem_filter.1 hp).1
    have h1 := trimL_le q
    have h2 := cutL_short 44 _ l _ _ qs (Nat.le_refl _) hc q hq
    simp only [List.length_nil] at h2; omega
theorem parts_len (l : List Fld) : (partsF l).length ≤ 20 := by
 unfold partsF
 split
 ·rename_i ps h
  rw [List.length_map]; exact (split_short h).2.1
 ·simp
theorem parts_size (l : List Fld) : ∀ p ∈ partsF l, p.size ≤ 140737488351232 := by
 unfold partsF
 split
 ·rename_i ps h
  intro p hp
  obtain ⟨q, hq, rfl⟩ := List.mem_map.1 hp
  rw [mkS_size]
  have := (split_short h).1 q hq; omega
 ·simp
def stripF (l : List Fld) : List Fld := keepW (hopsF l) l
def namesF (l : List Fld) : List ByteArray := (l.map (fun f => lowS f.1)).filter (fun n => !hasB below4 n)
def freshF (old now : List Fld) : List Fld := keepW (namesF now) old ++ keepW below4 (stripF now)
theorem wpList_append_full {P : Program} {α : Type} {ops : Array Oper} {rest : List Oper} {o : Oper} {a : Act} {Q : Exit → Act → World → Prop} {w : World} (hgd : o.guard = none) (s x : Operand) (t : TypeId)
  (ho : o.op = .call { callee := .builtin .append, args := #[s, x], argTypes := #[t, t] })
  (base : Nat) (e : TypeId) (z : Value) (size bytes : Nat) (enc : α → List Value) (ht : P.underlying t = some (.slice e)) (hi : ElemInfo P e z size bytes)
  (hzs : z.cells.size = size) (hsz : 0 < size) (hen : ∀ x, (enc x).length = size)
  (g n : Nat) (xs : List α) (hn : n = xs.length) (hs : a.eval s = .slice (some ⟨g, 0, none⟩) n n) (hown : Owns w base e size enc (.slice (some ⟨g, 0, none⟩) n n) xs)
  (ad : Addr) (m c : Nat) (news : List α) (hx : a.eval x = .slice (some ad) m c) (hm : m = news.length) (hm0 : 0 < m) (hnews : ∀ j u, (news.flatMap enc)[j]? = some u → w.cell? (ad.add j) = some u) (h1 : ∀ u ∈ news.flatMap enc, u.oneCell' = true)
  (h63 : n + m ≤ maxLen) (hbytes : (n + m) * bytes ≤ 140737488355328)
  (h : ∀ v' w', Owns w' w.heap.size e size enc v' (xs ++ news) → Below w.heap.size w w' → wpList P ops Q rest (a.put o.dst v') w') : wpList P ops Q (o :: rest) a w := by
 obtain ⟨i, hi0, hz0, hz1, hz2⟩ := info_parts hi
 subst hn
 refine wpList_append_grows w hgd s x t ho e i z size bytes ht hi0 hz0 hz1 hz2 hzs hsz (some ⟨g, 0, none⟩) xs.length xs.length (xs.flatMap enc) hs (fun h => by cases h) (flat_len hen xs) (fun b hb j u hu => ?_) ad m c (news.flatMap enc) hx (by rw [hm]; exact flat_len hen news) hnews h1 (by omega) h63 hbytes (fun v' w' h2 h3 => h v' w' ?_ ?_)
 ·injection hb with hb
  subst hb
  exact World.ownsRow.cells hown (g := g) rfl j u hu
 ·unfold Owns
  rw [List.length_append, List.flatMap_append, ← hm]
  exact h2
 ·exact ⟨h3.os, h3.tape, h3.output, h3.size, fun k hk => h3.block k hk (by intro e; cases e)⟩
set_option maxHeartbeats 3200000 in
theorem hops_any (u : Value) (l : List Fld) (w : World) (h : FOk w u l) :
  Calls Tryz.prog 107 #[u] w fun e w' => (∃ v, e = .returned v ∧ Owns w' w.heap.size 9 1 es v (hopsF l)) ∧ Below w.heap.size w w' := by
 have b0 : Below w.heap.size w (w.alloc (.cells #[.string ⟨#[99, 111, 110, 110, 101, 99, 116, 105, 111, 110]⟩, .string ⟨#[107, 101, 101, 112, 45, 97, 108, 105, 118, 101]⟩, .string ⟨#[112, 114, 111, 120, 121, 45, 99, 111, 110, 110, 101, 99, 116, 105, 111, 110]⟩, .string ⟨#[116, 101]⟩, .string ⟨#[116, 114, 97, 105, 108, 101, 114]⟩, .string ⟨#[116, 114, 97, 110, 115, 102, 101, 114, 45, 101, 110, 99, 111, 100, 105, 110, 103]⟩, .string ⟨#[117, 112, 103, 114, 97, 100, 101]⟩] 9)) := (Below.refl _ _).alloc (Nat.le_refl _) _
 have HO : Hid (Owns (w.alloc (.cells #[.string ⟨#[99, 111, 110, 110, 101, 99, 116, 105, 111, 110]⟩, .string ⟨#[107, 101, 101, 112, 45, 97, 108, 105, 118, 101]⟩, .string ⟨#[112, 114, 111, 120, 121, 45, 99, 111, 110, 110, 101, 99, 116, 105, 111, 110]⟩, .string ⟨#[116, 101]⟩, .string ⟨#[116, 114, 97, 105, 108, 101, 114]⟩, .string ⟨#[116, 114, 97, 110, 115, 102, 101, 114, 45, 101, 110, 99, 111, 100, 105, 110, 103]⟩, .string ⟨#[117, 112, 103, 114, 97, 100, 101]⟩] 9)) w.heap.size 9 1 es (.slice (some ⟨w.heap.size, 0, none⟩) 7 7) hop7) := Owns.lit (size := 1) (enc := es) (e := 9) w w.heap.size #[.string ⟨#[99, 111, 110, 110, 101, 99, 116, 105, 111, 110]⟩, .string ⟨#[107, 101, 101, 112, 45, 97, 108, 105, 118, 101]⟩, .string ⟨#[112, 114, 111, 120, 121, 45, 99, 111, 110, 110, 101, 99, 116, 105, 111, 110]⟩, .string ⟨#[116, 101]⟩, .string ⟨#[116, 114, 97, 105, 108, 101, 114]⟩, .string ⟨#[116, 114, 97, 110, 115, 102, 101, 114, 45, 101, 110, 99, 111, 100, 105, 110, 103]⟩, .string ⟨#[117, 112, 103, 114, 97, 100, 101]⟩] hop7 (Nat.le_refl _) (by decide) rfl rfl
 have HG := Lib.hid (fun w' (hb : Below w.heap.size w w') => getP_any u l nConn w' (h.below hb) (by decide))
 have HT : (txt l nConn).size ≤ 140737488351232 := by unfold txt joinS; rw [mkS_size]; exact h.join nConn
 have HP : Hid (partsF l = match Tok.splitL (sl (txt l nConn)) with | .ok ps => ps.map mkS | .error _ => []) := rfl
 have hpl := parts_len l
 have HPS := Lib.hid (parts_size l)
 have HH : Hid (hopsF l = hop7 ++ (partsF l).map lowS) := rfl
 clear h
 generalize hopsF l = H at *
 generalize partsF l = ps at *
 generalize txt l nConn = T at *
 generalize isR l nConn = q at *
 go_enter Tryz.func107, Tryz.ntmps107
 go_wp2_with fail
 refine (HG.out _ b0).mono ?_
 rintro e w1 ⟨rfl, b1⟩
 have B1 := b0.trans (b1.mono b0.size)
 have HO1 := Lib.hid (HO.out.below b1)
 go_wp2_with fail
 refine (split_any T _ HT).mono ?_
 rintro e w2 ⟨hans, b2⟩
 have B2 := belT B1 b2
 have HO2 := Lib.hid (HO1.out.below b2)
 have hans2 : ∃ v c, e = .returned (.tuple #[v, .int .i64 c]) ∧ SlR w2 es v ps := by
  unfold SplitAns at hans
  have hp := HP.out
  split at hans
  ·rename_i c hc
   rw [hc] at hp
   dsimp only at hp
   subst hp
   exact ⟨_, _, hans, SlR.nil _ _⟩
  ·rename_i out hc
   rw [hc] at hp
   dsimp only at hp
   subst hp
   obtain ⟨v, he, ho⟩ := hans
   exact ⟨v, 0, he, SlR.of_owns ho⟩
 obtain ⟨v, c, rfl, hsl⟩ := hans2
 have HSL := Lib.hid hsl
 have H2 := Lib.hid (fun hn => hsl.texts hn)
 obtain ⟨A, cc, rfl, hcc, -⟩ := hsl
 have h7 : hop7.length = 7 := rfl
 have HO3 : Hid (Owns w2 w.heap.size 9 1 es (.slice (some ⟨w.heap.size, 0, none⟩) 7 7) hop7) := HO2.out
 have hw2 : w.heap.size ≤ w2.heap.size := B2.size
 clear hans HP HO HO1 HO2 HG
 go_wp2_with fail
 go_loopw [3, 23] (fun t i wr => ∃ k : Nat, k ≤ ps.length ∧ i = .int .i64 k ∧ ((k = 0 ∧ t = .slice (some ⟨w.heap.size, 0, none⟩) 7 7 ∧ Owns wr w.heap.size 9 1 es t hop7) ∨ (0 < k ∧ Owns wr w2.heap.size 9 1 es t (hop7 ++ (ps.take k).map lowS))) ∧ Below w2.heap.size w2 wr) (fun _ i _ => ps.length - (intOf i).toNat)
 case atStart => exact ⟨0, by omega, rfl, .inl ⟨rfl, rfl, HO3.out⟩, Below.refl _ _⟩
 case round =>
  obtain ⟨k, hk, rfl, hown, hbel⟩ := hrel
  by_cases hlt : k < ps.length
  ·obtain ⟨b, off, c', he, _, hbb, hcell⟩ := H2.out (by omega)
   obtain ⟨rfl, rfl⟩ : A = some ⟨b, off, none⟩ ∧ cc = c' := by injection he with h1 h2 h3; exact ⟨h1, h3⟩
   have c0 := (hbel.cell (p := ⟨b, off + k, none⟩) hbb).trans (hcell k hlt)
   have hsz := HPS.out _ (List.getElem_mem hlt)
   have HTK : Hid ((ps.take (k + 1)).map lowS = (ps.take k).map lowS ++ [lowS ps[k]]) := by
    show _ = _; rw [List.take_add_one, List.getElem?_eq_getElem hlt, List.map_append]; rfl
   have hlen : (hop7 ++ (ps.take k).map lowS).length = 7 + k := by rw [List.length_append, List.length_map, List.length_take, h7]; omega
   clear hcell he
   generalize ps[k] = x at *
   rcases hown with ⟨rfl, rfl, ho⟩ | ⟨hk0, ho⟩
   ·have HOW := Lib.hid ho
    clear ho
    rw [Nat.add_zero] at c0
    go_wp2_with fail
    refine (lower_any x _ hsz).mono ?_
    rintro e w3 ⟨rfl, b3⟩
    have B3 := belT hbel b3
    have HO3 := Lib.hid ((HOW.out.below b3).alloc (.cells #[.string (mkS (Tok.low (sl x)))] 9))
    have b4 := B3.alloc B3.size (.cells #[.string (mkS (Tok.low (sl x)))] 9)
    have HNC := Lib.hid (new_cells w3 [.string (mkS (Tok.low (sl x)))] 9)
    go_wp2_with (at_builtin; go_must (refine wpList_append_full rfl (.tmp 27) (.tmp 30) _ rfl w.heap.size 9 (.string ByteArray.empty) 1 16 es Tryz.underlying59 stringInfo rfl (by decide) (fun _ => rfl) w.heap.size 7 hop7 rfl rfl HO3.out ⟨w3.heap.size, 0, none⟩ 1 1 [mkS (Tok.low (sl x))] rfl rfl (by decide) HNC.out (es_one [mkS (Tok.low (sl x))]) (by decide) (by decide) ?_); intro v5 w5 o5 b5)
    have B5 := b4.trans (b5.mono b4.size)
    go_roundw
    case rel => exact ⟨1, by omega, rfl, .inr ⟨by omega, by rw [HTK.out]; exact o5.mono b4.size⟩, B5⟩
    case measure => simp [intOf]; omega
   ·obtain ⟨A1, c1, hv1⟩ := ho.slice
    rw [hlen] at hv1
    subst hv1
    have HOW := Lib.hid ho
    clear ho
    go_wp2_with fail
    refine (lower_any x _ hsz).mono ?_
    rintro e w3 ⟨rfl, b3⟩
    have B3 := belT hbel b3
    have HO3 := Lib.hid (HOW.out.below b3)
    go_wp2_with (at_builtin; go_must (refine wpList_append_owns rfl (.tmp 27) (.tmp 30) _ rfl w2.heap.size 9 (.string ByteArray.empty) 1 16 es Tryz.underlying59 stringInfo rfl (by decide) _ _ rfl (HO3.out.alloc _) ⟨w3.heap.size, 0, none⟩ 1 1 [mkS (Tok.low (sl x))] rfl rfl rfl (new_cells _ [.string (mkS (Tok.low (sl x)))] _) (es_one [mkS (Tok.low (sl x))]) (by rw [hlen]; simp only [maxLen]; omega) (by rw [hlen]; omega) (bel_size B3 (Nat.le_refl _) _) ?_); intro v5 w5 hown5 hg5)
    have B5 := bel_append B3 (Nat.le_refl _) HO3.out hg5
    go_roundw
    case rel => exact ⟨k + 1, by omega, by go_num, .inr ⟨by omega, by rw [HTK.out, ← List.append_assoc]; exact hown5⟩, B5⟩
    case measure => simp [intOf]; omega
  ·obtain rfl : k = ps.length := by omega
   have hE : ps.take ps.length = ps := List.take_of_length_le (Nat.le_refl _)
   have B := B2.trans (hbel.mono hw2)
   rcases hown with ⟨h0, rfl, ho⟩ | ⟨h0, ho⟩
   ·have HOW : Hid (Owns wr w.heap.size 9 1 es (.slice (some ⟨w.heap.size, 0, none⟩) 7 7) H) := by
     show Owns _ _ _ _ _ _ _
     rw [HH.out, List.length_eq_zero_iff.1 h0, List.map_nil, List.append_nil]; exact ho
    clear ho
    go_wp2_with fail
    go_ret
    exact ⟨⟨_, rfl, HOW.out⟩, B⟩
   ·rw [hE, ← HH.out] at ho
    have HOW := Lib.hid (ho.mono hw2)
    clear ho
    go_wp2_with fail
    go_ret
    exact ⟨⟨_, rfl, HOW.out⟩, B⟩
set_option maxHeartbeats 1600000 in
theorem without_any (u v : Value) (l : List Fld) (ns : List ByteArray) (w : World) (h : FOk w u l) (hv : SlR w es v ns) (hns : ns.length ≤ 140737488351232) :
  Calls Tryz.prog 64 #[u, v] w fun e w' => RetFlds w.heap.size (keepW ns l) e w' ∧ Below w.heap.size w w' := by
 have b0 : Below w.heap.size w (w.alloc (.cells #[v] 59)) := (Below.refl _ _).alloc (Nat.le_refl _) _
 have hl : l.length ≤ 140737488351232 := by have := h.len; omega
 have HC := Lib.hid (cloneFld_any u l _ (h.sl.below b0) h.len)
 have hlims := h.lims
 have HD := Lib.hid (fun x base gn w (hx : Owns w base 57 2 e_ss x l) w0 hc hne hw0 => deleteFldW_any x l base gn ns w hx hl hlims w0 hc hns hne hw0)
 have hcap : CapW (w.alloc (.cells #[v] 59)) w w.heap.size ns := ⟨by simp, ⟨v, by go_simp, hv⟩, by simp, fun p hp => World.cell?_alloc_lt w _ p hp⟩
 have HCap := Lib.hid hcap
 obtain ⟨A, c, rfl, -⟩ := hv.form
 clear h hv hcap
 unfold wfn at HD
 go_enter Tryz.func64, Tryz.ntmps64
 go_wp2_with fail
 refine HC.out.mono ?_
 rintro e w1 ⟨⟨x, rfl, o1⟩, b1⟩
 have B1 := b0.trans (b1.mono b0.size)
 have hsz : (w.alloc (.cells #[.slice A ns.length c] 59)).heap.size = w.heap.size + 1 := by simp
 have hne : x.ownBlock ≠ some w.heap.size := fun e => by have := (o1.lt _ e).1; omega
 have HO1 := Lib.hid o1
 clear o1
 go_wp2_with fail
 refine (HD.out x _ w.heap.size _ HO1.out w (HCap.out.below b1) hne (by omega)).mono ?_
 rintro e w2 ⟨⟨y, rfl, o2⟩, g2⟩
 have HO2 := Lib.hid (o2.mono (base' := w.heap.size) (by omega))
 have B2 : Below w.heap.size w w2 := B1.grown g2 B1.size (fun k hk => Nat.le_trans (by omega) (HO1.out.lt k hk).1)
 clear o2 g2
 go_wp2_with fail
 go_ret
 exact ⟨⟨_, rfl, HO2.out⟩, B2⟩
end Pol
set_option maxRecDepth 20000
namespace Pol
theorem hops_len (l : List Fld) : (hopsF l).length ≤ 27 := by
 unfold hopsF
 have := parts_len l
 rw [List.length_append, List.length_map, show hop7.length = 7 from rfl]
 omega
theorem strip_any (u : Value) (l : List Fld) (w : World) (h : FOk w u l) :
  Calls Tryz.prog 65 #[u] w fun e w' => RetFlds w.heap.size (stripF l) e w' ∧ Below w.heap.size w w' := by
 have hh := hops_len l
 go_enter Tryz.func65, Tryz.ntmps65
 go_wp2_with fail
 refine (hops_any u l _ h).mono ?_
 rintro e w1 ⟨⟨v, rfl, o1⟩, b1⟩
 have HS := Lib.hid (SlR.of_owns o1)
 clear o1
 go_wp2_with fail
 refine (without_any u v l (hopsF l) _ (h.below b1) HS.out (by omega)).mono ?_
 rintro e w2 ⟨⟨y, rfl, o2⟩, b2⟩
 have HO2 := Lib.hid (o2.mono b1.size)
 clear o2
 go_wp2_with fail
 go_ret
 exact ⟨⟨_, rfl, HO2.out⟩, belT b1 b2⟩
theorem names_take {l : List Fld} {k : Nat} (h : k < l.length) : namesF (l.take (k + 1)) = namesF (l.take k) ++ (if hasB below4 (lowS l[k].1) = true then [] else [lowS l[k].1]) := by
 unfold namesF
 rw [List.take_add_one, List.getElem?_eq_getElem h, List.map_append, List.filter_append]
 congr 1
 simp only [Option.toList_some, List.map_cons, List.map_nil, List.filter_cons, List.filter_nil]
 cases hasB below4 (lowS l[k].1) <;> simp
theorem names_len (l : List Fld) : (namesF l).length ≤ l.length := by
 unfold namesF
 exact Nat.le_trans (List.length_filter_le ..) (by rw [List.length_map]; exact Nat.le_refl _)
set_option maxHeartbeats 3200000 in
theorem freshen_any (u v : Value) (old now : List Fld) (w : World) (h : FOk w u old) (hv : FOk w v now) (hs : wt old + wt now ≤ 4398046511104) :
  Calls Tryz.prog 20 #[u, v] w fun e w' => RetFlds w.heap.size (freshF old now) e w' ∧ Below w.heap.size w w' := by
 have HB0 : Hid (SlR (w.alloc (.cells #[.string ⟨#[99, 111, 110, 116, 101, 110, 116, 45, 108, 101, 110, 103, 116, 104]⟩, .string ⟨#[99, 111, 110, 116, 101, 110, 116, 45, 114, 97, 110, 103, 101]⟩, .string ⟨#[99, 111, 110, 116, 101, 110, 116, 45, 101, 110, 99, 111, 100, 105, 110, 103]⟩, .string ⟨#[99, 111, 110, 116, 101, 110, 116, 45, 116, 121, 112, 101]⟩] 9)) es (.slice (some ⟨w.heap.size, 0, none⟩) 4 4) below4) := SlR.lit (enc := es) w [.string ⟨#[99, 111, 110, 116, 101, 110, 116, 45, 108, 101, 110, 103, 116, 104]⟩, .string ⟨#[99, 111, 110, 116, 101, 110, 116, 45, 114, 97, 110, 103, 101]⟩, .string ⟨#[99, 111, 110, 116, 101, 110, 116, 45, 101, 110, 99, 111, 100, 105, 110, 103]⟩, .string ⟨#[99, 111, 110, 116, 101, 110, 116, 45, 116, 121, 112, 101]⟩] 9 below4 rfl
 have b0 : Below w.heap.size w (w.alloc (.cells #[.string ⟨#[99, 111, 110, 116, 101, 110, 116, 45, 108, 101, 110, 103, 116, 104]⟩, .string ⟨#[99, 111, 110, 116, 101, 110, 116, 45, 114, 97, 110, 103, 101]⟩, .string ⟨#[99, 111, 110, 116, 101, 110, 116, 45, 101, 110, 99, 111, 100, 105, 110, 103]⟩, .string ⟨#[99, 111, 110, 116, 101, 110, 116, 45, 116, 121, 112, 101]⟩] 9)) := (Below.refl _ _).alloc (Nat.le_refl _) _
 have HU := Lib.hid (h.below b0)
 have HV := Lib.hid (hv.below b0)
 have hfl := hv.lims
 have hln := hv.len
 have hlo := h.len
 have hwl1 := wt_len old
 have hwl2 := wt_len now
 have H2 := Lib.hid (fun hn => fld_two (hv.sl.below b0) hn)
 obtain ⟨A, c, rfl, -⟩ := hv.sl.form
 clear h hv
 go_enter Tryz.func20, Tryz.ntmps20
 go_wp2_with fail
 generalize w.alloc (.cells #[.string ⟨#[99, 111, 110, 116, 101, 110, 116, 45, 108, 101, 110, 103, 116, 104]⟩, .string ⟨#[99, 111, 110, 116, 101, 110, 116, 45, 114, 97, 110, 103, 101]⟩, .string ⟨#[99, 111, 110, 116, 101, 110, 116, 45, 101, 110, 99, 111, 100, 105, 110, 103]⟩, .string ⟨#[99, 111, 110, 116, 101, 110, 116, 45, 116, 121, 112, 101]⟩] 9) = w0 at *
 go_loopw [6, 13] (fun t i wr => ∃ k : Nat, k ≤ now.length ∧ i = .int .i64 k ∧ Owns wr w0.heap.size 9 1 es t (namesF (now.take k)) ∧ Below w0.heap.size w0 wr) (fun _ i _ => now.length - (intOf i).toNat)
 case atStart => exact ⟨0, by omega, rfl, Owns.nil .., Below.refl _ _⟩
 case round =>
  obtain ⟨k, hk, rfl, hown, hbel⟩ := hrel
  have HO := Lib.hid hown
  by_cases hlt : k < now.length
  ·obtain ⟨A1, c1, hv1⟩ := hown.slice
   have hnl : (namesF (now.take k)).length ≤ now.length := Nat.le_trans (names_len _) (by simp; omega)
   obtain ⟨b, o, c', he, hb, hcell⟩ := H2.out (by omega)
   obtain ⟨rfl, rfl⟩ : A = some ⟨b, o, none⟩ ∧ c = c' := by injection he with h1 h2 h3; exact ⟨h1, h3⟩
   obtain ⟨q0, q1⟩ := hcell k hlt
   have c0 := (hbel.cell (p := ⟨b, o + k * 2, none⟩) hb).trans q0
   have c1 := (hbel.cell (p := ⟨b, o + k * 2 + 1, none⟩) hb).trans q1
   have HT := Lib.hid (names_take hlt)
   have hf := hfl _ (List.getElem_mem hlt)
   clear hcell q0 q1 he hown
   generalize now[k] = f at *
   obtain ⟨fn, fv⟩ := f
   dsimp only at c0 c1 hf
   have bA : Below wr.heap.size wr (wr.alloc (.cells #[.string fn, .string fv] 57)) := (Below.refl _ _).alloc (Nat.le_refl _) _
   have BA := belT hbel bA
   have HLO := Lib.hid (fun w => lower_any fn w hf)
   have HOA := Lib.hid (HO.out.below bA)
   rw [show mkS (Tok.low (sl fn)) = lowS fn from rfl] at HLO
   dsimp only at HT
   generalize namesF (now.take k) = N at *
   subst hv1
   generalize lowS fn = n at *
   go_wp2_with fail
   refine (HLO.out _).mono ?_
   rintro e w1 ⟨rfl, b1⟩
   have B1 := belT BA b1
   have HO1 := Lib.hid (HOA.out.below b1)
   go_wp2_with fail
   refine (containsB_any _ below4 n _ (HB0.out.below B1) (by decide)).mono ?_
   rintro e w2 ⟨rfl, b2⟩
   have B2 := belT B1 b2
   have HO2 := Lib.hid (HO1.out.below b2)
   cases hq : hasB below4 n
   ·rw [hq] at HT
    go_wp2_with (at_builtin; go_must (refine wpList_append_owns rfl (.tmp 24) (.tmp 26) _ rfl w0.heap.size 9 (.string ByteArray.empty) 1 16 es Tryz.underlying59 stringInfo rfl (by decide) _ _ rfl (HO2.out.alloc _) ⟨w2.heap.size, 0, none⟩ 1 1 [n] rfl rfl rfl (new_cells _ [.string n] _) (es_one [n]) (by simp only [maxLen]; omega) (by omega) (bel_size B2 (Nat.le_refl _) _) ?_); intro v5 w5 hown5 hg5)
    go_roundw
    case rel => exact ⟨k + 1, by omega, by go_num, by rw [HT.out, if_neg (by simp)]; exact hown5, bel_append B2 (Nat.le_refl _) HO2.out hg5⟩
    case measure => simp [intOf]; omega
   ·rw [hq] at HT
    go_wp2_with fail
    go_roundw
    case rel => exact ⟨k + 1, by omega, by go_num, by rw [HT.out, if_pos trivial, List.append_nil]; exact HO2.out, B2⟩
    case measure => simp [intOf]; omega
  ·have hE : now.take k = now := List.take_of_length_le (by omega)
   rw [hE] at HO
   have hnl := names_len now
   obtain ⟨A1, c1, hv1⟩ := HO.out.slice
   have HN := Lib.hid (SlR.of_owns HO.out)
   have HR : Hid (freshF old now = keepW (namesF now) old ++ keepW below4 (stripF now)) := rfl
   have hk1 : wt (keepW (namesF now) old) ≤ wt old := wt_filter _ _
   have hk2 : wt (stripF now) ≤ wt now := wt_filter _ _
   have hk3 : wt (keepW below4 (stripF now)) ≤ wt (stripF now) := wt_filter _ _
   have hk4 := wt_len (keepW (namesF now) old)
   have hk5 := wt_len (keepW below4 (stripF now))
   have hst : wt (stripF now) ≤ 4398046511104 := by omega
   have HUr := Lib.hid (HU.out.below hbel)
   have HVr := Lib.hid (HV.out.below hbel)
   have HBr := Lib.hid (HB0.out.below hbel)
   have hB := b0.trans (hbel.mono b0.size)
   generalize hX3 : keepW below4 (stripF now) = X3 at *
   generalize hX1 : keepW (namesF now) old = X1 at *
   generalize namesF now = N at *
   subst hv1
   go_wp2_with fail
   refine (without_any u _ old N _ HUr.out HN.out (by omega)).mono ?_
   rintro e w1 ⟨⟨x1, rfl, o1⟩, b1⟩
   rw [hX1] at o1
   have B1 := belT hB b1
   go_wp2_with fail
   refine (strip_any _ now _ (HVr.out.below b1)).mono ?_
   rintro e w2 ⟨⟨x2, rfl, o2⟩, b2⟩
   have B2 := belT B1 b2
   have HF2 : Hid (FOk w2 x2 (stripF now)) := ⟨SlR.of_owns o2, hst⟩
   clear o2
   go_wp2_with fail
   refine (without_any x2 _ (stripF now) below4 _ HF2.out ((HBr.out.below b1).below b2) (by decide)).mono ?_
   rintro e w3 ⟨⟨x3, rfl, o3⟩, b3⟩
   rw [hX3] at o3
   have B3 := belT B2 b3
   have HO1 := Lib.hid ((o1.below b2).below b3)
   have HS3 := Lib.hid (SlR.of_owns o3)
   clear o1 o3
   go_wp2_with (at_builtin; go_must (refine wpList_append_slr rfl (.tmp 31) (.tmp 35) _ rfl wr.heap.size 57 (.agg #[.string ByteArray.empty, .string ByteArray.empty]) 2 32 e_ss Tryz.underlying23 fldInfoB rfl (by decide) (fun _ => rfl) _ X1 rfl HO1.out _ X3 rfl HS3.out (ss_oneB _) (by simp only [maxLen]; omega) (by omega) (belT (belT b1 b2) b3).size ?_); intro v4 w4 o4 g4)
   rw [← HR.out] at o4
   have HO4 := Lib.hid (o4.mono hB.size)
   have B4 := B3.grown g4 B3.size (fun k hk => Nat.le_trans hB.size (HO1.out.lt k hk).1)
   clear o4 g4
   go_wp2_with fail
   go_ret
   exact ⟨⟨v4, rfl, HO4.out⟩, B4⟩
end Pol
namespace Tar
def alnum (c : UInt8) : Bool := (97 ≤ c && c ≤ 122) || (65 ≤ c && c ≤ 90) || (48 ≤ c && c ≤ 57)
def marks : List UInt8 := [45, 46, 95, 126]
def freeB (c : UInt8) : Bool := alnum c || marks.contains c
def hexU (d : Nat) : UInt8 := if d < 10 then UInt8.ofNat (48 + d) else UInt8.ofNat (55 + d)
def esc3 (c : UInt8) : List UInt8 := [37, hexU (c.toNat / 16), hexU (c.toNat % 16)]
def esc (c : UInt8) : List UInt8 := if freeB c then [c] else esc3 c
def escs (l : List UInt8) : List UInt8 := l.flatMap esc
theorem esc_len (c : UInt8) : (esc c).length ≤ 3 := by unfold esc esc3; split <;> simp
def digI (c : UInt8) : Int :=
 if 48 ≤ c ∧ c ≤ 57 then (c.toNat : Int) - 48 else if 97 ≤ c ∧ c ≤ 102 then (c.toNat : Int) - 87 else if 65 ≤ c ∧ c ≤ 70 then (c.toNat : Int) - 55 else -1
theorem digI_bd (c : UInt8) : -1 ≤ digI c ∧ digI c ≤ 15 := by
 unfold digI
 simp only [u8_le]
 have e48 : ((48 : UInt8).toNat : Int) = 48 := rfl
 have e57 : ((57 : UInt8).toNat : Int) = 57 := rfl
 have e97 : ((97 : UInt8).toNat : Int) = 97 := rfl
 have e102 : ((102 : UInt8).toNat : Int) = 102 := rfl
 have e65 : ((65 : UInt8).toNat : Int) = 65 := rfl
 have e70 : ((70 : UInt8).toNat : Int) = 70 := rfl
 rw [e48, e57, e97, e102, e65, e70]
 split
 ·omega
 ·split
  ·omega
  ·split <;> omega
end Tar
theorem talnum_iff (c : UInt8) : Tar.alnum c = true ↔ (97 ≤ (c.toNat : Int) ∧ (c.toNat : Int) ≤ 122) ∨ (65 ≤ (c.toNat : Int) ∧ (c.toNat : Int) ≤ 90) ∨ (48 ≤ (c.toNat : Int) ∧ (c.toNat : Int) ≤ 57) := by
 simp [Tar.alnum, u8_le]
 omega
set_option maxHeartbeats 800000 in
theorem isFree_any (c : UInt8) (w : World) :
  Calls Tryz.prog 57 #[.int .u8 c.toNat] w fun e w' => e = .returned (.bool (Tar.freeB c)) ∧ w = w' := by
 have hb := c.toNat_lt
 cases ha : Tar.alnum c
 ·have hn : ¬ _ := fun h => by have := (talnum_iff c).2 h; rw [ha] at this; cases this
  have hi : decide (0 ≤ Lib.indexByte Tar.marks c) = Tar.freeB c := by rw [indexByte_nn]; unfold Tar.freeB; rw [ha, Bool.false_or]
  have hc : (c.toNat : Int).toNat.toUInt8 = c := by simp
  have HI := Lib.hid (Tryz.strings_IndexByte ⟨Tar.marks.toArray⟩ (c.toNat : Int))
  rw [hc] at HI
  have HD := Lib.hid hi
  clear hc hi ha
  simp only [not_or, not_and, Int.not_le] at hn
  obtain ⟨n1, n2, n3⟩ := hn
  go_enter Tryz.func57, Tryz.ntmps57
  go_wp2_with ((go_at_call 99; refine (HI.out _).mono ?_); rintro e w' ⟨rfl, rfl⟩)
  all_goals
   first
    | (exfalso; omega)
    | (go_ret; exact ⟨ret_bool (by first | exact HD.out | (rw [Bool.eq_iff_iff, ← HD.out]; simp; try omega)), rfl⟩)
 ·have hy := (talnum_iff c).1 ha
  have HT : Hid (Tar.freeB c = true) := by show _ = _; unfold Tar.freeB; rw [ha]; rfl
  clear ha
  go_enter Tryz.func57, Tryz.ntmps57
  go_wp2_with fail
  all_goals
   first
    | (exfalso; omega)
    | (go_ret; exact ⟨ret_bool HT.out.symm, rfl⟩)
set_option maxHeartbeats 800000 in
theorem digit_any (c : UInt8) (w : World) :
  Calls Tryz.prog 98 #[.int .u8 c.toNat] w fun e w' => e = .returned (.int .i64 (Tar.digI c)) ∧ w = w' := by
 have hb := c.toNat_lt
 have HD : Hid (Tar.digI c = if 48 ≤ (c.toNat : Int) ∧ (c.toNat : Int) ≤ 57 then (c.toNat : Int) - 48 else if 97 ≤ (c.toNat : Int) ∧ (c.toNat : Int) ≤ 102 then (c.toNat : Int) - 87 else if 65 ≤ (c.toNat : Int) ∧ (c.toNat : Int) ≤ 70 then (c.toNat : Int) - 55 else -1) := by
  show _ = _; unfold Tar.digI; simp only [u8_le]; rfl
 generalize Tar.digI c = d at *
 generalize c.toNat = n at *
 go_enter Tryz.func98, Tryz.ntmps98
 go_wp2_with fail
 all_goals
  first
   | (exfalso; omega)
   | (go_ret; exact ⟨ret_int (by rw [HD.out]; first | (rw [if_pos (by omega)]; done) | (rw [if_pos (by omega)]; omega) | (rw [if_neg (by omega), if_pos (by omega)]; omega) | (rw [if_neg (by omega), if_neg (by omega), if_pos (by omega)]; omega) | (rw [if_neg (by omega), if_neg (by omega), if_neg (by omega)])), rfl⟩)
def EscRet (base : Nat) (l : List UInt8) (e : Ending) (w' : World) : Prop := ∃ v, e = .returned v ∧ Owns w' base 5 1 eb v l
def hexs : ByteArray := ⟨#[48, 49, 50, 51, 52, 53, 54, 55, 56, 57, 65, 66, 67, 68, 69, 70]⟩
theorem hexs_at (d : Nat) (h : d < 16) : hexs[d]'h = Tar.hexU d := by
 have : ∀ d : Fin 16, hexs[d.1]'d.2 = Tar.hexU d.1 := by decide
 exact this ⟨d, h⟩
set_option maxHeartbeats 1600000 in
set_option maxRecDepth 10000 in
theorem escape_any (v : Value) (c : UInt8) (l : List UInt8) (base : Nat) (w : World) (h : Owns w base 5 1 eb v l) (hb : base ≤ w.heap.size) (hl : l.length ≤ 100000000) :
  Calls Tryz.prog 58 #[v, .int .u8 c.toNat] w fun e w' => EscRet base (l ++ Tar.esc3 c) e w' ∧ w.grownBy w' v.ownBlock := by
 have HO := Lib.hid h
 have hc := c.toNat_lt
 have q1 : (c.toNat : Int) / 16 < 16 := by omega
 have q0 : 0 ≤ (c.toNat : Int) / 16 := by omega
 have q2 : bits BinOp.and IntKind.u8 (c.toNat : Int) 15 = ((c.toNat % 16 : Nat) : Int) := by
  have := u8_and_nat c.toNat 15 hc (by omega)
  rw [show ((15 : Nat) : Int) = 15 from rfl] at this
  rw [this, show (15 : Nat) = 2 ^ 4 - 1 from rfl, Nat.and_two_pow_sub_one_eq_mod]
 have q3 : (c.toNat : Int) % 16 < 16 := by omega
 have q6 : 0 ≤ (c.toNat : Int) % 16 := by omega
 have q4 : ∀ h, (⟨#[48, 49, 50, 51, 52, 53, 54, 55, 56, 57, 65, 66, 67, 68, 69, 70]⟩ : ByteArray)[((c.toNat : Int) / 16).toNat]'h = Tar.hexU (c.toNat / 16) := by
  intro h
  have e : ((c.toNat : Int) / 16).toNat = c.toNat / 16 := by omega
  have := hexs_at (c.toNat / 16) (by omega)
  rw [← this]
  show hexs[_]'_ = _
  congr 1
 have q5 : ∀ h, (⟨#[48, 49, 50, 51, 52, 53, 54, 55, 56, 57, 65, 66, 67, 68, 69, 70]⟩ : ByteArray)[((c.toNat : Int) % 16).toNat]'h = Tar.hexU (c.toNat % 16) := by
  intro h
  have e : ((c.toNat : Int) % 16).toNat = c.toNat % 16 := by omega
  have := hexs_at (c.toNat % 16) (by omega)
  rw [← this]
  show hexs[_]'_ = _
  congr 1
 generalize hx : Tar.hexU (c.toNat / 16) = x at *
 generalize hy : Tar.hexU (c.toNat % 16) = y at *
 clear h
 go_enter Tryz.func58, Tryz.ntmps58
 go_wp2_with fail
 refine wp_region_plan (.take 0 (.take 1 (.take 2 (.take 3 (.take 4 (.take 5 (.take 6 (.eff 7 (.eff 8 (.take 9 .nil)))))))))) (fun _ => True) (by kernel_rfl) (by kernel_rfl) (fun _ _ _ _ _ h => h) (by kernel_rfl) (by kernel_rfl) trivial ?_
 iterate 7 (first | (apply seqP_skip; (focus (simp only [List.getElem?_toArray, List.getElem?_cons_succ, List.getElem?_cons_zero]; rfl)); (focus rfl); simp only [Act.put, List.setIfInBounds_toArray, List.set_cons_zero, List.set_cons_succ]) | (apply seqP_take; (focus (simp only [List.getElem?_toArray, List.getElem?_cons_succ, List.getElem?_cons_zero]; rfl)); (focus rfl); (focus (intro w' hS; skip; first | (go_simp; rfl) | (go_simp; done))); simp only [Act.put, List.setIfInBounds_toArray, List.set_cons_zero, List.set_cons_succ]))
 have hE3 : Hid (Tar.esc3 c = [37, x, y]) := by show _ = _; unfold Tar.esc3; rw [hx, hy]
 clear q4 q5 hx hy
 apply seqP_eff
 (focus (simp only [List.getElem?_toArray, List.getElem?_cons_succ, List.getElem?_cons_zero]; rfl))
 (focus rfl)
 intro K hK
 go_simp
 have sA : Below w.heap.size w (w.alloc (.cells #[.int .u8 37, .int .u8 x.toNat, .int .u8 y.toNat] 5)).drew := ((Below.refl w.heap.size w).alloc (Nat.le_refl _) _).drew
 refine hK _ _ ⟨trivial, ?_⟩
 clear hK K
 have HN : SlR (w.alloc (.cells #[.int .u8 37, .int .u8 x.toNat, .int .u8 y.toNat] 5)).drew eb (.slice (some ⟨w.heap.size, 0, none⟩) 3 3) [37, x, y] := (SlR.lit (enc := eb) w [.int .u8 37, .int .u8 x.toNat, .int .u8 y.toNat] 5 [37, x, y] rfl).drew
 have HO2 := Lib.hid (HO.out.below sA)
 apply seqP_eff
 (focus (simp only [List.getElem?_toArray, List.getElem?_cons_succ, List.getElem?_cons_zero]; rfl))
 (focus rfl)
 intro K hK
 refine wp_append_owns (.tmp 5) (.tmp 12) _ rfl base 5 (.int .u8 0) 1 1 eb Tryz.underlying106 byteInfo rfl (by decide) (fun _ => rfl) v l rfl HO2.out _ [37, x, y] rfl HN (eb_one _) (by simp only [maxLen, List.length_cons, List.length_nil]; omega) (by simp only [List.length_cons, List.length_nil]; omega) (Nat.le_trans hb sA.size) ?_
 intro v' w' ho hg
 refine hK _ _ ⟨trivial, ?_⟩
 clear hK K
 iterate 1 (first | (apply seqP_skip; (focus (simp only [List.getElem?_toArray, List.getElem?_cons_succ, List.getElem?_cons_zero]; rfl)); (focus rfl); simp only [Act.put, List.setIfInBounds_toArray, List.set_cons_zero, List.set_cons_succ]) | (apply seqP_take; (focus (simp only [List.getElem?_toArray, List.getElem?_cons_succ, List.getElem?_cons_zero]; rfl)); (focus rfl); (focus (intro w' hS; skip; first | (go_simp; rfl) | (go_simp; done))); simp only [Act.put, List.setIfInBounds_toArray, List.set_cons_zero, List.set_cons_succ]))
 refine seqP_nil ?_
 go_wp2_with fail
 go_ret
 refine ⟨⟨_, rfl, by rw [hE3.out]; exact ho⟩, ?_⟩
 exact ⟨hg.os.trans sA.os, hg.tape.trans sA.tape, hg.output.trans sA.output, Nat.le_trans sA.size hg.size, fun k hk hr => (hg.block k (Nat.lt_of_lt_of_le hk sA.size) hr).trans (sA.block k hk)⟩
namespace Tar
def by16 (a b : UInt8) : UInt8 := UInt8.ofNat (16 * digI a + digI b).toNat
def unescL : List UInt8 → Option (List UInt8)
 | [] => some []
 | c :: r => if c == 37 then (match r with | a :: b :: r' => if 0 ≤ digI a ∧ 0 ≤ digI b then (unescL r').map (by16 a b :: ·) else none | _ => none) else (unescL r).map (c :: ·)
theorem unescL_bad {c a b : UInt8} {r : List UInt8} (h : (c == 37) = true) (hn : digI a < 0 ∨ digI b < 0) : unescL (c :: a :: b :: r) = none := by
 simp only [unescL, h, if_true]; rw [if_neg (by omega)]
theorem unescL_short {c : UInt8} {r : List UInt8} (h : (c == 37) = true) (hr : r.length < 2) : unescL (c :: r) = none := by
 rcases r with _ | ⟨a, _ | ⟨b, r⟩⟩
 ·simp only [unescL, h, if_true]
 ·simp only [unescL, h, if_true]
 ·simp at hr; omega
theorem map_snoc {o : Option (List UInt8)} {acc : List UInt8} {d : UInt8} : (o.map (d :: ·)).map (acc ++ ·) = o.map ((acc ++ [d]) ++ ·) := by
 cases o <;> simp
end Tar
def Acc (w : World) (base g : Nat) (l : List UInt8) : Prop := base ≤ g ∧ base ≤ w.heap.size ∧ ∃ v, Blk w g 106 #[v] ∧ Owns w base 5 1 eb v l ∧ v.ownBlock ≠ some g
theorem Acc.drew {w : World} {base g : Nat} {l : List UInt8} (h : Acc w base g l) : Acc w.drew base g l := h
theorem i64_or16 (x y : Int) (h0 : 0 ≤ x) (h1 : x ≤ 15) (h2 : 0 ≤ y) (h3 : y ≤ 15) : bits BinOp.or IntKind.i64 (x * 16) y = x * 16 + y := by
 obtain ⟨a, rfl⟩ := Int.eq_ofNat_of_zero_le h0
 obtain ⟨b, rfl⟩ := Int.eq_ofNat_of_zero_le h2
 have ha : a * 16 < 4294967296 := by omega
 have hb : b < 4294967296 := by omega
 have hx : a * 16 ||| b < 2 ^ 32 := Nat.or_lt_two_pow (by omega) (by omega)
 rw [show (a : Int) * 16 = ((a * 16 : Nat) : Int) from by omega]
 show IntKind.i64.wrap ((BitVec.ofInt 64 ((a * 16 : Nat) : Int) ||| BitVec.ofInt 64 (b : Int)).toNat : Int) = _
 rw [BitVec.toNat_or, BitVec.ofInt_natCast, BitVec.toNat_ofNat, BitVec.ofInt_natCast, BitVec.toNat_ofNat, Nat.mod_eq_of_lt (a := a * 16) (by omega), Nat.mod_eq_of_lt (a := b) (by omega), IntWalk.i64_in _ (by omega), nat_join 4 _ _ (by omega) (by omega)]
 omega
theorem by16_val (a b : UInt8) (ha : 0 ≤ Tar.digI a) (hb : 0 ≤ Tar.digI b) : ((Tar.by16 a b).toNat : Int) = Tar.digI a * 16 + Tar.digI b := by
 have h1 := Tar.digI_bd a
 have h2 := Tar.digI_bd b
 unfold Tar.by16
 rw [UInt8.toNat_ofNat']
 omega
def sg (c : UInt8) : List UInt8 → List UInt8 → List (List UInt8)
 | cur, [] => [cur]
 | cur, x :: r => if x == c then cur :: sg c [] r else sg c (cur ++ [x]) r
theorem sg_c (c : UInt8) (cur : List UInt8) (x : UInt8) (r : List UInt8) : sg c cur (x :: r) = if x == c then cur :: sg c [] r else sg c (cur ++ [x]) r := rfl
theorem sg_plain {c : UInt8} : ∀ (u cur v : List UInt8), c ∉ u → sg c cur (u ++ v) = sg c (cur ++ u) v
 | [], cur, v, _ => by simp
 | x :: u, cur, v, h => by
  have hc : ¬ (x == c) = true := by rw [beq_iff_eq]; intro e; apply h; simp [e]
  rw [List.cons_append, sg_c, if_neg hc, sg_plain u _ v (fun e => h (by simp [e])), List.append_assoc]; rfl
theorem sg_one {c : UInt8} {u : List UInt8} (h : c ∉ u) : sg c [] u = [u] := by
 have := sg_plain u [] [] h
 rw [List.append_nil, List.nil_append] at this
 rw [this]; rfl
theorem sg_hit {c : UInt8} (u v : List UInt8) (h : c ∉ u) : sg c [] (u ++ c :: v) = u :: sg c [] v := by
 rw [sg_plain u [] _ h, List.nil_append, sg_c, if_pos (by simp)]
theorem sg_ne (c : UInt8) : ∀ (l cur : List UInt8), sg c cur l ≠ []
 | [], cur => by simp [sg]
 | x :: r, cur => by
  rw [sg_c]
  split
  ·simp
  ·exact sg_ne c r _
theorem joinTail_c (c y : List UInt8) (ys : List (List UInt8)) : Lib.joinTail c (y :: ys) = c ++ y ++ Lib.joinTail c ys := by simp [Lib.joinTail]
theorem sg_join (c : UInt8) : ∀ (l cur : List UInt8), Lib.join (sg c cur l) [c] = cur ++ l
 | [], cur => by show Lib.join [cur] [c] = _; rw [Lib.join_one, List.append_nil]
 | x :: r, cur => by
  rw [sg_c]
  split
  ·rename_i hx
   have ih := sg_join c r []
   cases hs : sg c [] r with
   | nil => exact absurd hs (sg_ne c r [])
   | cons y ys =>
    rw [hs] at ih
    rw [Lib.join_cons] at ih
    rw [Lib.join_cons, joinTail_c, List.append_assoc [c] y, ih, beq_iff_eq.1 hx]
    simp
  ·rw [sg_join c r _]; simp
theorem cut_at (c : UInt8) : ∀ l : List UInt8, c ∉ l ∨ ∃ a b, l = a ++ c :: b ∧ c ∉ a
 | [] => .inl (by simp)
 | x :: l => by
  by_cases hx : x = c
  ·exact .inr ⟨[], l, by simp [hx], by simp⟩
  ·rcases cut_at c l with h | ⟨a, b, rfl, h⟩
   ·exact .inl (by simp [h, Ne.symm hx])
   ·exact .inr ⟨x :: a, b, rfl, by simp [h, Ne.symm hx]⟩
theorem index_hit1 (c : UInt8) (b : List UInt8) : ∀ a : List UInt8, c ∉ a → Lib.index (a ++ c :: b) [c] = (a.length : Int)
 | [], _ => by
  rw [List.nil_append]
  unfold Lib.index
  rw [if_pos (by simp [List.isPrefixOf])]; rfl
 | x :: a, h => by
  have hx : ¬ c = x := fun e => h (by simp [e])
  have ih := index_hit1 c b a (fun e => h (by simp [e]))
  rw [List.cons_append]
  unfold Lib.index
  rw [if_neg (by simp [List.isPrefixOf, hx]), ih, if_neg (by simp), List.length_cons]
  omega
theorem index_no1 (c : UInt8) : ∀ l : List UInt8, c ∉ l → Lib.index l [c] = -1
 | [], _ => rfl
 | x :: a, h => by
  have hx : ¬ c = x := fun e => h (by simp [e])
  have ih := index_no1 c a (fun e => h (by simp [e]))
  unfold Lib.index
  rw [if_neg (by simp [List.isPrefixOf, hx]), ih, if_pos (by decide)]
theorem splitB_sg (c : UInt8) : ∀ (n : Nat) (s : ByteArray), s.size ≤ n → Lib.splitB ⟨#[c]⟩ 0 (Lib.countB s ⟨#[c]⟩) s = (sg c [] (sl s)).map mkS := by
 intro n
 induction n with
 | zero =>
  intro s hs
  obtain rfl := empty_of_size s (by omega)
  rw [Lib.splitB_miss _ _ _ _ (by show Lib.index (sl ByteArray.empty) [c] = -1; rw [sl_empty]; rfl), sl_empty]; rfl
 | succ n ih =>
  intro s hs
  rcases cut_at c (sl s) with h | ⟨a, b, he, ha⟩
  ·rw [Lib.splitB_miss _ _ _ _ (by show Lib.index (sl s) [c] = -1; exact index_no1 c _ h), sg_one h, List.map_cons, List.map_nil, mkS_sl]
  ·have hi : Lib.indexB s ⟨#[c]⟩ = (a.length : Int) := by show Lib.index (sl s) [c] = _; rw [he]; exact index_hit1 c b a ha
   have hb : sl (s.extract (a.length + 1) s.size) = b := by
    rw [sl_extract_end, he, show a ++ c :: b = (a ++ [c]) ++ b by simp, List.drop_left' (by simp)]
   have ha' : s.extract 0 (a.length + 0) = mkS a := by
    apply sl_inj
    rw [sl_extract, sl_mkS, he]; simp
   rw [Lib.countB_hit s ⟨#[c]⟩ a.length (by show 1 ≤ 1; exact Nat.le_refl _) hi, Nat.add_comm 1, Lib.splitB_hit _ _ _ _ a.length hi, ha']
   rw [show (⟨#[c]⟩ : ByteArray).size = 1 from rfl]
   rw [ih _ (by
    have := congrArg List.length hb
    rw [sl_len] at this
    have h2 := congrArg List.length he
    rw [sl_len] at h2
    simp only [List.length_append, List.length_cons] at h2
    omega), hb, he, sg_hit a b ha]
   rfl
theorem split1_any (s : ByteArray) (c : UInt8) (w : World) (hs : s.size < 4294967281) (hm : ∃ m, w.cell? ⟨0, 0, none⟩ = some (.int .i64 m)) :
  Calls Tryz.prog 101 #[.string s, .string ⟨#[c]⟩] w fun e w' => (∃ v, e = .returned v ∧ SlR w' es v ((sg c [] (sl s)).map mkS)) ∧ Below w.heap.size w w' := by
 obtain ⟨m, hm⟩ := hm
 refine (Tryz.strings_Split s ⟨#[c]⟩ m w hs hm (by show 1 ≤ 1; exact Nat.le_refl _)).mono fun e w' ⟨he, hw⟩ => ⟨?_, hw ▸ (Below.refl _ _).alloc (Nat.le_refl _) _⟩
 have hl := Lib.splitB_all ⟨#[c]⟩ (by show 1 ≤ 1; exact Nat.le_refl _) 0 _ s rfl
 rw [splitB_sg c _ s (Nat.le_refl _)] at hw hl
 refine ⟨_, he, ?_⟩
 rw [hw, ← hl]
 have := SlR.lit (enc := es) w (((sg c [] (sl s)).map mkS).map Value.string) 9 ((sg c [] (sl s)).map mkS) (by rw [es_map])
 exact this
end Go.Proofs.YtgnblkmpoigejaaGreatDoor
namespace Go.Proofs.YtgnblkmpoigejaaGreatDoor
def cutC (c : UInt8) : List UInt8 → Option (List UInt8 × List UInt8)
 | [] => none
 | x :: l => if x = c then some ([], l) else (cutC c l).map (fun p => (x :: p.1, p.2))
theorem cutC_some {c : UInt8} : ∀ {l a b : List UInt8}, l = a ++ c :: b → c ∉ a → cutC c l = some (a, b)
 | _, [], b, rfl, _ => by simp [cutC]
 | _, x :: a, b, rfl, h => by
  have hx : x ≠ c := fun e => h (by simp [e])
  simp only [List.cons_append, cutC, if_neg hx, cutC_some (l := a ++ c :: b) rfl (fun e => h (by simp [e])), Option.map_some]
theorem cutC_none {c : UInt8} : ∀ {l : List UInt8}, c ∉ l → cutC c l = none
 | [], _ => rfl
 | x :: l, h => by
  have hx : x ≠ c := fun e => h (by simp [e])
  have hl : c ∉ l := fun e => h (List.mem_cons_of_mem _ e)
  simp only [cutC, if_neg hx, cutC_none hl, Option.map_none]
end Go.Proofs.YtgnblkmpoigejaaGreatDoor
