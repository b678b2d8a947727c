/- FieldSetGet: the law's walk. -/
import Derived.Test.YtdoeipjcohkbeaaFieldLaws
import Derived.Test.YtdoeipjcohkbeaaEqFld
namespace Go.Proofs.Ytdoeipjcohkbeaa
open Go.RowKit
theorem joinS_one (a sep : ByteArray) : joinS [a] sep = a := by
  unfold joinS joinL; rw [List.map_singleton, Lib.join_one, mkS_sl]
theorem joinL_one (a sep : ByteArray) : (joinL [a] sep).length = a.size := by
  unfold joinL; rw [List.map_singleton, Lib.join_one, sl_len]
/-- Get, where just one field bears the name. -/
theorem get_one (v : Value) (l : List Fld) (n a : ByteArray) (w : World) (h : SlR w e_ss v l) (hl : l.length * 32 ≤ 140737488355328) (hz : Lims l) (hn : n.size ≤ 140737488351232) (hs : selF l n = [a]) (ha : a.size ≤ 140737488351232) :
    Calls Try.prog 16 #[v, .string n] w fun e w' => e = .returned (.tuple #[.string a, .bool true]) ∧ Below w.heap.size w w' := by
  refine (get_any v l n w h hl hz hn (by rw [hs, joinL_one]; exact ha)).mono ?_
  rintro e w' ⟨rfl, hb⟩
  exact ⟨by rw [hs, joinS_one]; rfl, hb⟩
theorem selF_sum (l : List Fld) (n : ByteArray) : ((selF l n).map (fun x => x.size + sep2.size)).sum ≤ (l.map (fun f => f.2.size + 2)).sum := by
  induction l with
  | nil => simp [selF]
  | cons f l ih =>
    have e : selF (f :: l) n = selF [f] n ++ selF l n := by rw [← selF_append]; rfl
    rw [e, List.map_append, List.sum_append, List.map_cons, List.sum_cons]
    have h2 : sep2.size = 2 := rfl
    have : ((selF [f] n).map (fun x => x.size + sep2.size)).sum ≤ f.2.size + 2 := by
      unfold selF
      cases hq : isN (lowS n) f <;> simp [List.filter_cons, hq, h2]
    omega
theorem selF_join (l : List Fld) (n : ByteArray) : (joinL (selF l n) sep2).length ≤ (l.map (fun f => f.2.size + 2)).sum := Nat.le_trans (joinL_len _ _) (selF_sum l n)
set_option maxRecDepth 100000 in
set_option maxHeartbeats 3200000 in
theorem fieldSetGet_core (v : Value) (l : List Fld) (n a b o : ByteArray) (w : World) (h : SlR w e_ss v l) (hl : l.length ≤ 1048576) (hz : Lims l) (hj : (l.map (fun f => f.2.size + 2)).sum ≤ 16777216) (hn : n.size ≤ 1048576) (ha : a.size ≤ 1048576) (hb : b.size ≤ 1048576) (ho : o.size ≤ 1048576) :
    Calls Try.prog 6 #[v, .string n, .string a, .string b, .string o] w fun e w' => e = .returned (.bool true) ∧ Below w.heap.size w w' := by
  have H0 := Lib.hid h
  have hml := setF_len l n a
  have hmz := setF_lims a hz (n := n) (by omega)
  have hkl := setF_len (setF l n a) n b
  have hkz := setF_lims b hmz (n := n) (by omega)
  have hll := setF_len l n b
  have hlz := setF_lims b hz (n := n) (by omega)
  have S1 := Lib.hid (selF_low (setF l n a) n ▸ selF_set_self l n a)
  have S2 := Lib.hid (selF_set_self (setF l n a) n b)
  have S3 := Lib.hid (setF_set l n a b)
  have S4 := Lib.hid (fun hne : lowS o ≠ lowS n => selF_set_other l a hne)
  have hjo := selF_join l o
  have hln : (lowS n).size = n.size := lowS_size n
  have ta : (a.toList != a.toList) = false := by simp
  have tb : (b.toList != b.toList) = false := by simp
  go_enter Try.func6, Try.ntmps6
  go_wp2_with fail
  refine (set_any v l n a _ H0.out (by omega) hz (by omega)).mono ?_
  rintro e w1 ⟨⟨u1, rfl, o1⟩, b1⟩
  have M1 := Lib.hid (SlR.of_owns o1)
  clear o1
  go_wp2_with fail
  refine (lower_any n _ (by omega)).mono ?_
  rintro e w2 ⟨rfl, b2⟩
  rw [show mkS (Tok.low (sl n)) = lowS n from rfl]
  have M2 := Lib.hid (M1.out.below b2)
  go_wp2_with fail
  refine (get_one u1 (setF l n a) (lowS n) a _ M2.out (by omega) hmz (by omega) S1.out (by omega)).mono ?_
  rintro e w3 ⟨rfl, b3⟩
  have M3 := Lib.hid (M2.out.below b3)
  go_wp2_with fail
  refine (set_any u1 (setF l n a) n b _ M3.out (by omega) hmz (by omega)).mono ?_
  rintro e w4 ⟨⟨u2, rfl, o2⟩, b4⟩
  have K4 := Lib.hid (SlR.of_owns o2)
  have M4 := Lib.hid (M3.out.below b4)
  clear o2
  go_wp2_with fail
  refine (get_one u2 (setF (setF l n a) n b) n b _ K4.out (by omega) hkz (by omega) S2.out (by omega)).mono ?_
  rintro e w5 ⟨rfl, b5⟩
  have M5 := Lib.hid (M4.out.below b5)
  have B5 := belT (belT (belT (belT b1 b2) b3) b4) b5
  go_wp2_with fail
  refine (set_any u1 (setF l n a) n b _ M5.out (by omega) hmz (by omega)).mono ?_
  rintro e w6 ⟨⟨u3, rfl, o3⟩, b6⟩
  have K6 := Lib.hid (SlR.of_owns o3)
  clear o3
  go_wp2_with fail
  refine (set_any v l n b _ (H0.out.below (belT B5 b6)) (by omega) hz (by omega)).mono ?_
  rintro e w7 ⟨⟨u4, rfl, o4⟩, b7⟩
  have L7 := Lib.hid (SlR.of_owns o4)
  clear o4
  go_wp2_with fail
  refine (eqFld_any u3 u4 (setF (setF l n a) n b) (setF l n b) _ (K6.out.below b7) L7.out (by omega) (by omega)).mono ?_
  rintro e w8 ⟨rfl, b8⟩
  rw [S3.out, decide_eq_true rfl]
  have B8 := belT (belT (belT B5 b6) b7) b8
  go_wp2_with fail
  refine (lower_any o _ (by omega)).mono ?_
  rintro e w9 ⟨rfl, b9⟩
  rw [show mkS (Tok.low (sl o)) = lowS o from rfl]
  go_wp2_with fail
  refine (lower_any n _ (by omega)).mono ?_
  rintro e w10 ⟨rfl, b10⟩
  rw [show mkS (Tok.low (sl n)) = lowS n from rfl]
  have B10 := belT (belT B8 b9) b10
  have M10 := Lib.hid ((((M5.out.below b6).below b7).below b8).below b9 |>.below b10)
  have H10 := Lib.hid (H0.out.below B10)
  clear b1 b2 b3 b4 b5 b6 b7 b8 b9 b10 B5 B8
  by_cases he : lowS o = lowS n
  · have te : ((lowS o).toList == (lowS n).toList) = true := by rw [toList_inj, decide_eq_true he]
    clear he
    go_wp2_with fail
    go_ret
    exact ⟨rfl, B10⟩
  · have te : ((lowS o).toList == (lowS n).toList) = false := by rw [toList_inj, decide_eq_false he]
    have S5 := Lib.hid (S4.out he)
    clear he
    go_wp2_with fail
    refine (get_any v l o _ H10.out (by omega) hz (by omega) (by omega)).mono ?_
    rintro e w11 ⟨rfl, b11⟩
    go_wp2_with fail
    refine (get_any u1 (setF l n a) o _ (M10.out.below b11) (by omega) hmz (by omega) (by rw [S5.out]; omega)).mono ?_
    rintro e w12 ⟨rfl, b12⟩
    rw [S5.out]
    go_wp2_with fail
    go_ret
    exact ⟨ret_bool (by simp), belT (belT B10 b11) b12⟩
theorem fieldSetGet_walk (v : Value) (l : List Fld) (n a b o : ByteArray) (w : World) (h : SlR w e_ss v l) (hs : (l.map (fun d => d.1.size + d.2.size + 2)).sum ≤ 1048576) (hn : n.size ≤ 1048576) (ha : a.size ≤ 1048576) (hb : b.size ≤ 1048576) (ho : o.size ≤ 1048576) :
    Calls Try.prog 6 #[v, .string n, .string a, .string b, .string o] w fun e w' => e = .returned (.bool true) ∧ Below w.heap.size w w' := by
  refine fieldSetGet_core v l n a b o w h (Nat.le_trans (sum_len _ (fun _ => by omega) l) hs) (fun f hf => by have := sum_mem (fun d : Fld => d.1.size + d.2.size + 2) hf; omega) ?_ hn ha hb ho
  have : ∀ m : List Fld, (m.map (fun f => f.2.size + 2)).sum ≤ (m.map (fun d => d.1.size + d.2.size + 2)).sum := by
    intro m
    induction m with
    | nil => simp
    | cons x m ih => simp only [List.map_cons, List.sum_cons]; omega
  have := this l
  omega
end Go.Proofs.Ytdoeipjcohkbeaa
