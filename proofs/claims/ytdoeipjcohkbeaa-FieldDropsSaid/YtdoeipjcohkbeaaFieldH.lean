/- FieldDrops: the law's walk. -/
import Derived.Test.YtdoeipjcohkbeaaFieldG
namespace Go.Proofs.Ytdoeipjcohkbeaa
open Go.RowKit
/-- Get, where no field bears the name. -/
theorem get_no (v : Value) (l : List Fld) (n : ByteArray) (w : World) (h : SlR w e_ss v l) (hl : l.length * 32 ≤ 140737488355328) (hz : Lims l) (hn : n.size ≤ 140737488351232) (hs : selF l n = []) :
    Calls Try.prog 16 #[v, .string n] w fun e w' => e = .returned (.tuple #[.string ByteArray.empty, .bool false]) ∧ Below w.heap.size w w' := by
  refine (get_any v l n w h hl hz hn (by rw [hs]; decide)).mono ?_
  rintro e w' ⟨rfl, hb⟩
  exact ⟨by rw [hs]; rfl, hb⟩
set_option maxRecDepth 100000 in
set_option maxHeartbeats 3200000 in
theorem fieldDrops_walk (v : Value) (l : List Fld) (a b : ByteArray) (w : World) (h : SlR w e_ss v l) (hl : l.length * 32 ≤ 140737488351232) (hi : ∀ d ∈ l, d.1.size ≤ 140737488351232 ∧ d.2.size ≤ 140737488351232) (ha : a.size ≤ 140737488351232) (hb : b.size ≤ 140737488351232) :
    Calls Try.prog 7 #[v, .string a, .string b] w fun e w' => e = .returned (.bool true) ∧ Below w.heap.size w w' := by
  have hz : Lims l := fun f hf => (hi f hf).1
  have H0 := Lib.hid h
  have hla := dropF_len l a
  have hza := dropF_lims a hz
  have hlb := dropF_len l b
  have hzb := dropF_lims b hz
  have hlab := dropF_len (dropF l a) b
  have hlba := dropF_len (dropF l b) a
  have S1 := Lib.hid (selF_drop_self l a)
  have S2 := Lib.hid (dropF_comm l a b)
  have S3 := Lib.hid (dropF_idem l a)
  have hlaa := dropF_len (dropF l a) a
  have t0 : ((⟨#[121]⟩ : ByteArray).toList != (⟨#[121]⟩ : ByteArray).toList) = false := by simp
  have g0 : decide (l.length < (dropF l a).length) = false := by rw [decide_eq_false_iff_not]; omega
  clear hi
  obtain ⟨A0, c0, rfl, -⟩ := h.form
  clear h
  go_enter Try.func7, Try.ntmps7
  go_wp2_with fail
  refine (drop_any _ l a _ H0.out (by omega) hz ha).mono ?_
  rintro e w1 ⟨⟨u1, rfl, o1⟩, b1⟩
  have M1 := Lib.hid (SlR.of_owns o1)
  obtain ⟨A1, c1, hv1⟩ := o1.slice
  subst hv1
  clear o1
  go_wp2_with fail
  refine (get_no _ (dropF l a) a _ M1.out (by omega) hza ha S1.out).mono ?_
  rintro e w2 ⟨rfl, b2⟩
  go_wp2_with fail
  refine (set_xy _).mono ?_
  rintro e w3 ⟨⟨u3, rfl, o3⟩, b3⟩
  go_wp2_with fail
  refine (get_xy u3 _ (SlR.of_owns o3)).mono ?_
  rintro e w4 ⟨rfl, b4⟩
  have M4 := Lib.hid (((M1.out.below b2).below b3).below b4)
  have B4 := belT (belT (belT b1 b2) b3) b4
  clear o3 b1 b2 b3 b4
  go_wp2_with fail
  refine (drop_any _ (dropF l a) b _ M4.out (by omega) hza hb).mono ?_
  rintro e w5 ⟨⟨u5, rfl, o5⟩, b5⟩
  have K5 := Lib.hid (SlR.of_owns o5)
  clear o5
  go_wp2_with fail
  refine (drop_any _ l b _ (H0.out.below (belT B4 b5)) (by omega) hz hb).mono ?_
  rintro e w6 ⟨⟨u6, rfl, o6⟩, b6⟩
  have L6 := Lib.hid (SlR.of_owns o6)
  clear o6
  go_wp2_with fail
  refine (drop_any u6 (dropF l b) a _ L6.out (by omega) hzb ha).mono ?_
  rintro e w7 ⟨⟨u7, rfl, o7⟩, b7⟩
  have L7 := Lib.hid (SlR.of_owns o7)
  clear o7
  go_wp2_with fail
  refine (eqFld_any u5 u7 (dropF (dropF l a) b) (dropF (dropF l b) a) _ ((K5.out.below b6).below b7) L7.out (by omega) (by omega)).mono ?_
  rintro e w8 ⟨rfl, b8⟩
  rw [S2.out, decide_eq_true rfl]
  have B8 := belT (belT (belT (belT B4 b5) b6) b7) b8
  have M8 := Lib.hid ((((M4.out.below b5).below b6).below b7).below b8)
  clear b5 b6 b7 b8 B4
  go_wp2_with fail
  refine (drop_any _ (dropF l a) a _ M8.out (by omega) hza ha).mono ?_
  rintro e w9 ⟨⟨u9, rfl, o9⟩, b9⟩
  go_wp2_with fail
  refine (eqFld_any u9 _ (dropF (dropF l a) a) (dropF l a) _ (SlR.of_owns o9) (M8.out.below b9) (by omega) (by omega)).mono ?_
  rintro e w10 ⟨rfl, b10⟩
  rw [S3.out, decide_eq_true rfl]
  go_wp2_with fail
  go_ret
  exact ⟨rfl, belT (belT B8 b9) b10⟩
end Go.Proofs.Ytdoeipjcohkbeaa
