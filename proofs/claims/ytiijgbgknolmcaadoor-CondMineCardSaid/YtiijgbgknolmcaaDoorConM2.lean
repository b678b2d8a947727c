/- CondMine: the law's walk. -/
import Derived.Test.YtiijgbgknolmcaaDoorConL
namespace Go.Proofs.YtiijgbgknolmcaaDoor
set_option maxRecDepth 20000
open Go.RowKit
open Cn
set_option maxHeartbeats 6400000 in
theorem condMine_walk (m : ByteArray) (u : Value) (l : List Fld) (wk : Bool) (tx : ByteArray) (modified : Int) (w : World) (hmz : m.size ≤ 140737488351232) (h : SlR w e_ss u l) (hl : l.length * 32 ≤ 140737488351232) (hz : ∀ d ∈ l, d.1.size ≤ 140737488351232 ∧ d.2.size ≤ 140737488351232) (htx : tx.size ≤ maxLen) (hmo : (Lit.int .i64 modified).wf = true) (hmax : HasMax w) (hp10 : HasP10 w) :
    Calls Tryd.prog 5 #[.string m, u, .agg #[.bool wk, .string tx], .int .i64 modified] w fun e w' => e = .returned (.bool true) ∧ Below w.heap.size w w' := by
  have b0 : Below w.heap.size w (w.alloc (.cells #[.bool wk, .string tx] 30)) := (Below.refl _ _).alloc (Nat.le_refl _) _
  have HF : Hid (FOk w u l) := ⟨h, by omega, fun f hf => (hz f hf).1⟩
  have HP := Lib.hid hp10
  have HM := Lib.hid hmax
  have hpl := plainly_len l
  have HS := Lib.hid (Sel.plain l)
  simp only [maxLen] at htx
  clear h hz hp10 hmax hmo
  generalize hPL : plainly l = P at *
  go_enter Tryd.func5, Tryd.ntmps5
  go_wp2_with fail
  refine (tagPrint_any wk tx _ htx).mono ?_
  rintro e w1 ⟨hpr, b1⟩
  have B1 := b0.trans (b1.mono b0.size)
  have g0 : w1.cell? ⟨w.heap.size, 0, none⟩ = some (.bool wk) := (b1.cell (by simp)).trans (by go_simp)
  have hz1 : w.heap.size < w1.heap.size := by have := b1.size; simp at this; omega
  have HN := Lib.hid (lit_fld w1 ⟨#[42]⟩)
  have b2 := B1.alloc B1.size (.cells #[.string nIM, .string (⟨#[42]⟩ : ByteArray)] 25)
  have HG : Hid (∀ w', Below w1.heap.size w1 w' → w'.cell? ⟨w.heap.size, 0, none⟩ = some (.bool wk)) := fun w' hb => (hb.cell hz1).trans g0
  have b12 : Below w1.heap.size w1 (w1.alloc (.cells #[.string nIM, .string (⟨#[42]⟩ : ByteArray)] 25)) := (Below.refl _ _).alloc (Nat.le_refl _) _
  have HPUT := Lib.hid (fun w u hp hm hu => put_any w hp hm u hu)
  clear g0
  rcases hpr with ⟨hg, rfl⟩ | ⟨hng, cc, hc1, hc2, rfl⟩
  · have HG2 := Lib.hid hg
    have HV := Lib.hid (tag_list hg)
    have hts := tagsize hg
    have HSL : Hid (sl (mkS (Tg.text (wk, tx))) = Tg.text (wk, tx)) := sl_mkS _
    clear hg
    generalize mkS (Tg.text (wk, tx)) = s at *
    go_wp2_with fail
    refine (HPUT.out _ _ (HP.out.below rfl b2) (HM.out.below rfl b2) HN.out).mono ?_
    rintro e w3 ⟨rfl, b3⟩
    have B3 := b2.trans (b3.mono b2.size)
    have b13 := b12.trans (b3.mono b12.size)
    go_wp2_with fail
    refine (plainly_any u l _ (HF.out.below B3)).mono ?_
    rintro e w4 ⟨⟨x1, rfl, f1⟩, b4⟩
    rw [hPL] at f1
    have HF1 := Lib.hid f1
    have B4 := belT B3 b4
    have b14 := belT b13 b4
    clear f1
    go_wp2_with fail
    refine (with_any x1 P nINM s _ HF1.out (by omega) (by decide)).mono ?_
    rintro e w5 ⟨⟨x2, rfl, f2⟩, b5⟩
    have HF2 := Lib.hid f2
    have B5 := belT B4 b5
    have b15 := belT b14 b5
    clear f2
    have S2 := Lib.hid (HS.out.withINM s)
    go_wp2_with fail
    refine (eval_any m x2 (P ++ [(nINM, s)]) true s modified _ HF2.out (by omega) (S2.out.lim Small.nil (Small.one (by omega)) Small.nil Small.nil) (HP.out.below rfl B5) (HM.out.below rfl B5)).mono ?_
    rintro e w6 ⟨⟨r, rfl, ha⟩, b6⟩
    have B6 := belT B5 b6
    have b16 := belT b15 b6
    have HR : Hid (r = if readsF m = true then 304 else 412) := by
      obtain ⟨tagged, t, hT, hr⟩ := ans_inm ha S2.out.inm (HSL.out ▸ HV.out) S2.out.im S2.out.ius
      obtain ⟨rfl, rfl⟩ := tagOf_text hT HG2.out HSL.out
      show _ = _
      rw [hr]
      simp [weak_self]
    clear ha
    have HF3 := Lib.hid ((HF1.out.below b5).below b6)
    go_wp2_with fail
    refine (with_any x1 P nIM s _ HF3.out (by omega) (by decide)).mono ?_
    rintro e w7 ⟨⟨x4, rfl, f4⟩, b7⟩
    have HF4 := Lib.hid f4
    have B7 := belT B6 b7
    have b17 := belT b16 b7
    clear f4
    have S4 := Lib.hid (HS.out.withIM s)
    go_wp2_with fail
    refine (eval_any m x4 (P ++ [(nIM, s)]) true s modified _ HF4.out (by omega) (S4.out.lim (Small.one (by omega)) Small.nil Small.nil Small.nil) (HP.out.below rfl B7) (HM.out.below rfl B7)).mono ?_
    rintro e w8 ⟨⟨q, rfl, ha⟩, b8⟩
    have B8 := belT B7 b8
    have b18 := belT b17 b8
    have HQ : Hid (q = if wk = true then 412 else 0) := by
      obtain ⟨tagged, t, hT, hr⟩ := ans_im ha S4.out.im (HSL.out ▸ HV.out) S4.out.inm S4.out.ims
      obtain ⟨rfl, rfl⟩ := tagOf_text hT HG2.out HSL.out
      show _ = _
      rw [hr]
      cases wk <;> simp [strong_self]
    clear ha
    have HF5 := Lib.hid ((HF3.out.below b7).below b8)
    go_wp2_with fail
    refine (with_any x1 P nIM s _ HF5.out (by omega) (by decide)).mono ?_
    rintro e w9 ⟨⟨x6, rfl, f6⟩, b9⟩
    have HF6 := Lib.hid f6
    have B9 := belT B8 b9
    have b19 := belT b18 b9
    clear f6
    go_wp2_with fail
    refine (eval_any m x6 (P ++ [(nIM, s)]) false ⟨#[]⟩ modified _ HF6.out (by decide) (S4.out.lim (Small.one (by omega)) Small.nil Small.nil Small.nil) (HP.out.below rfl B9) (HM.out.below rfl B9)).mono ?_
    rintro e w10 ⟨⟨k, rfl, ha⟩, b10⟩
    have B10 := belT B9 b10
    have g0 := HG.out _ (belT b19 b10)
    have HK : Hid (k = 412) := by
      obtain ⟨tagged, t, hT, hr⟩ := ans_im ha S4.out.im (HSL.out ▸ HV.out) S4.out.inm S4.out.ims
      show _ = _
      rw [hr]
      simp
    clear ha
    obtain rfl := HK.out
    have hcs : ((m.toList == [71, 69, 84]) = true ∧ readsF m = true) ∨ ((m.toList == [71, 69, 84]) = false ∧ (m.toList == [72, 69, 65, 68]) = true ∧ readsF m = true) ∨ ((m.toList == [71, 69, 84]) = false ∧ (m.toList == [72, 69, 65, 68]) = false ∧ readsF m = false) := by
      unfold readsF
      cases (m.toList == [71, 69, 84]) <;> cases (m.toList == [72, 69, 65, 68]) <;> simp
    clear hmz hl htx hpl hts hz1
    cases wk
    all_goals
      rcases hcs with ⟨t1, hR⟩ | ⟨t1, t2, hR⟩ | ⟨t1, t2, hR⟩
    all_goals
      have hr := HR.out
      have hq := HQ.out
      rw [hR] at hr
      simp only [if_true, if_false, Bool.false_eq_true] at hr hq
      subst hr
      subst hq
      clear HR HQ hR
      go_wp2_with fail
      go_ret
      exact ⟨rfl, B10⟩
  · have dc : (cc != 0) = true := by rw [bne_iff_ne]; omega
    clear hng
    go_wp2_with fail
    refine (HPUT.out _ _ (HP.out.below rfl b2) (HM.out.below rfl b2) HN.out).mono ?_
    rintro e w3 ⟨rfl, b3⟩
    have B3 := b2.trans (b3.mono b2.size)
    go_wp2_with fail
    go_ret
    exact ⟨rfl, B3⟩
end Go.Proofs.YtiijgbgknolmcaaDoor
