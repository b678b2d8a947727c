/- CondFirst: the law's walk. -/
import Derived.Test.YtiijgbgknolmcaaDoorConL
namespace Go.Proofs.YtiijgbgknolmcaaDoor
set_option maxRecDepth 20000
open Go.RowKit
open Cn
set_option maxHeartbeats 6400000 in
theorem condFirst_walk (m : ByteArray) (u : Value) (l : List Fld) (there : Bool) (tag : ByteArray) (modified n : Int) (wk : Bool) (tx : ByteArray) (w : World) (hmz : m.size ≤ 140737488351232) (h : SlR w e_ss u l) (hl : l.length * 32 ≤ 140737488351232) (hz : ∀ d ∈ l, d.1.size ≤ 140737488351232 ∧ d.2.size ≤ 140737488351232) (ht : tag.size ≤ 140737488351232) (hmo : (Lit.int .i64 modified).wf = true) (hn : (Lit.int .i64 n).wf = true) (htx : tx.size ≤ maxLen) (hmax : HasMax w) (hp10 : HasP10 w) :
    Calls Tryd.prog 6 #[.string m, u, .bool there, .string tag, .int .i64 modified, .int .i64 n, .agg #[.bool wk, .string tx]] w fun e w' => e = .returned (.bool true) ∧ Below w.heap.size w w' := by
  have b0 : Below w.heap.size w (w.alloc (.cells #[.bool wk, .string tx] 30)) := (Below.refl _ _).alloc (Nat.le_refl _) _
  have HF : Hid (FOk w u l) := ⟨h, by omega, fun f hf => (hz f hf).1⟩
  have HP := Lib.hid hp10
  have HM := Lib.hid hmax
  have hpl := plainly_len l
  have HS := Lib.hid (Sel.plain l)
  have HPUT := Lib.hid (fun w u hp hm hu => put_any w hp hm u hu)
  have HDP := Lib.hid (fun w hp => datePrint_all n w hp)
  simp only [maxLen] at htx
  clear h hz hp10 hmax hmo hn
  generalize hPL : plainly l = P at *
  go_enter Tryd.func6, Tryd.ntmps6
  go_wp2_with fail
  refine (tagPrint_any wk tx _ htx).mono ?_
  rintro e w1 ⟨hpr, b1⟩
  have B1 := b0.trans (b1.mono b0.size)
  rcases hpr with ⟨hg, rfl⟩ | ⟨hng, cc, hc1, hc2, rfl⟩
  · have HV := Lib.hid (tag_list hg)
    have hts := tagsize hg
    have HSL : Hid (sl (mkS (Tg.text (wk, tx))) = Tg.text (wk, tx)) := sl_mkS _
    clear hg
    generalize mkS (Tg.text (wk, tx)) = s at *
    go_wp2_with fail
    refine (HDP.out _ (HP.out.below rfl B1)).mono ?_
    rintro e w2 ⟨hdp, b2⟩
    have B2 := belT B1 b2
    have HN := Lib.hid (lit_fld w2 ⟨#[42]⟩)
    have B3 := B2.alloc B2.size (.cells #[.string nIM, .string (⟨#[42]⟩ : ByteArray)] 25)
    rcases hdp with ⟨k, hk, hnk, rfl⟩ | ⟨hno, rfl⟩
    · have hds : (mkS (Dt.printD k)).size = 29 := by rw [mkS_size, printD_len' k hk]
      generalize mkS (Dt.printD k) = d at *
      clear hnk
      go_wp2_with fail
      refine (HPUT.out _ _ (HP.out.below rfl B3) (HM.out.below rfl B3) HN.out).mono ?_
      rintro e w4 ⟨rfl, b4⟩
      have B4 := B3.trans (b4.mono B3.size)
      go_wp2_with fail
      refine (plainly_any u l _ (HF.out.below B4)).mono ?_
      rintro e w5 ⟨⟨x1, rfl, f1⟩, b5⟩
      rw [hPL] at f1
      have HF1 := Lib.hid f1
      have B5 := belT B4 b5
      clear f1
      go_wp2_with fail
      refine (with_any x1 P nINM s _ HF1.out (by omega) (by decide)).mono ?_
      rintro e w6 ⟨⟨xa, rfl, f2⟩, b6⟩
      have HFA := Lib.hid f2
      have B6 := belT B5 b6
      clear f2
      go_wp2_with fail
      refine (with_any x1 P nIM s _ (HF1.out.below b6) (by omega) (by decide)).mono ?_
      rintro e w7 ⟨⟨xb, rfl, f2⟩, b7⟩
      have HFB := Lib.hid f2
      have HFA7 := Lib.hid (HFA.out.below b7)
      have B7 := belT B6 b7
      clear f2
      have SA := Lib.hid (HS.out.withINM s)
      have SB := Lib.hid (HS.out.withIM s)
      have SA2 := Lib.hid (SA.out.withIMS d)
      have SB2 := Lib.hid (SB.out.withIUS d)
      have hla : (P ++ [(nINM, s)]).length = P.length + 1 := by simp
      have hlb : (P ++ [(nIM, s)]).length = P.length + 1 := by simp
      have HVS : Hid (Tg.listF (sl s) = .ok (false, [(wk, tx)])) := HSL.out ▸ HV.out
      clear HV HSL
      generalize P ++ [(nINM, s)] = LA at *
      generalize P ++ [(nIM, s)] = LB at *
      go_wp2_with fail
      refine (eval_any m xa LA there tag modified _ HFA7.out ht (SA.out.lim Small.nil (Small.one (by omega)) Small.nil Small.nil) (HP.out.below rfl B7) (HM.out.below rfl B7)).mono ?_
      rintro e w8 ⟨⟨r1, rfl, ha1⟩, b8⟩
      have HA1 := Lib.hid ha1
      have B8 := belT B7 b8
      clear ha1
      go_wp2_with fail
      refine (with_any xa LA nIMS d _ (HFA7.out.below b8) (by omega) (by decide)).mono ?_
      rintro e w9 ⟨⟨xc, rfl, f2⟩, b9⟩
      have HFC := Lib.hid f2
      have B9 := belT B8 b9
      clear f2
      go_wp2_with fail
      refine (eval_any m xc (LA ++ [(nIMS, d)]) there tag modified _ HFC.out ht (SA2.out.lim Small.nil (Small.one (by omega)) (Small.one (by omega)) Small.nil) (HP.out.below rfl B9) (HM.out.below rfl B9)).mono ?_
      rintro e w10 ⟨⟨r2, rfl, ha2⟩, b10⟩
      have B10 := belT B9 b10
      obtain rfl : r1 = r2 := ans_first_inm HA1.out ha2 HVS.out SA.out.inm SA2.out.inm SA.out.im SA2.out.im SA.out.ius SA2.out.ius
      clear ha2 HA1
      have HFB10 := Lib.hid (((HFB.out.below b8).below b9).below b10)
      go_wp2_with fail
      refine (eval_any m xb LB there tag modified _ HFB10.out ht (SB.out.lim (Small.one (by omega)) Small.nil Small.nil Small.nil) (HP.out.below rfl B10) (HM.out.below rfl B10)).mono ?_
      rintro e w11 ⟨⟨r3, rfl, ha3⟩, b11⟩
      have HA3 := Lib.hid ha3
      have B11 := belT B10 b11
      clear ha3
      go_wp2_with fail
      refine (with_any xb LB nIUS d _ (HFB10.out.below b11) (by omega) (by decide)).mono ?_
      rintro e w12 ⟨⟨xe, rfl, f2⟩, b12⟩
      have HFE := Lib.hid f2
      have B12 := belT B11 b12
      clear f2
      go_wp2_with fail
      refine (eval_any m xe (LB ++ [(nIUS, d)]) there tag modified _ HFE.out ht (SB2.out.lim (Small.one (by omega)) Small.nil Small.nil (Small.one (by omega))) (HP.out.below rfl B12) (HM.out.below rfl B12)).mono ?_
      rintro e w13 ⟨⟨r4, rfl, ha4⟩, b13⟩
      have B13 := belT B12 b13
      obtain rfl : r3 = r4 := ans_first_im HA3.out ha4 HVS.out SB.out.im SB2.out.im SB.out.inm SB2.out.inm SB.out.ims SB2.out.ims
      clear ha4 HA3
      go_wp2_with fail
      go_ret
      exact ⟨rfl, B13⟩
    · clear hno
      go_wp2_with fail
      refine (HPUT.out _ _ (HP.out.below rfl B3) (HM.out.below rfl B3) HN.out).mono ?_
      rintro e w4 ⟨rfl, b4⟩
      have B4 := B3.trans (b4.mono B3.size)
      go_wp2_with fail
      go_ret
      exact ⟨rfl, B4⟩
  · have dc : (cc != 0) = true := by rw [bne_iff_ne]; omega
    have dc' : (cc == 0) = false := by rw [beq_eq_false_iff_ne]; omega
    clear hng
    go_wp2_with fail
    refine (HDP.out _ (HP.out.below rfl B1)).mono ?_
    rintro e w2 ⟨hdp, b2⟩
    have B2 := belT B1 b2
    have HN := Lib.hid (lit_fld w2 ⟨#[42]⟩)
    have B3 := B2.alloc B2.size (.cells #[.string nIM, .string (⟨#[42]⟩ : ByteArray)] 25)
    rcases hdp with ⟨k, hk, hnk, rfl⟩ | ⟨hno, rfl⟩
    · clear hnk
      generalize mkS (Dt.printD k) = d at *
      go_wp2_with fail
      refine (HPUT.out _ _ (HP.out.below rfl B3) (HM.out.below rfl B3) HN.out).mono ?_
      rintro e w4 ⟨rfl, b4⟩
      have B4 := B3.trans (b4.mono B3.size)
      go_wp2_with fail
      go_ret
      exact ⟨rfl, B4⟩
    · clear hno
      go_wp2_with fail
      refine (HPUT.out _ _ (HP.out.below rfl B3) (HM.out.below rfl B3) HN.out).mono ?_
      rintro e w4 ⟨rfl, b4⟩
      have B4 := B3.trans (b4.mono B3.size)
      go_wp2_with fail
      go_ret
      exact ⟨rfl, B4⟩
end Go.Proofs.YtiijgbgknolmcaaDoor
