/- etag's List: the walk. -/
import Derived.Test.YtiijgbgknolmcaaDoorTagW
namespace Go.Proofs.YtiijgbgknolmcaaDoor
set_option maxRecDepth 20000
open Go.RowKit
theorem drop_one (T : ByteArray) {c : UInt8} {l : List UInt8} (h : sl T = c :: l) : sl (T.extract 1 T.size) = l := by rw [sl_extract_end, h]; rfl
def Tg.lift (x : Except Int (List Tg.Tag)) : Except Int (Bool × List Tg.Tag) := match x with | .error c => .error c | .ok l => .ok (false, l)
set_option maxHeartbeats 3200000 in
theorem list_any (s : ByteArray) (w : World) :
    Calls Tryd.prog 60 #[.string s] w fun e w' => ListAns w.heap.size s e w' ∧ Below w.heap.size w w' := by
  unfold ListAns
  by_cases hbig : 1000 < s.size
  · have d1 : decide (1000 < s.size) = true := decide_eq_true hbig
    have d1' : decide (1000 < (s.size : Int)) = true := decide_eq_true (by omega)
    have HF : Hid (Tg.listF (sl s) = .error 2) := by show _ = _; unfold Tg.listF; rw [if_pos (by rw [sl_len]; exact hbig)]
    clear hbig
    go_enter Tryd.func60, Tryd.ntmps60
    go_wp2_with fail
    go_ret3
    exact ⟨.inl ⟨2, HF.out, rfl⟩, Below.refl _ _⟩
  have d1 : decide (1000 < s.size) = false := decide_eq_false hbig
  have d1' : decide (1000 < (s.size : Int)) = false := decide_eq_false (by omega)
  by_cases hstar : sl s = [42]
  · have d2 : (s.toList == [42]) = true := by rw [ba_toList]; simpa using hstar
    have HF : Hid (Tg.listF (sl s) = .ok (true, [])) := by show _ = _; unfold Tg.listF; rw [if_neg (by rw [sl_len]; exact hbig), if_pos hstar]
    clear hbig hstar
    go_enter Tryd.func60, Tryd.ntmps60
    go_wp2_with fail
    go_ret3
    exact ⟨.inr (.inl ⟨HF.out, rfl⟩), Below.refl _ _⟩
  have d2 : (s.toList == [42]) = false := by rw [ba_toList]; simpa using hstar
  have HF : Hid (Tg.listF (sl s) = Tg.lift (Tg.listG (s.size + 1) [] (sl s))) := by show _ = _; unfold Tg.listF Tg.lift; rw [if_neg (by rw [sl_len]; exact hbig), if_neg hstar, sl_len]; cases Tg.listG (s.size + 1) [] (sl s) <;> rfl
  have hs0 : Hid ((sl s).length < s.size + 1) := by show _ < _; rw [sl_len]; omega
  have hs1 : s.size ≤ 1000 := by omega
  rw [HF.out]
  clear HF hbig hstar
  generalize hR : Tg.listG (s.size + 1) [] (sl s) = R at *
  have HP0 := Lib.hid hR.symm
  clear hR
  go_enter Tryd.func60, Tryd.ntmps60
  go_wp2_with fail
  go_loopw [0, 5] (fun t v wr => ∃ (cur : ByteArray) (out : List Tg.Tag) (m : Nat), t = .string cur ∧ cur.size + out.length ≤ 1000 ∧ (sl cur).length < m ∧ R = Tg.listG m out (sl cur) ∧ Owns wr w.heap.size 30 2 e_bs v out ∧ Below w.heap.size w wr) (fun t _ _ => strLen t)
  case atStart => exact ⟨s, [], _, rfl, by simpa using hs1, hs0.out, HP0.out, Owns.nil .., Below.refl _ _⟩
  case round =>
    obtain ⟨cur, out, m, rfl, hsz, hm, hR, hown, hbel⟩ := hrel
    clear HP0 hs0 d1 d1' d2
    have HR := Lib.hid hR
    have HM := Lib.hid hm
    have HO := Lib.hid hown
    obtain ⟨A2, c2, hv⟩ := hown.slice
    subst hv
    clear hR hm hown
    go_wp2_with fail
    refine (trimLeft_any cur _).mono ?_
    rintro e w1 ⟨rfl, b1⟩
    have hb1 := hbel.trans (b1.mono hbel.size)
    have HO1 := Lib.hid (HO.out.below b1)
    have HT : Hid (sl (mkS ((sl cur).dropWhile Tok.blankB)) = (sl cur).dropWhile Tok.blankB) := sl_mkS _
    have hTz : (mkS ((sl cur).dropWhile Tok.blankB)).size ≤ cur.size := by
      rw [mkS_size, ← sl_len]; exact (List.dropWhile_sublist _).length_le
    generalize mkS ((sl cur).dropWhile Tok.blankB) = T at *
    by_cases hT : T.size = 0
    · obtain rfl := empty_of_size T hT
      have hE : ByteArray.empty.toList.isEmpty = true := by rw [ba_toList]; rfl
      have HX : Hid (R = Tg.fin out) := by show _ = _; rw [HR.out, listG_nil (HT.out.symm.trans rfl)]
      clear hT
      by_cases h0 : out = []
      · subst h0
        have HX' : Hid (R = .error 3) := by show _ = _; rw [HX.out]; rfl
        go_wp2_with fail
        go_ret3
        exact ⟨.inl ⟨3, by rw [HX'.out]; rfl, rfl⟩, hb1⟩
      · have hl : ((out.length : Int) == 0) = false := by
          have : out.length ≠ 0 := fun h => h0 (List.length_eq_zero_iff.1 h)
          rw [beq_eq_false_iff_ne]; omega
        by_cases h20 : 20 < out.length
        · have d3 : decide (20 < (out.length : Int)) = true := decide_eq_true (by omega)
          have d4 : decide (20 < out.length) = true := decide_eq_true (by omega)
          have HX' : Hid (R = .error 2) := by show _ = _; rw [HX.out]; unfold Tg.fin; rw [if_neg h0, if_pos h20]
          clear h0 h20
          go_wp2_with fail
          go_ret3
          exact ⟨.inl ⟨2, by rw [HX'.out]; rfl, rfl⟩, hb1⟩
        · have d3 : decide (20 < (out.length : Int)) = false := decide_eq_false (by omega)
          have d4 : decide (20 < out.length) = false := decide_eq_false (by omega)
          have HX' : Hid (R = .ok out) := by show _ = _; rw [HX.out]; unfold Tg.fin; rw [if_neg h0, if_neg h20]
          clear h0 h20
          go_wp2_with fail
          go_ret3
          exact ⟨.inr (.inr ⟨out, _, by rw [HX'.out]; rfl, rfl, HO1.out⟩), hb1⟩
    · have hT0 : 0 < T.size := by omega
      have hE : T.toList.isEmpty = false := isEmpty_no T hT0
      have HC := Lib.hid (sl_cons T hT0)
      have HT' : Hid ((sl cur).dropWhile Tok.blankB = T[0] :: sl (T.extract 1 T.size)) := by show _ = _; rw [← HT.out]; exact HC.out
      clear hT
      by_cases hcm : T[0] = 44
      · have d3 : ((T[0].toNat : Int) == 44) = true := by rw [beq_iff_eq, hcm]; rfl
        obtain ⟨m', hm', hR'⟩ := listG_comma (out := out) HM.out (HT'.out.trans (by rw [hcm]))
        have HR' := Lib.hid (HR.out.trans hR')
        have HM' := Lib.hid hm'
        clear hcm hR' hm'
        go_wp2_with fail
        go_roundw
        case rel => exact ⟨_, out, m', rfl, by rw [ext_size _ _ _ (Nat.le_refl _)]; omega, HM'.out, HR'.out, HO1.out, hb1⟩
        case measure => simp only [strLen]; rw [ext_size _ _ _ (Nat.le_refl _)]; omega
      · have d3 : ((T[0].toNat : Int) == 44) = false := by
          rw [beq_eq_false_iff_ne]; intro h; apply hcm; rw [u8_eq]; exact h
        have HCM := Lib.hid hcm
        clear hcm
        go_wp2_with fail
        refine (tagFirst_any T _ (by omega)).mono ?_
        rintro e w2 ⟨hf, b2⟩
        have hb2 := hb1.trans (b2.mono hb1.size)
        have HO2 := Lib.hid (HO1.out.below b2)
        rcases hf with ⟨t, r, hg, hr, rfl⟩ | ⟨hno, rfl⟩
        · obtain ⟨wk, a⟩ := t
          have HG := Lib.hid hg
          have HRr : Hid (T[0] :: sl (T.extract 1 T.size) = Tg.text (wk, a) ++ r) := by show _ = _; rw [← HC.out]; exact hr
          have hrz : (mkS r).size + 1 ≤ T.size := by
            have h1 := congrArg List.length hr
            obtain ⟨c0, l0, h2, -⟩ := Tg.text_head (wk, a)
            rw [sl_len, List.length_append, h2, List.length_cons] at h1
            rw [mkS_size]; omega
          have hrs : Hid (sl (mkS r) = r) := sl_mkS r
          clear hg hr
          generalize mkS r = rr at *
          unfold tagV
          have hsz5 : (w2.alloc (.cells #[.bool wk, .string a] 30)).heap.size = w2.heap.size + 1 := by simp
          have hb3 := hb2.alloc hb2.size (.cells #[.bool wk, .string a] 30)
          have HO3 := Lib.hid (HO2.out.alloc (.cells #[.bool wk, .string a] 30))
          have HNC : ∀ j u, [Value.bool wk, Value.string a][j]? = some u → ((w2.alloc (.cells #[.bool wk, .string a] 30)).alloc (.cells #[.bool wk, .string a] 30)).cell? ((⟨w2.heap.size + 1, 0, none⟩ : Addr).add j) = some u := by
            have := new_cells (w2.alloc (.cells #[.bool wk, .string a] 30)) [.bool wk, .string a] 30
            rw [hsz5] at this
            exact this
          clear hsz5
          go_wp2_with (at_builtin; go_must (refine wpList_append_owns rfl (.tmp 31) (.tmp 33) _ rfl w.heap.size 30 (.agg #[.bool false, .string ByteArray.empty]) 2 24 e_bs Tryd.underlying96 tagInfo rfl (by decide) _ out rfl (HO3.out.alloc _) ⟨w2.heap.size + 1, 0, none⟩ 1 1 [(wk, a)] rfl rfl rfl HNC (bs_one _) (by simp only [maxLen]; omega) (by omega) (bel_size hb3 (Nat.le_refl _) _) ?_); intro v5 w5 hown5 hg5)
          have hb5 := bel_append hb3 (Nat.le_refl _) HO3.out hg5
          clear hg5 HNC
          refine (trimLeft_any rr _).mono ?_
          rintro e w6 ⟨rfl, b6⟩
          have hb6 := hb5.trans (b6.mono hb5.size)
          have HO6 := Lib.hid (hown5.below b6)
          clear hown5
          obtain ⟨A6, c6, hv6⟩ := HO6.out.slice
          subst hv6
          have HT2 : Hid (sl (mkS ((sl rr).dropWhile Tok.blankB)) = r.dropWhile Tok.blankB) := by show _ = _; rw [sl_mkS, hrs.out]
          have hT2z : (mkS ((sl rr).dropWhile Tok.blankB)).size ≤ rr.size := by
            rw [mkS_size, ← sl_len]; exact (List.dropWhile_sublist _).length_le
          generalize mkS ((sl rr).dropWhile Tok.blankB) = U at *
          have HLS := Lib.hid (fun (h : r.dropWhile Tok.blankB = []) => listG_last (out := out) HM.out HT'.out HCM.out HG.out HRr.out h)
          have HNO := Lib.hid (fun (d : UInt8) (q : List UInt8) (h : r.dropWhile Tok.blankB = d :: q) (hd : d ≠ 44) => listG_none (out := out) HM.out HT'.out HCM.out HG.out HRr.out h hd)
          have HNX := Lib.hid (fun (q : List UInt8) (h : r.dropWhile Tok.blankB = 44 :: q) => listG_next (out := out) HM.out HT'.out HCM.out HG.out HRr.out h)
          have hol : (out ++ [(wk, a)]).length = out.length + 1 := by simp
          have hon : out ++ [(wk, a)] ≠ [] := by simp
          have HOL := Lib.hid hol
          generalize out ++ [(wk, a)] = out2 at *
          by_cases hU : U.size = 0
          · obtain rfl := empty_of_size U hU
            have hE2 : ByteArray.empty.toList.isEmpty = true := by rw [ba_toList]; rfl
            have HX : Hid (R = Tg.fin out2) := by show _ = _; rw [HR.out, HLS.out (HT2.out.symm.trans rfl)]
            have hl : ((out2.length : Int) == 0) = false := by rw [beq_eq_false_iff_ne]; omega
            clear hU hol
            by_cases h20 : 20 < out2.length
            · have d5 : decide (20 < (out2.length : Int)) = true := decide_eq_true (by omega)
              have d6 : decide (20 < out2.length) = true := decide_eq_true (by omega)
              have HX' : Hid (R = .error 2) := by show _ = _; rw [HX.out]; unfold Tg.fin; rw [if_neg hon, if_pos h20]
              clear h20 hon
              go_wp2_with fail
              go_ret3
              exact ⟨.inl ⟨2, by rw [HX'.out]; rfl, rfl⟩, hb6⟩
            · have d5 : decide (20 < (out2.length : Int)) = false := decide_eq_false (by omega)
              have d6 : decide (20 < out2.length) = false := decide_eq_false (by omega)
              have HX' : Hid (R = .ok out2) := by show _ = _; rw [HX.out]; unfold Tg.fin; rw [if_neg hon, if_neg h20]
              clear h20 hon
              go_wp2_with fail
              go_ret3
              exact ⟨.inr (.inr ⟨out2, _, by rw [HX'.out]; rfl, rfl, HO6.out⟩), hb6⟩
          · have hU0 : 0 < U.size := by omega
            have hE2 : U.toList.isEmpty = false := isEmpty_no U hU0
            clear hol
            have HU' : Hid (r.dropWhile Tok.blankB = U[0] :: sl (U.extract 1 U.size)) := by show _ = _; rw [← HT2.out]; exact sl_cons U hU0
            clear hU
            by_cases hcu : U[0] = 44
            · have d5 : ((U[0].toNat : Int) == 44) = true := by rw [beq_iff_eq, hcu]; rfl
              obtain ⟨m', hm', hR'⟩ := HNX.out _ (HU'.out.trans (by rw [hcu]))
              have HR' := Lib.hid (HR.out.trans hR')
              have HM' := Lib.hid hm'
              clear hcu hR' hm'
              go_wp2_with fail
              go_roundw
              case rel => exact ⟨_, out2, m', rfl, by have := HOL.out; rw [ext_size _ _ _ (Nat.le_refl _)]; omega, HM'.out, HR'.out, HO6.out, hb6⟩
              case measure => simp only [strLen]; rw [ext_size _ _ _ (Nat.le_refl _)]; omega
            · have d5 : ((U[0].toNat : Int) == 44) = false := by
                rw [beq_eq_false_iff_ne]; intro h; apply hcu; rw [u8_eq]; exact h
              have HX' : Hid (R = .error 3) := by show _ = _; rw [HR.out, HNO.out _ _ HU'.out hcu]
              clear hcu
              go_wp2_with fail
              go_ret3
              exact ⟨.inl ⟨3, by rw [HX'.out]; rfl, rfl⟩, hb6⟩
        · have HX' : Hid (R = .error 3) := by show _ = _; rw [HR.out, listG_bad HM.out HT'.out HCM.out (fun t r hg h => hno t r hg (HC.out.trans h))]
          clear hno
          unfold tagV
          go_wp2_with fail
          go_ret3
          exact ⟨.inl ⟨3, by rw [HX'.out]; rfl, rfl⟩, hb2.alloc hb2.size _⟩
end Go.Proofs.YtiijgbgknolmcaaDoor
