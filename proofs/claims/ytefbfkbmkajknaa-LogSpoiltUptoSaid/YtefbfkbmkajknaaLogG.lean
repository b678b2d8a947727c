/- LogSpoilt: the law's walk. -/
import Derived.Test.YtefbfkbmkajknaaLogF
import Derived.Test.YtefbfkbmkajknaaBuf
namespace Go.Proofs.Ytefbfkbmkajknaa
open Go.RowKit
namespace Lg
theorem spoil_two : ∀ (t : List UInt8) (k : Nat) (a b : UInt8) (h : k + 1 < t.length), (t.set k (t[k] ^^^ a)).set (k + 1) (t[k + 1] ^^^ b) = spoil t k a b
  | x :: y :: t, 0, a, b, _ => by simp [spoil]
  | x :: t, k + 1, a, b, h => by
    have := spoil_two t k a b (by simpa using h)
    simp only [List.set_cons_succ, List.getElem_cons_succ, spoil, this]
theorem spoil_last : ∀ (t : List UInt8) (k : Nat) (a b : UInt8) (h : k < t.length), k + 1 = t.length → t.set k (t[k] ^^^ a) = spoil t k a b
  | [x], 0, a, b, _, _ => by simp [spoil]
  | x :: y :: t, 0, a, b, _, h => by simp at h
  | x :: t, k + 1, a, b, h, h2 => by
    have := spoil_last t k a b (by simpa using h) (by simpa using h2)
    simp only [List.set_cons_succ, List.getElem_cons_succ, spoil, this]
end Lg
theorem xor_byte (c a : UInt8) : bits BinOp.xor IntKind.u8 (c.toNat : Int) (a.toNat : Int) = ((c ^^^ a).toNat : Int) := by
  rw [UInt8.toNat_xor]; exact u8_xor_nat _ _ (Lg.byte_lt c) (Lg.byte_lt a)
theorem xor_byte0 (c : UInt8) : bits BinOp.xor IntKind.u8 (c.toNat : Int) 0 = ((c ^^^ (0 : UInt8)).toNat : Int) := xor_byte c 0
set_option maxRecDepth 100000 in
set_option maxHeartbeats 6400000 in
theorem logSpoilt_core (v : Value) (l : List ByteArray) (at_ : Int) (x y : UInt8) (w : World) (h : SlR w es v l) (hl : l.length ≤ 1048576) (hat : Wide at_) :
    Calls Try.prog 6 #[v, .int .i64 at_, .int .u8 x.toNat, .int .u8 y.toNat] w fun e w' => e = .returned (.bool true) ∧ Below w.heap.size w w' := by
  go_enter Try.func6, Try.ntmps6
  go_wp2_with fail
  refine (logged_any v l _ h hl).mono ?_
  rintro e w1 ⟨⟨v1, rfl, o1⟩, b1⟩
  have h1 := SlR.of_owns o1
  have hjl := jour_len l
  have hrl : (recs l).length = l.length := by simp [recs]
  obtain ⟨j, hj, hjs, HJ⟩ : ∃ j : ByteArray, mkS (jour l) = j ∧ j.size ≤ 1073741824 ∧ Hid (sl j = jour l) := ⟨_, rfl, by rw [mkS_size]; omega, sl_mkS _⟩
  rw [hj]
  clear hj hjl o1
  obtain ⟨A1, c1, hv1, hc1⟩ := h1.form
  subst hv1
  have H1 := Lib.hid h1
  clear h1
  by_cases hj0 : j.size = 0
  · have d0 : ((j.size : Int) == 0) = true := by rw [beq_iff_eq]; omega
    clear hj0
    go_wp2_with fail
    go_ret
    exact ⟨rfl, b1⟩
  · have d0 : ((j.size : Int) == 0) = false := by rw [beq_eq_false_iff_ne]; omega
    by_cases hxy : x = 0 ∧ y = 0
    · obtain ⟨rfl, rfl⟩ := hxy
      go_wp2_with fail
      go_ret
      exact ⟨rfl, b1⟩
    · have hcs : ∃ (a b : UInt8), a ≠ 0 ∧ (((((x.toNat : Int) == 0) = false) ∧ a = x ∧ b = y) ∨ ((((x.toNat : Int) == 0) = true) ∧ (((y.toNat : Int) == 0) = false) ∧ a = y ∧ b = 0)) := by
        have z : ∀ c : UInt8, c ≠ 0 → ((c.toNat : Int) == 0) = false := fun c hc => by
          rw [beq_eq_false_iff_ne]; intro h; apply hc; exact UInt8.toNat_inj.1 (by simpa using h)
        by_cases hx : x = 0
        · have hy : y ≠ 0 := fun hy => hxy ⟨hx, hy⟩
          exact ⟨y, 0, hy, .inr ⟨by rw [hx]; rfl, z y hy, rfl, rfl⟩⟩
        · exact ⟨x, y, hx, .inl ⟨z x hx, rfl, rfl⟩⟩
      obtain ⟨k, hk, hkz⟩ : ∃ k : Nat, at_ % (j.size : Int) = (k : Int) ∧ k < j.size := by
        have h0 := Int.emod_nonneg at_ (b := (j.size : Int)) (by omega)
        have h1 := Int.emod_lt_of_pos at_ (b := (j.size : Int)) (by omega)
        exact ⟨(at_ % (j.size : Int)).toNat, by omega, by omega⟩
      have HK := Lib.hid hk
      clear hk hxy hj0
      obtain ⟨a, b, ha, hcs⟩ := hcs
      rcases hcs with ⟨hx0, rfl, rfl⟩ | ⟨hx0, hy0, rfl, rfl⟩
      · go_wp2_with ((refine wpList_to_bytes rfl (.tmp 40) 9 37 5 rfl Try.underlying9 Try.underlying37 Try.underlying5 j rfl ?_); intro cp w2 hcp hbuf b2 hsz2)
        refine (rest_any at_ (j.size : Int) _ hat (by omega)).mono ?_
        rintro e w' ⟨rfl, rfl⟩
        rw [HK.out]
        have hkl : k < (sl j).length := by rw [sl_len]; exact hkz
        have c0 := hbuf.cell k hkl
        have f0 := hbuf.free k hkl
        generalize hp : (sl j)[k] = p at c0
        have hb1 := hbuf.put k hkl (p ^^^ a)
        have HB1 := Lib.hid hb1
        have hgk : w1.heap.size < w2.heap.size := hbuf.1
        have hx1 := xor_byte p a
        by_cases hk1 : k + 1 < j.size
        · have hkl1 : k + 1 < (sl j).length := by rw [sl_len]; exact hk1
          have q0 := hbuf.cell (k + 1) hkl1
          have q1 := hbuf.free (k + 1) hkl1
          generalize hq : (sl j)[k + 1] = q at q0
          have hx2 := xor_byte q b
          have hx3 := xor_byte0 q
          have hL : Hid (((sl j).set k (p ^^^ a)).set (k + 1) (q ^^^ b) = Lg.spoil (sl j) k a b) := by
            show _ = _; rw [← hp, ← hq]; exact Lg.spoil_two (sl j) k a b hkl1
          have hb2 := HB1.out.put (k + 1) (by rw [List.length_set]; exact hkl1) (q ^^^ b)
          rw [hL.out] at hb2
          have hrs := run_string_buf (dst := 9) Try.underlying37 Try.underlying5 Try.underlying9 hb2 cp
          rw [Lg.spoil_len, sl_len] at hrs
          clear hb1 hb2 hbuf hp hq hkl hkl1
          simp only [bv, UInt8.toNat_xor, UInt8.xor_zero] at c0 q0 hrs
          go_wp2_with fail
          have b2' : Below w1.heap.size w1 ((w2.setCell ⟨w1.heap.size, k, none⟩ (.int .u8 (((p.toNat ^^^ a.toNat : Nat) : Int)))).setCell ⟨w1.heap.size, k + 1, none⟩ (.int .u8 (((q.toNat ^^^ b.toNat : Nat) : Int)))) := (b2.setCell (p := ⟨w1.heap.size, k, none⟩) (Nat.le_refl _) _).setCell (p := ⟨w1.heap.size, k + 1, none⟩) (Nat.le_refl _) _
          obtain ⟨S, hS, hSz, HSL⟩ : ∃ S : ByteArray, mkS (Lg.spoil (sl j) k a b) = S ∧ S.size ≤ 1073741824 ∧ Hid (sl S = Lg.spoil (sl j) k a b) := ⟨_, rfl, by rw [mkS_size, Lg.spoil_len, sl_len]; omega, sl_mkS _⟩
          rw [hS]
          clear hS
          have HT : Hid (Lg.recAll 0 (sl S) = ((lens (recs l)).take (Lg.whole 0 (lens (recs l)) k).1, (Lg.whole 0 (lens (recs l)) k).2)) := by
            show _ = _
            rw [HSL.out, HJ.out]
            exact Lg.recAll_spoilt a b ha _ 0 k (lens_recs_le l) (by have := HJ.out; rw [← sl_len, this] at hkz; exact hkz)
          have hwl := Lg.whole_le (lens (recs l)) 0 k
          have hll : (lens (recs l)).length = l.length := by simp [lens, recs]
          have hLle := Lib.hid (lens_recs_le l)
          obtain ⟨W, B, hWB⟩ : ∃ W B, Lg.whole 0 (lens (recs l)) k = (W, B) := ⟨_, _, rfl⟩
          rw [hWB] at HT hwl
          refine (recover_any S _ (by omega)).mono ?_
          rintro e w3 ⟨hr, b3⟩
          rw [HT.out] at hr
          obtain ⟨v2, rfl, o2⟩ := hr
          simp only [List.map_take, lens_mkS] at o2
          have hW := hwl.1
          have hB := hwl.2.1
          rw [hll] at hW
          clear hwl hll
          have H2 := Lib.hid (SlR.of_owns o2)
          have H12 := Lib.hid ((H1.out.below b2').below b3)
          have bb := belT (belT b1 b2') b3
          have HWB := Lib.hid hWB
          have HL : Hid (∀ i (hi : i < l.length), (lens (recs l))[i]? = some (sl ((recs l)[i]'(by rw [hrl]; exact hi)))) := by
            intro i hi
            simp [lens, recs, List.getElem?_eq_getElem hi]
          clear o2 hWB b1 b2' b3
          go_wp2_with fail
          go_loopw [15, 16, 77] (fun t n i wr => ∃ b i' : Nat, i' ≤ l.length ∧ b ≤ k ∧ t = .int .i64 b ∧ n = .int .i64 i' ∧ i = .int .i64 i' ∧ Lg.whole 0 (lens (recs l)) k = (i' + (Lg.whole i' ((lens (recs l)).drop i') (k - b)).1, b + (Lg.whole i' ((lens (recs l)).drop i') (k - b)).2) ∧ Below w3.heap.size w3 wr) (fun _ _ i _ => l.length - (intOf i).toNat)
          case atStart => exact ⟨0, 0, by omega, by omega, rfl, rfl, rfl, by simp, Below.refl _ _⟩
          case round =>
            obtain ⟨b, i, hi, hbk, rfl, rfl, rfl, hwh, hbel⟩ := hrel
            have HH := Lib.hid hwh
            clear hwh
            by_cases hlt : i < l.length
            · obtain ⟨g, o, c', he, -, hg, hcell⟩ := H12.out.texts (by omega)
              obtain ⟨rfl, rfl⟩ : A1 = some ⟨g, o, none⟩ ∧ c1 = c' := by injection he with h1 h2 h3; exact ⟨h1, h3⟩
              have c0 := (hbel.cell (p := ⟨g, o + i, none⟩) hg).trans (hcell i (by omega))
              have hL := HL.out i hlt
              have hs := recs_le l _ (List.getElem_mem (h := by rw [hrl]; exact hlt))
              generalize (recs l)[i]'(by rw [hrl]; exact hlt) = s at c0 hL hs
              have hLi : i < (lens (recs l)).length := by simp [lens]; omega
              have hLe : (lens (recs l))[i] = sl s := by rw [List.getElem?_eq_getElem hLi] at hL; injection hL
              have hst := Lg.whole_step hLi hbk HH.out
              rw [hLe, Lg.frame_len, sl_len] at hst
              have HS := Lib.hid hst
              clear hL hLe hst hcell he
              go_wp2_with fail
              refine (frame_any i s _ (by omega) hs).mono ?_
              rintro e w4 ⟨rfl, b4⟩
              have hbb := hbel.trans (b4.mono hbel.size)
              have hfz : (mkS (Lg.frame i (sl s))).size = s.size + 8 := by rw [mkS_size, Lg.frame_len, sl_len]
              generalize mkS (Lg.frame i (sl s)) = f at hfz
              by_cases hfit : b + (s.size + 8) ≤ k
              · have hst := HS.out.2 hfit
                have HS' := Lib.hid hst
                have d1 : decide ((k : Int) < (b : Int) + ((s.size : Int) + 8)) = false := by rw [decide_eq_false_iff_not]; omega
                clear hst HS
                go_wp2_with fail
                go_roundw
                case rel => exact ⟨b + (s.size + 8), i + 1, by omega, hfit, by go_num, by go_num, by go_num, HS'.out, hbb⟩
                case measure => simp [intOf]; omega
              · have hst := HS.out.1 (by omega)
                have hst2 : i = W ∧ b = B := by rw [HWB.out] at hst; simpa using hst.symm
                have d1 : decide ((k : Int) < (b : Int) + ((s.size : Int) + 8)) = true := by rw [decide_eq_true_eq]; omega
                clear hst HS
                obtain ⟨rfl, rfl⟩ := hst2
                go_wp2_with fail
                refine (eqStr_any _ _ ((recs l).take i) ((recs l).take i) _ (H2.out.below hbb) ((H12.out.below hbb).take_ i (by omega)) (by simp; omega) (by simp; omega)).mono ?_
                rintro e w' ⟨rfl, rfl⟩
                rw [same_refl]
                go_wp2_with fail
                go_ret
                exact ⟨rfl, belT bb hbb⟩
            · have hst := Lg.whole_end (by simp [lens]; omega) HH.out
              have hst2 : i = W ∧ b = B := by rw [HWB.out] at hst; simpa using hst.symm
              clear hst
              obtain ⟨rfl, rfl⟩ := hst2
              go_wp2_with fail
              refine (eqStr_any _ _ ((recs l).take i) ((recs l).take i) _ (H2.out.below hbel) ((H12.out.below hbel).take_ i (by omega)) (by simp; omega) (by simp; omega)).mono ?_
              rintro e w' ⟨rfl, rfl⟩
              rw [same_refl]
              go_wp2_with fail
              go_ret
              exact ⟨rfl, belT bb hbel⟩
        · have hL : Hid ((sl j).set k (p ^^^ a) = Lg.spoil (sl j) k a b) := by
            show _ = _; rw [← hp]; exact Lg.spoil_last (sl j) k a b hkl (by rw [sl_len]; omega)
          rw [hL.out] at hb1
          have hrs := run_string_buf (dst := 9) Try.underlying37 Try.underlying5 Try.underlying9 hb1 cp
          rw [Lg.spoil_len, sl_len] at hrs
          have dk : decide ((k : Int) + 1 < (j.size : Int)) = false := by rw [decide_eq_false_iff_not]; omega
          clear hb1 hbuf hp hkl
          simp only [bv, UInt8.toNat_xor, UInt8.xor_zero] at c0 hrs
          go_wp2_with fail
          have b2' : Below w1.heap.size w1 (w2.setCell ⟨w1.heap.size, k, none⟩ (.int .u8 (((p.toNat ^^^ a.toNat : Nat) : Int)))) := b2.setCell (p := ⟨w1.heap.size, k, none⟩) (Nat.le_refl _) _
          obtain ⟨S, hS, hSz, HSL⟩ : ∃ S : ByteArray, mkS (Lg.spoil (sl j) k a b) = S ∧ S.size ≤ 1073741824 ∧ Hid (sl S = Lg.spoil (sl j) k a b) := ⟨_, rfl, by rw [mkS_size, Lg.spoil_len, sl_len]; omega, sl_mkS _⟩
          rw [hS]
          clear hS
          have HT : Hid (Lg.recAll 0 (sl S) = ((lens (recs l)).take (Lg.whole 0 (lens (recs l)) k).1, (Lg.whole 0 (lens (recs l)) k).2)) := by
            show _ = _
            rw [HSL.out, HJ.out]
            exact Lg.recAll_spoilt a b ha _ 0 k (lens_recs_le l) (by have := HJ.out; rw [← sl_len, this] at hkz; exact hkz)
          have hwl := Lg.whole_le (lens (recs l)) 0 k
          have hll : (lens (recs l)).length = l.length := by simp [lens, recs]
          have hLle := Lib.hid (lens_recs_le l)
          obtain ⟨W, B, hWB⟩ : ∃ W B, Lg.whole 0 (lens (recs l)) k = (W, B) := ⟨_, _, rfl⟩
          rw [hWB] at HT hwl
          refine (recover_any S _ (by omega)).mono ?_
          rintro e w3 ⟨hr, b3⟩
          rw [HT.out] at hr
          obtain ⟨v2, rfl, o2⟩ := hr
          simp only [List.map_take, lens_mkS] at o2
          have hW := hwl.1
          have hB := hwl.2.1
          rw [hll] at hW
          clear hwl hll
          have H2 := Lib.hid (SlR.of_owns o2)
          have H12 := Lib.hid ((H1.out.below b2').below b3)
          have bb := belT (belT b1 b2') b3
          have HWB := Lib.hid hWB
          have HL : Hid (∀ i (hi : i < l.length), (lens (recs l))[i]? = some (sl ((recs l)[i]'(by rw [hrl]; exact hi)))) := by
            intro i hi
            simp [lens, recs, List.getElem?_eq_getElem hi]
          clear o2 hWB b1 b2' b3
          go_wp2_with fail
          go_loopw [15, 16, 77] (fun t n i wr => ∃ b i' : Nat, i' ≤ l.length ∧ b ≤ k ∧ t = .int .i64 b ∧ n = .int .i64 i' ∧ i = .int .i64 i' ∧ Lg.whole 0 (lens (recs l)) k = (i' + (Lg.whole i' ((lens (recs l)).drop i') (k - b)).1, b + (Lg.whole i' ((lens (recs l)).drop i') (k - b)).2) ∧ Below w3.heap.size w3 wr) (fun _ _ i _ => l.length - (intOf i).toNat)
          case atStart => exact ⟨0, 0, by omega, by omega, rfl, rfl, rfl, by simp, Below.refl _ _⟩
          case round =>
            obtain ⟨b, i, hi, hbk, rfl, rfl, rfl, hwh, hbel⟩ := hrel
            have HH := Lib.hid hwh
            clear hwh
            by_cases hlt : i < l.length
            · obtain ⟨g, o, c', he, -, hg, hcell⟩ := H12.out.texts (by omega)
              obtain ⟨rfl, rfl⟩ : A1 = some ⟨g, o, none⟩ ∧ c1 = c' := by injection he with h1 h2 h3; exact ⟨h1, h3⟩
              have c0 := (hbel.cell (p := ⟨g, o + i, none⟩) hg).trans (hcell i (by omega))
              have hL := HL.out i hlt
              have hs := recs_le l _ (List.getElem_mem (h := by rw [hrl]; exact hlt))
              generalize (recs l)[i]'(by rw [hrl]; exact hlt) = s at c0 hL hs
              have hLi : i < (lens (recs l)).length := by simp [lens]; omega
              have hLe : (lens (recs l))[i] = sl s := by rw [List.getElem?_eq_getElem hLi] at hL; injection hL
              have hst := Lg.whole_step hLi hbk HH.out
              rw [hLe, Lg.frame_len, sl_len] at hst
              have HS := Lib.hid hst
              clear hL hLe hst hcell he
              go_wp2_with fail
              refine (frame_any i s _ (by omega) hs).mono ?_
              rintro e w4 ⟨rfl, b4⟩
              have hbb := hbel.trans (b4.mono hbel.size)
              have hfz : (mkS (Lg.frame i (sl s))).size = s.size + 8 := by rw [mkS_size, Lg.frame_len, sl_len]
              generalize mkS (Lg.frame i (sl s)) = f at hfz
              by_cases hfit : b + (s.size + 8) ≤ k
              · have hst := HS.out.2 hfit
                have HS' := Lib.hid hst
                have d1 : decide ((k : Int) < (b : Int) + ((s.size : Int) + 8)) = false := by rw [decide_eq_false_iff_not]; omega
                clear hst HS
                go_wp2_with fail
                go_roundw
                case rel => exact ⟨b + (s.size + 8), i + 1, by omega, hfit, by go_num, by go_num, by go_num, HS'.out, hbb⟩
                case measure => simp [intOf]; omega
              · have hst := HS.out.1 (by omega)
                have hst2 : i = W ∧ b = B := by rw [HWB.out] at hst; simpa using hst.symm
                have d1 : decide ((k : Int) < (b : Int) + ((s.size : Int) + 8)) = true := by rw [decide_eq_true_eq]; omega
                clear hst HS
                obtain ⟨rfl, rfl⟩ := hst2
                go_wp2_with fail
                refine (eqStr_any _ _ ((recs l).take i) ((recs l).take i) _ (H2.out.below hbb) ((H12.out.below hbb).take_ i (by omega)) (by simp; omega) (by simp; omega)).mono ?_
                rintro e w' ⟨rfl, rfl⟩
                rw [same_refl]
                go_wp2_with fail
                go_ret
                exact ⟨rfl, belT bb hbb⟩
            · have hst := Lg.whole_end (by simp [lens]; omega) HH.out
              have hst2 : i = W ∧ b = B := by rw [HWB.out] at hst; simpa using hst.symm
              clear hst
              obtain ⟨rfl, rfl⟩ := hst2
              go_wp2_with fail
              refine (eqStr_any _ _ ((recs l).take i) ((recs l).take i) _ (H2.out.below hbel) ((H12.out.below hbel).take_ i (by omega)) (by simp; omega) (by simp; omega)).mono ?_
              rintro e w' ⟨rfl, rfl⟩
              rw [same_refl]
              go_wp2_with fail
              go_ret
              exact ⟨rfl, belT bb hbel⟩
      · go_wp2_with ((refine wpList_to_bytes rfl (.tmp 40) 9 37 5 rfl Try.underlying9 Try.underlying37 Try.underlying5 j rfl ?_); intro cp w2 hcp hbuf b2 hsz2)
        refine (rest_any at_ (j.size : Int) _ hat (by omega)).mono ?_
        rintro e w' ⟨rfl, rfl⟩
        rw [HK.out]
        have hkl : k < (sl j).length := by rw [sl_len]; exact hkz
        have c0 := hbuf.cell k hkl
        have f0 := hbuf.free k hkl
        generalize hp : (sl j)[k] = p at c0
        have hb1 := hbuf.put k hkl (p ^^^ a)
        have HB1 := Lib.hid hb1
        have hgk : w1.heap.size < w2.heap.size := hbuf.1
        have hx1 := xor_byte p a
        by_cases hk1 : k + 1 < j.size
        · have hkl1 : k + 1 < (sl j).length := by rw [sl_len]; exact hk1
          have q0 := hbuf.cell (k + 1) hkl1
          have q1 := hbuf.free (k + 1) hkl1
          generalize hq : (sl j)[k + 1] = q at q0
          have hx2 := xor_byte q (0 : UInt8)
          have hx3 := xor_byte0 q
          have hL : Hid (((sl j).set k (p ^^^ a)).set (k + 1) (q ^^^ (0 : UInt8)) = Lg.spoil (sl j) k a (0 : UInt8)) := by
            show _ = _; rw [← hp, ← hq]; exact Lg.spoil_two (sl j) k a (0 : UInt8) hkl1
          have hb2 := HB1.out.put (k + 1) (by rw [List.length_set]; exact hkl1) (q ^^^ (0 : UInt8))
          rw [hL.out] at hb2
          have hrs := run_string_buf (dst := 9) Try.underlying37 Try.underlying5 Try.underlying9 hb2 cp
          rw [Lg.spoil_len, sl_len] at hrs
          clear hb1 hb2 hbuf hp hq hkl hkl1
          simp only [bv, UInt8.toNat_xor, UInt8.xor_zero] at c0 q0 hrs
          go_wp2_with fail
          have b2' : Below w1.heap.size w1 ((w2.setCell ⟨w1.heap.size, k, none⟩ (.int .u8 (((p.toNat ^^^ a.toNat : Nat) : Int)))).setCell ⟨w1.heap.size, k + 1, none⟩ (.int .u8 ((q.toNat : Int)))) := (b2.setCell (p := ⟨w1.heap.size, k, none⟩) (Nat.le_refl _) _).setCell (p := ⟨w1.heap.size, k + 1, none⟩) (Nat.le_refl _) _
          obtain ⟨S, hS, hSz, HSL⟩ : ∃ S : ByteArray, mkS (Lg.spoil (sl j) k a (0 : UInt8)) = S ∧ S.size ≤ 1073741824 ∧ Hid (sl S = Lg.spoil (sl j) k a (0 : UInt8)) := ⟨_, rfl, by rw [mkS_size, Lg.spoil_len, sl_len]; omega, sl_mkS _⟩
          rw [hS]
          clear hS
          have HT : Hid (Lg.recAll 0 (sl S) = ((lens (recs l)).take (Lg.whole 0 (lens (recs l)) k).1, (Lg.whole 0 (lens (recs l)) k).2)) := by
            show _ = _
            rw [HSL.out, HJ.out]
            exact Lg.recAll_spoilt a (0 : UInt8) ha _ 0 k (lens_recs_le l) (by have := HJ.out; rw [← sl_len, this] at hkz; exact hkz)
          have hwl := Lg.whole_le (lens (recs l)) 0 k
          have hll : (lens (recs l)).length = l.length := by simp [lens, recs]
          have hLle := Lib.hid (lens_recs_le l)
          obtain ⟨W, B, hWB⟩ : ∃ W B, Lg.whole 0 (lens (recs l)) k = (W, B) := ⟨_, _, rfl⟩
          rw [hWB] at HT hwl
          refine (recover_any S _ (by omega)).mono ?_
          rintro e w3 ⟨hr, b3⟩
          rw [HT.out] at hr
          obtain ⟨v2, rfl, o2⟩ := hr
          simp only [List.map_take, lens_mkS] at o2
          have hW := hwl.1
          have hB := hwl.2.1
          rw [hll] at hW
          clear hwl hll
          have H2 := Lib.hid (SlR.of_owns o2)
          have H12 := Lib.hid ((H1.out.below b2').below b3)
          have bb := belT (belT b1 b2') b3
          have HWB := Lib.hid hWB
          have HL : Hid (∀ i (hi : i < l.length), (lens (recs l))[i]? = some (sl ((recs l)[i]'(by rw [hrl]; exact hi)))) := by
            intro i hi
            simp [lens, recs, List.getElem?_eq_getElem hi]
          clear o2 hWB b1 b2' b3
          go_wp2_with fail
          go_loopw [15, 16, 77] (fun t n i wr => ∃ b i' : Nat, i' ≤ l.length ∧ b ≤ k ∧ t = .int .i64 b ∧ n = .int .i64 i' ∧ i = .int .i64 i' ∧ Lg.whole 0 (lens (recs l)) k = (i' + (Lg.whole i' ((lens (recs l)).drop i') (k - b)).1, b + (Lg.whole i' ((lens (recs l)).drop i') (k - b)).2) ∧ Below w3.heap.size w3 wr) (fun _ _ i _ => l.length - (intOf i).toNat)
          case atStart => exact ⟨0, 0, by omega, by omega, rfl, rfl, rfl, by simp, Below.refl _ _⟩
          case round =>
            obtain ⟨b, i, hi, hbk, rfl, rfl, rfl, hwh, hbel⟩ := hrel
            have HH := Lib.hid hwh
            clear hwh
            by_cases hlt : i < l.length
            · obtain ⟨g, o, c', he, -, hg, hcell⟩ := H12.out.texts (by omega)
              obtain ⟨rfl, rfl⟩ : A1 = some ⟨g, o, none⟩ ∧ c1 = c' := by injection he with h1 h2 h3; exact ⟨h1, h3⟩
              have c0 := (hbel.cell (p := ⟨g, o + i, none⟩) hg).trans (hcell i (by omega))
              have hL := HL.out i hlt
              have hs := recs_le l _ (List.getElem_mem (h := by rw [hrl]; exact hlt))
              generalize (recs l)[i]'(by rw [hrl]; exact hlt) = s at c0 hL hs
              have hLi : i < (lens (recs l)).length := by simp [lens]; omega
              have hLe : (lens (recs l))[i] = sl s := by rw [List.getElem?_eq_getElem hLi] at hL; injection hL
              have hst := Lg.whole_step hLi hbk HH.out
              rw [hLe, Lg.frame_len, sl_len] at hst
              have HS := Lib.hid hst
              clear hL hLe hst hcell he
              go_wp2_with fail
              refine (frame_any i s _ (by omega) hs).mono ?_
              rintro e w4 ⟨rfl, b4⟩
              have hbb := hbel.trans (b4.mono hbel.size)
              have hfz : (mkS (Lg.frame i (sl s))).size = s.size + 8 := by rw [mkS_size, Lg.frame_len, sl_len]
              generalize mkS (Lg.frame i (sl s)) = f at hfz
              by_cases hfit : b + (s.size + 8) ≤ k
              · have hst := HS.out.2 hfit
                have HS' := Lib.hid hst
                have d1 : decide ((k : Int) < (b : Int) + ((s.size : Int) + 8)) = false := by rw [decide_eq_false_iff_not]; omega
                clear hst HS
                go_wp2_with fail
                go_roundw
                case rel => exact ⟨b + (s.size + 8), i + 1, by omega, hfit, by go_num, by go_num, by go_num, HS'.out, hbb⟩
                case measure => simp [intOf]; omega
              · have hst := HS.out.1 (by omega)
                have hst2 : i = W ∧ b = B := by rw [HWB.out] at hst; simpa using hst.symm
                have d1 : decide ((k : Int) < (b : Int) + ((s.size : Int) + 8)) = true := by rw [decide_eq_true_eq]; omega
                clear hst HS
                obtain ⟨rfl, rfl⟩ := hst2
                go_wp2_with fail
                refine (eqStr_any _ _ ((recs l).take i) ((recs l).take i) _ (H2.out.below hbb) ((H12.out.below hbb).take_ i (by omega)) (by simp; omega) (by simp; omega)).mono ?_
                rintro e w' ⟨rfl, rfl⟩
                rw [same_refl]
                go_wp2_with fail
                go_ret
                exact ⟨rfl, belT bb hbb⟩
            · have hst := Lg.whole_end (by simp [lens]; omega) HH.out
              have hst2 : i = W ∧ b = B := by rw [HWB.out] at hst; simpa using hst.symm
              clear hst
              obtain ⟨rfl, rfl⟩ := hst2
              go_wp2_with fail
              refine (eqStr_any _ _ ((recs l).take i) ((recs l).take i) _ (H2.out.below hbel) ((H12.out.below hbel).take_ i (by omega)) (by simp; omega) (by simp; omega)).mono ?_
              rintro e w' ⟨rfl, rfl⟩
              rw [same_refl]
              go_wp2_with fail
              go_ret
              exact ⟨rfl, belT bb hbel⟩
        · have hL : Hid ((sl j).set k (p ^^^ a) = Lg.spoil (sl j) k a (0 : UInt8)) := by
            show _ = _; rw [← hp]; exact Lg.spoil_last (sl j) k a (0 : UInt8) hkl (by rw [sl_len]; omega)
          rw [hL.out] at hb1
          have hrs := run_string_buf (dst := 9) Try.underlying37 Try.underlying5 Try.underlying9 hb1 cp
          rw [Lg.spoil_len, sl_len] at hrs
          have dk : decide ((k : Int) + 1 < (j.size : Int)) = false := by rw [decide_eq_false_iff_not]; omega
          clear hb1 hbuf hp hkl
          simp only [bv, UInt8.toNat_xor, UInt8.xor_zero] at c0 hrs
          go_wp2_with fail
          have b2' : Below w1.heap.size w1 (w2.setCell ⟨w1.heap.size, k, none⟩ (.int .u8 (((p.toNat ^^^ a.toNat : Nat) : Int)))) := b2.setCell (p := ⟨w1.heap.size, k, none⟩) (Nat.le_refl _) _
          obtain ⟨S, hS, hSz, HSL⟩ : ∃ S : ByteArray, mkS (Lg.spoil (sl j) k a (0 : UInt8)) = S ∧ S.size ≤ 1073741824 ∧ Hid (sl S = Lg.spoil (sl j) k a (0 : UInt8)) := ⟨_, rfl, by rw [mkS_size, Lg.spoil_len, sl_len]; omega, sl_mkS _⟩
          rw [hS]
          clear hS
          have HT : Hid (Lg.recAll 0 (sl S) = ((lens (recs l)).take (Lg.whole 0 (lens (recs l)) k).1, (Lg.whole 0 (lens (recs l)) k).2)) := by
            show _ = _
            rw [HSL.out, HJ.out]
            exact Lg.recAll_spoilt a (0 : UInt8) ha _ 0 k (lens_recs_le l) (by have := HJ.out; rw [← sl_len, this] at hkz; exact hkz)
          have hwl := Lg.whole_le (lens (recs l)) 0 k
          have hll : (lens (recs l)).length = l.length := by simp [lens, recs]
          have hLle := Lib.hid (lens_recs_le l)
          obtain ⟨W, B, hWB⟩ : ∃ W B, Lg.whole 0 (lens (recs l)) k = (W, B) := ⟨_, _, rfl⟩
          rw [hWB] at HT hwl
          refine (recover_any S _ (by omega)).mono ?_
          rintro e w3 ⟨hr, b3⟩
          rw [HT.out] at hr
          obtain ⟨v2, rfl, o2⟩ := hr
          simp only [List.map_take, lens_mkS] at o2
          have hW := hwl.1
          have hB := hwl.2.1
          rw [hll] at hW
          clear hwl hll
          have H2 := Lib.hid (SlR.of_owns o2)
          have H12 := Lib.hid ((H1.out.below b2').below b3)
          have bb := belT (belT b1 b2') b3
          have HWB := Lib.hid hWB
          have HL : Hid (∀ i (hi : i < l.length), (lens (recs l))[i]? = some (sl ((recs l)[i]'(by rw [hrl]; exact hi)))) := by
            intro i hi
            simp [lens, recs, List.getElem?_eq_getElem hi]
          clear o2 hWB b1 b2' b3
          go_wp2_with fail
          go_loopw [15, 16, 77] (fun t n i wr => ∃ b i' : Nat, i' ≤ l.length ∧ b ≤ k ∧ t = .int .i64 b ∧ n = .int .i64 i' ∧ i = .int .i64 i' ∧ Lg.whole 0 (lens (recs l)) k = (i' + (Lg.whole i' ((lens (recs l)).drop i') (k - b)).1, b + (Lg.whole i' ((lens (recs l)).drop i') (k - b)).2) ∧ Below w3.heap.size w3 wr) (fun _ _ i _ => l.length - (intOf i).toNat)
          case atStart => exact ⟨0, 0, by omega, by omega, rfl, rfl, rfl, by simp, Below.refl _ _⟩
          case round =>
            obtain ⟨b, i, hi, hbk, rfl, rfl, rfl, hwh, hbel⟩ := hrel
            have HH := Lib.hid hwh
            clear hwh
            by_cases hlt : i < l.length
            · obtain ⟨g, o, c', he, -, hg, hcell⟩ := H12.out.texts (by omega)
              obtain ⟨rfl, rfl⟩ : A1 = some ⟨g, o, none⟩ ∧ c1 = c' := by injection he with h1 h2 h3; exact ⟨h1, h3⟩
              have c0 := (hbel.cell (p := ⟨g, o + i, none⟩) hg).trans (hcell i (by omega))
              have hL := HL.out i hlt
              have hs := recs_le l _ (List.getElem_mem (h := by rw [hrl]; exact hlt))
              generalize (recs l)[i]'(by rw [hrl]; exact hlt) = s at c0 hL hs
              have hLi : i < (lens (recs l)).length := by simp [lens]; omega
              have hLe : (lens (recs l))[i] = sl s := by rw [List.getElem?_eq_getElem hLi] at hL; injection hL
              have hst := Lg.whole_step hLi hbk HH.out
              rw [hLe, Lg.frame_len, sl_len] at hst
              have HS := Lib.hid hst
              clear hL hLe hst hcell he
              go_wp2_with fail
              refine (frame_any i s _ (by omega) hs).mono ?_
              rintro e w4 ⟨rfl, b4⟩
              have hbb := hbel.trans (b4.mono hbel.size)
              have hfz : (mkS (Lg.frame i (sl s))).size = s.size + 8 := by rw [mkS_size, Lg.frame_len, sl_len]
              generalize mkS (Lg.frame i (sl s)) = f at hfz
              by_cases hfit : b + (s.size + 8) ≤ k
              · have hst := HS.out.2 hfit
                have HS' := Lib.hid hst
                have d1 : decide ((k : Int) < (b : Int) + ((s.size : Int) + 8)) = false := by rw [decide_eq_false_iff_not]; omega
                clear hst HS
                go_wp2_with fail
                go_roundw
                case rel => exact ⟨b + (s.size + 8), i + 1, by omega, hfit, by go_num, by go_num, by go_num, HS'.out, hbb⟩
                case measure => simp [intOf]; omega
              · have hst := HS.out.1 (by omega)
                have hst2 : i = W ∧ b = B := by rw [HWB.out] at hst; simpa using hst.symm
                have d1 : decide ((k : Int) < (b : Int) + ((s.size : Int) + 8)) = true := by rw [decide_eq_true_eq]; omega
                clear hst HS
                obtain ⟨rfl, rfl⟩ := hst2
                go_wp2_with fail
                refine (eqStr_any _ _ ((recs l).take i) ((recs l).take i) _ (H2.out.below hbb) ((H12.out.below hbb).take_ i (by omega)) (by simp; omega) (by simp; omega)).mono ?_
                rintro e w' ⟨rfl, rfl⟩
                rw [same_refl]
                go_wp2_with fail
                go_ret
                exact ⟨rfl, belT bb hbb⟩
            · have hst := Lg.whole_end (by simp [lens]; omega) HH.out
              have hst2 : i = W ∧ b = B := by rw [HWB.out] at hst; simpa using hst.symm
              clear hst
              obtain ⟨rfl, rfl⟩ := hst2
              go_wp2_with fail
              refine (eqStr_any _ _ ((recs l).take i) ((recs l).take i) _ (H2.out.below hbel) ((H12.out.below hbel).take_ i (by omega)) (by simp; omega) (by simp; omega)).mono ?_
              rintro e w' ⟨rfl, rfl⟩
              rw [same_refl]
              go_wp2_with fail
              go_ret
              exact ⟨rfl, belT bb hbel⟩
theorem logSpoilt_walk (v : Value) (l : List ByteArray) (at_ x y : Int) (w : World) (h : SlR w es v l) (hs : (l.map (fun s => s.size + 1)).sum ≤ 1048576) (hat : (Lit.int .i64 at_).wf = true) (hx : (Lit.int .u8 x).wf = true) (hy : (Lit.int .u8 y).wf = true) :
    Calls Try.prog 6 #[v, .int .i64 at_, .int .u8 x, .int .u8 y] w fun e w' => e = .returned (.bool true) ∧ Below w.heap.size w w' := by
  have byte : ∀ z : Int, (Lit.int .u8 z).wf = true → ∃ c : UInt8, z = (c.toNat : Int) := by
    intro z hz
    simp only [Lit.wf, Bool.and_eq_true, decide_eq_true_eq] at hz
    have h1 : 0 ≤ z := hz.1
    have h2 : z ≤ 255 := hz.2
    exact ⟨UInt8.ofNat z.toNat, by simp; omega⟩
  obtain ⟨a, rfl⟩ := byte x hx
  obtain ⟨b, rfl⟩ := byte y hy
  exact logSpoilt_core v l at_ a b w h (Nat.le_trans (sum_len _ (fun _ => by omega) l) hs) (wide_of hat)
end Go.Proofs.Ytefbfkbmkajknaa
