/- What the journal's Recover computes. -/
import Derived.Test.YtemknajlmocfeaaY6
import Derived.Deep.QuietTactic
import Derived.BigQuiet
import Derived.IntWalk
namespace Go.Proofs.Ytemknajlmocfeaa
open Go.RowKit
/-- A text's bytes from 'k' on, cut off after 'm'. -/
theorem recover_len2 (r : ByteArray) (h : 4 ≤ r.size) : Lg.len2 (sl r) = (r[0]'(by omega)).toNat * 256 + (r[1]'(by omega)).toNat := by
  have h0 := sl_getElem? r 0 (by omega)
  have h1 := sl_getElem? r 1 (by omega)
  match hl : sl r, h0, h1 with
  | a :: b :: t, h0, h1 =>
    simp at h0 h1
    simp [Lg.len2, h0, h1]
theorem len2_lt (l : List UInt8) : Lg.len2 l < 65536 := by
  unfold Lg.len2
  split
  · rename_i a b _; have := Lg.byte_lt a; have := Lg.byte_lt b; omega
  · omega
theorem i64_or_nat' (a b : Nat) (ha : a < 4294967296) (hb : b < 4294967296) : bits .or .i64 (a : Int) (b : Int) = ((a ||| b : Nat) : Int) := by
  have hx : a ||| b < 2 ^ 32 := Nat.or_lt_two_pow (by omega) (by omega)
  show IntKind.i64.wrap ((BitVec.ofInt 64 (a : Int) ||| BitVec.ofInt 64 (b : Int)).toNat : Int) = _
  rw [BitVec.toNat_or, BitVec.ofInt_natCast, BitVec.toNat_ofNat, BitVec.ofInt_natCast, BitVec.toNat_ofNat, Nat.mod_eq_of_lt (a := a) (by omega), Nat.mod_eq_of_lt (a := b) (by omega), IntWalk.i64_in _ (by omega)]
theorem or_head (a b : UInt8) : bits BinOp.or IntKind.i64 (wrap64 (wrap64 (a.toNat : Int) * 256)) (wrap64 (b.toNat : Int)) = ((a.toNat * 256 + b.toNat : Nat) : Int) := by
  have ha := Lg.byte_lt a
  have hb := Lg.byte_lt b
  have e1 : wrap64 (wrap64 (a.toNat : Int) * 256) = ((a.toNat * 256 : Nat) : Int) := by simp only [wrap64]; omega
  have e2 : wrap64 (b.toNat : Int) = ((b.toNat : Nat) : Int) := by simp only [wrap64]; omega
  rw [e1, e2, i64_or_nat' _ _ (by omega) (by omega), nat_join 8 _ _ (by omega) (by omega)]
def recN (p : List (List UInt8) × Nat) (base : Nat) (e : Ending) (w' : World) : Prop :=
  ∃ v, e = .returned (.tuple #[v, .int .i64 p.2]) ∧ Owns w' base 9 1 es v (p.1.map mkS)
theorem stringInfo' : ElemInfo Try.prog 9 (.string ByteArray.empty) 1 16 := by unfold ElemInfo; kernel_rfl
set_option maxRecDepth 100000 in
set_option maxHeartbeats 1600000 in
theorem recover_any (s : ByteArray) (w : World) (hs : s.size ≤ 2147483648) :
    Calls Try.prog 77 #[.string s] w fun e w' => recN (Lg.recAll 0 (sl s)) w.heap.size e w' ∧ Below w.heap.size w w' := by
  go_enter Try.func77, Try.ntmps77
  go_wp2_with fail
  go_loopw [4, 5] (fun v a wr => ∃ (out : List (List UInt8)) (at_ : Nat), at_ ≤ s.size ∧ out.length ≤ at_ ∧ a = .int .i64 at_ ∧ Owns wr w.heap.size 9 1 es v (out.map mkS) ∧ Lg.recAll 0 (sl s) = (out ++ (Lg.recAll out.length ((sl s).drop at_)).1, at_ + (Lg.recAll out.length ((sl s).drop at_)).2) ∧ Below w.heap.size w wr) (fun _ a _ => s.size - (intOf a).toNat)
  case atStart => exact ⟨[], 0, by omega, by simp, rfl, Owns.nil .., by simp, Below.refl _ _⟩
  case round =>
    obtain ⟨out, k, hk, ho, rfl, hown, hrec, hbel⟩ := hrel
    have HR := Lib.hid hrec
    clear hrec
    obtain ⟨r, hr, hrz⟩ : ∃ r, s.extract k s.size = r ∧ r.size = s.size - k := ⟨_, rfl, by rw [ext_size _ _ _ (Nat.le_refl _)]⟩
    have HX : Hid (sl r = (sl s).drop k) := by show _ = _; rw [← hr, sl_extract_end]
    have HZ := Lib.hid hrz
    have hrs : r.size ≤ 2147483648 := by omega
    clear hrz
    by_cases h4 : r.size < 4
    · have HF : Hid (Lg.recAll 0 (sl s) = (out, k)) := by
        show _ = _
        rw [HR.out, ← HX.out, Lg.recAll_none (Lg.rec1_short _ _ (by rw [sl_len]; exact h4))]
        simp
      go_wp2_with fail
      go_ret2
      exact ⟨by unfold recN; rw [HF.out]; exact ⟨_, rfl, hown⟩, hbel⟩
    · have d4 : decide ((r.size : Int) < 4) = false := by simp; omega
      have g0 : 0 < r.size := by omega
      have g1 : 1 < r.size := by omega
      have gi0 : (0 : Int) < (r.size : Int) := by omega
      have gi1 : (1 : Int) < (r.size : Int) := by omega
      have hlen := recover_len2 r (by omega)
      have hlt := len2_lt (sl r)
      have hor : bits BinOp.or IntKind.i64 (wrap64 (wrap64 (r[0].toNat : Int) * 256)) (wrap64 (r[1].toNat : Int)) = ((Lg.len2 (sl r) : Nat) : Int) := by rw [hlen]; exact or_head _ _
      generalize hm : Lg.len2 (sl r) = m at hlen hlt hor
      have HM := Lib.hid hm
      clear hm hlen
      obtain ⟨A, cap, hv⟩ : ∃ A cap, u4 = .slice A out.length cap := by
        rcases hown.form with ⟨h1, h2⟩ | ⟨g, c, h1⟩
        · have : out = [] := by simpa using h2
          subst this
          exact ⟨_, _, h1⟩
        · exact ⟨_, _, by rw [h1, List.length_map]⟩
      subst hv
      by_cases h8 : (r.size : Int) < 8 + m
      · have d8 : decide ((r.size : Int) < 4 + (m : Int) + 4) = true := by simp; omega
        have HF : Hid (Lg.recAll 0 (sl s) = (out, k)) := by
          show _ = _
          rw [HR.out, ← HX.out, Lg.recAll_none]
          · simp
          · unfold Lg.rec1; rw [HM.out, sl_len, if_neg h4, if_pos (by omega)]
        clear h4 h8
        go_wp2_with fail
        go_quiet (fail)
        go_wp2_with fail
        go_ret2
        exact ⟨by unfold recN; rw [HF.out]; exact ⟨_, rfl, hown⟩, _root_.Go.below_drewN hbel _⟩
      · have d8 : decide ((r.size : Int) < 4 + (m : Int) + 4) = false := by simp; omega
        have i1 : (4 : Int) + (m : Int) ≤ (r.size : Int) := by omega
        have i2 : (4 : Int) ≤ 4 + (m : Int) := by omega
        clear h4
        go_wp2_with fail
        go_quiet (fail)
        go_wp2_with fail
        have hbz : (r.extract 4 (4 + m)).size = m := by rw [ext_size _ _ _ (by omega)]; omega
        have hsb : sl (r.extract 4 (4 + m)) = ((sl r).drop 4).take m := by rw [sl_extract, Nat.add_sub_cancel_left]
        generalize hb : r.extract 4 (4 + m) = b at hbz hsb
        have HB := Lib.hid hb
        have HBZ := Lib.hid hbz
        have HSB := Lib.hid hsb
        have hb1 : b.size ≤ 65536 := by omega
        have hon : out.length ≤ 2147483648 := by omega
        clear hb hbz hsb
        have bel1 := _root_.Go.below_drewN hbel nq
        by_cases hm1 : 1000 < b.size
        · have HF : Hid (Lg.recAll 0 (sl s) = (out, k)) := by
            show _ = _
            rw [HR.out, ← HX.out, Lg.recAll_none]
            · simp
            · unfold Lg.rec1; rw [HM.out, sl_len, if_neg (by omega), if_neg (by omega), if_neg (by have := HBZ.out; omega)]
          refine (frame_large out.length b _ hon hm1 (by omega)).mono ?_
          rintro e w' ⟨rfl, rfl⟩
          go_wp2_with fail
          go_ret2
          exact ⟨by unfold recN; rw [HF.out]; exact ⟨_, rfl, hown⟩, bel1⟩
        · refine (frame_any out.length b _ hon (by omega)).mono ?_
          rintro e w1 ⟨rfl, bel2⟩
          have hfz : (mkS (Lg.frame out.length (sl b))).size = b.size + 8 := by rw [mkS_size, Lg.frame_len, sl_len]
          have hfe : sl (mkS (Lg.frame out.length (sl b))) = Lg.frame out.length (sl b) := sl_mkS _
          generalize mkS (Lg.frame out.length (sl b)) = f at hfz hfe
          have HFZ := Lib.hid hfz
          have HFE := Lib.hid hfe
          have i3 : (f.size : Int) ≤ (r.size : Int) := by have := HBZ.out; omega
          have i4 : f.size ≤ 2000 := by omega
          clear hfz hfe
          have bel3 := bel1.trans (bel2.mono bel1.size)
          have hown' := Lib.hid ((show Owns (wr.drewN nq) _ _ _ _ _ _ from hown).below bel2)
          by_cases he : sl f = sl (r.extract 0 f.size)
          · have d9 : (!(f.toList == (r.extract 0 f.size).toList)) = false := by rw [ba_toList, ba_toList, he]; simp
            have H1 : Lg.rec1 out.length ((sl s).drop k) = some (sl b) := by
              rw [← HX.out]
              unfold Lg.rec1; rw [HM.out, sl_len, if_neg (by omega), if_neg (by omega), if_pos, HSB.out]
              refine ⟨by have := HBZ.out; omega, ?_⟩
              rw [← HSB.out, ← HFE.out, he, sl_extract, HFZ.out, HBZ.out]; simp [Nat.add_comm]
            have HF : Hid (Lg.recAll 0 (sl s) = ((out ++ [sl b]) ++ (Lg.recAll (out ++ [sl b]).length ((sl s).drop (k + f.size))).1, k + f.size + (Lg.recAll (out ++ [sl b]).length ((sl s).drop (k + f.size))).2)) := by
              show _ = _
              rw [HR.out, Lg.recAll_some H1, List.drop_drop, show 8 + (sl b).length = f.size from by rw [sl_len, HFZ.out]; omega]
              simp [Nat.add_assoc]
            have i5 : k + f.size ≤ s.size := by have := HZ.out; omega
            have i6 : 8 ≤ f.size := by have := HFZ.out; omega
            clear he H1
            have hbe := HB.out
            go_wp2_with (at_builtin; go_must (refine wpList_append_owns rfl (.tmp 56) (.tmp 61) _ rfl w.heap.size 9 (.string ByteArray.empty) 1 16 es Try.underlying42 stringInfo' rfl (by decide) _ _ rfl (hown'.out.alloc _) ⟨w1.heap.size, 0, none⟩ 1 1 [b] rfl rfl rfl (new_cells _ [.string b] _) (es_one [b]) (by simp [maxLen]; omega) (by simp; omega) (bel_size bel3 (Nat.le_refl _) _) ?_); intro v2 w2 hown2 hg2)
            go_roundw
            case rel => exact ⟨out ++ [sl b], k + f.size, i5, by simp; omega, by go_num, by rw [List.map_append, List.map_singleton, mkS_sl]; exact hown2, HF.out, bel_append bel3 (Nat.le_refl _) hown'.out hg2⟩
            case measure => simp [intOf]; omega
          · have d9 : (!(f.toList == (r.extract 0 f.size).toList)) = true := by rw [ba_toList, ba_toList]; simpa using he
            have HF : Hid (Lg.recAll 0 (sl s) = (out, k)) := by
              show _ = _
              rw [HR.out, ← HX.out, Lg.recAll_none]
              · simp
              · unfold Lg.rec1; rw [HM.out, sl_len, if_neg (by omega), if_neg (by omega), if_neg]
                rintro ⟨-, h⟩
                rw [← HSB.out, ← HFE.out] at h
                apply he
                rw [h, sl_extract, HFZ.out, HBZ.out]; simp [Nat.add_comm]
            go_wp2_with fail
            go_ret2
            exact ⟨by unfold recN; rw [HF.out]; exact ⟨_, rfl, hown'.out⟩, bel3⟩
end Go.Proofs.Ytemknajlmocfeaa
namespace Go.Proofs.Ytemknajlmocfeaa
set_option maxRecDepth 20000
open Go.RowKit Go.Shelf
namespace Bk
def vF (f : Vals) (k : ByteArray) : Option Value := (f k).map .string
theorem vF_put (f : Vals) (k v x : ByteArray) : fput (vF f) k (.string v) x = vF (vput f k v) x := by
  unfold fput vF vput
  split <;> rfl
theorem vF_del (f : Vals) (k x : ByteArray) : fdel (vF f) k x = vF (vdel f k) x := by
  unfold fdel vF vdel
  split <;> rfl
theorem vF_some (f : Vals) (k : ByteArray) : (vF f k).isSome = (f k).isSome := by unfold vF; cases f k <;> rfl
/-- A book: its blocks (g: its buffer's), its records, its values. -/
structure BkT (w : World) (n0 p mb : Nat) (g : Option Nat) (rs : List Rec) (s : St) : Prop where
  blk : ∃ a v, Blk w p 130 #[.map (some mb), .int .i64 (rs.length : Int), a, v] ∧ atHome p a ∧ w.ownsRowF n0 5 1 v (imgL rs).length (Lib.byteCells (imgL rs)) ∧ v.ownBlock = g ∧ (imgL rs = [] → v = .slice none 0 0)
  mp : MapS Try.prog w 9 mb (vF s.1) s.2
  b0 : n0 ≤ p ∧ n0 ≤ mb
def foot (p mb : Nat) (g : Option Nat) : List Nat := p :: mb :: g.toList
section
variable {w w' : World} {n0 p mb : Nat} {g : Option Nat} {rs : List Rec} {s : St} {S : List Nat}
theorem BkT.gs (h : BkT w n0 p mb g rs s) (hg : GS w w' S) (hf : ∀ j ∈ foot p mb g, j ∉ S) : BkT w' n0 p mb g rs s := by
  obtain ⟨a, v, hb, ha, ho, hv, hn⟩ := h.blk
  refine ⟨⟨a, v, Blk.gs hb hg (hf p (by simp [foot])), ha, rowF_gs ho hg (fun j hj => hf j (by simp [foot, ← hv, hj])), hv, hn⟩, MapS.gs h.mp hg (hf mb (by simp [foot])), h.b0⟩
theorem BkT.below (h : BkT w n0 p mb g rs s) (hb : Below w.heap.size w w') : BkT w' n0 p mb g rs s := h.gs (GS.of_below hb []) (by simp)
theorem BkT.alloc (h : BkT w n0 p mb g rs s) (o : Obj) : BkT (w.alloc o) n0 p mb g rs s := h.below ((Below.refl _ w).alloc (Nat.le_refl _) _)
theorem BkT.drew (h : BkT w n0 p mb g rs s) : BkT w.drew n0 p mb g rs s := h.gs (GS.drew (GS.refl _ [])) (by simp)
theorem BkT.gle (h : BkT w n0 p mb g rs s) : ∀ j ∈ foot p mb g, n0 ≤ j ∧ j < w.heap.size := by
  obtain ⟨a, v, hb, ha, ho, hv, hn⟩ := h.blk
  intro j hj
  simp only [foot, List.mem_cons, Option.mem_toList] at hj
  rcases hj with rfl | rfl | hj
  · exact ⟨h.b0.1, hb.lt⟩
  · exact ⟨h.b0.2, h.mp.lt⟩
  · exact ho.lt j (by rw [hv]; exact hj)
theorem BkT.n0w (h : BkT w n0 p mb g rs s) : n0 ≤ w.heap.size := by
  have := h.gle p (by simp [foot]); omega
theorem BkT.apart (h : BkT w n0 p mb g rs s) : p ≠ mb ∧ g ≠ some p ∧ g ≠ some mb := by
  obtain ⟨a, v, hb, ha, ho, hv, hn⟩ := h.blk
  refine ⟨fun e => h.mp.ne_blk hb e.symm, by rw [← hv]; exact rowF_ne ho hb, fun e => ?_⟩
  rcases ho.2 with ⟨rfl, _⟩ | ⟨g', cap, cur, fz, rfl, _, hh, _⟩
  · rw [← hv] at e; cases e
  · have : g' = mb := by rw [← hv] at e; simpa [Value.ownBlock] using e
    subst this
    obtain ⟨es, ck, hm⟩ := h.mp.isMapObj
    rw [hm] at hh
    cases hh
end
structure BkS (w : World) (n0 p mb : Nat) (g : Option Nat) (rs : List Rec) (s : St) : Prop where
  t : BkT w n0 p mb g rs s
  pl : play rs = some s
theorem newB_any (w : World) :
    Calls Try.prog 69 #[] w fun e w' => ∃ p mb, e = .returned (ptr p) ∧ BkS w' w.heap.size p mb none [] s0 ∧ Below w.heap.size w w' := by
  have hmm := @run_makeMap Try.prog
  have hm0 := (MapS.made w Try.prog 9).alloc (.cells #[.map (some w.heap.size), .int .i64 0, .pointer none, .slice none 0 0] 130)
  have hN : Blk ((w.alloc (.map #[] 0)).alloc (.cells #[.map (some w.heap.size), .int .i64 0, .pointer none, .slice none 0 0] 130)) (w.heap.size + 1) 130 #[.map (some w.heap.size), .int .i64 0, .pointer none, .slice none 0 0] := by
    have := Blk.new (w.alloc (.map #[] 0)) 130 #[.map (some w.heap.size), .int .i64 0, .pointer none, .slice none 0 0]
    rwa [World.size_alloc] at this
  have hA : Below w.heap.size w ((w.alloc (.map #[] 0)).alloc (.cells #[.map (some w.heap.size), .int .i64 0, .pointer none, .slice none 0 0] 130)) := ((Below.refl _ w).alloc (Nat.le_refl _) _).alloc (by simp) _
  go_enter Try.func69, Try.ntmps69
  go_wp2_with fail
  go_ret
  exact ⟨w.heap.size + 1, w.heap.size, by simp, ⟨⟨⟨_, _, hN, .inl rfl, World.ownsRowF_nil _ _ _ _, rfl, fun _ => rfl⟩, hm0, by omega, Nat.le_refl _⟩, rfl⟩, hA⟩
theorem record_any (kd : Nat) (k v : ByteArray) (w : World) (hkd : kd < 256) (hk : k.size ≤ 50) (hv : v.size ≤ 900) :
    Calls Try.prog 76 #[.int .i64 (kd : Int), .string k, .string v] w fun e w' => e = .returned (.string (mkS (Lg.nb kd :: Lg.nb k.size :: (sl k ++ sl v)))) ∧ Below w.heap.size w w' := by
  have w8 : ∀ n : Nat, n < 256 → IntKind.u8.wrap (n : Int) = (n : Int) := fun n h => by rw [IntKind.wrap_u8]; omega
  have hkz := w8 k.size (by omega)
  have hkd' := w8 kd hkd
  have e1 : Value.int .u8 (kd : Int) = bv (Lg.nb kd) := nbv kd kd (by omega)
  have e2 : Value.int .u8 (k.size : Int) = bv (Lg.nb k.size) := nbv k.size k.size (by omega)
  have h : Owns (w.alloc (.cells #[bv (Lg.nb kd), bv (Lg.nb k.size)] 5)) w.heap.size 5 1 eb (.slice (some ⟨w.heap.size, 0, none⟩) 2 2) [Lg.nb kd, Lg.nb k.size] :=
    Owns.lit (size := 1) (enc := eb) w w.heap.size #[bv (Lg.nb kd), bv (Lg.nb k.size)] [Lg.nb kd, Lg.nb k.size] (Nat.le_refl _) (by simp [maxLen]) (by rfl) (by rfl)
  unfold Owns at h
  rw [eb_map] at h
  have hcv := run_string_own (dst := 9) (P := Try.prog) (src := 83) Try.underlying83 Try.underlying5 Try.underlying9 h
  rw [← e1, ← e2] at hcv
  clear h e1 e2 w8
  obtain ⟨T, hT⟩ : ∃ T, T = mkS [Lg.nb kd, Lg.nb k.size] := ⟨_, rfl⟩
  rw [← hT] at hcv
  have hTz : T.size = 2 := by rw [hT]; rfl
  have HT := Lib.hid hT
  have hz1 : (T ++ k).size ≤ 60 := by rw [ByteArray.size_append]; omega
  have hz0 : T.size ≤ 60 := by omega
  clear hT hTz
  go_enter Try.func76, Try.ntmps76
  go_wp2_with fail
  go_ret
  refine ⟨ret_str ?_, (Below.refl _ w).alloc (Nat.le_refl _) _⟩
  apply sl_inj
  rw [sl_append, sl_append, HT.out, sl_mkS, sl_mkS]
  simp
set_option maxHeartbeats 1000000 in
theorem addB_any (n0 p mb : Nat) (g : Option Nat) (rs : List Rec) (s : St) (r : Rec) (w : World) (h : BkT w n0 p mb g rs s) (hrs : rs.length ≤ 2097152) (hall : ∀ q ∈ rs, (enc q).length ≤ 1000) (hr : (enc r).length ≤ 1000) :
    Calls Try.prog 75 #[ptr p, .string (mkS (enc r))] w fun e w' => e = .returned (.tuple #[]) ∧ ∃ g', BkT w' n0 p mb g' (rs ++ [r]) s ∧ GS w w' (foot p mb g) ∧ GN w g g' := by
  obtain ⟨a, v, hb, ha, ho, hv, hn⟩ := h.blk
  have p1 := hb.cell 1
  have H := Lib.hid h
  have HB := Lib.hid hb
  have HO := Lib.hid ho
  have hil := imgL_len hall
  have hn0 := h.n0w
  clear hb ho h
  go_enter Try.func75, Try.ntmps75
  go_wp2_with fail
  refine (frame_any rs.length (mkS (enc r)) _ (by omega) (by rw [mkS_size]; exact hr)).mono ?_
  rintro e w1 ⟨rfl, b1⟩
  rw [sl_mkS]
  have hb1 := HB.out.below b1 HB.out.lt
  have hs1 := b1.size
  have ho1 := rowF_gs HO.out (GS.of_below b1 []) (by simp)
  have HM1 := Lib.hid (H.out.mp.below b1)
  have HG1 := Lib.hid (GS.of_below b1 (foot p mb g))
  clear b1
  go_wp2_with fail
  refine (writeK_any n0 p _ _ a v (imgL rs) (mkS (Lg.frame rs.length (enc r))) _ hb1 ha ho1 (by omega) (by rw [mkS_size, Lg.frame_len]; omega)).mono ?_
  rintro e w2 ⟨rfl, v', hb2, ho2, g2, gn2, hnil2⟩
  rw [sl_mkS, ← imgL_snoc] at ho2 hnil2
  have hap := H.out.apart
  have hf2 : ∀ j ∈ p :: v.ownBlock.toList, j ∈ foot p mb g := by
    intro j hj
    rw [hv] at hj
    simp only [foot, List.mem_cons] at hj ⊢
    exact hj.elim .inl (fun h => .inr (.inr h))
  have HM2 := Lib.hid (MapS.gs HM1.out g2 (by
    intro hm
    rw [hv] at hm
    simp only [List.mem_cons, Option.mem_toList] at hm
    rcases hm with e | e
    · exact hap.1 e.symm
    · exact hap.2.2 e))
  have HG2 := Lib.hid (HG1.out.trans (g2.mono hf2) (fun j hj => .inl hj))
  have HGN : Hid (GN w g v'.ownBlock) := by rw [hv] at gn2; exact fun j hj => (gn2 j hj).imp id (fun h => Nat.le_trans hs1 h)
  have q1 := hb2.cell 1
  have f1 := hb2.frozen 1
  have HB2 := Lib.hid hb2
  have HO2 := Lib.hid ho2
  have hrl : IntKind.i64.wrap ((rs.length : Int) + 1) = (rs.length : Int) + 1 := by rw [IntKind.wrap_i64]; omega
  clear g2 gn2 hb2 ho2 hb1 ho1 HB HO p1
  go_wp2_with fail
  go_end0
  have g3 := GS.cell_ w2 ⟨p, 1, none⟩ (.int .i64 ((rs.length : Int) + 1)) (S := [p]) (by simp)
  refine ⟨rfl, v'.ownBlock, ⟨⟨_, v', ?_, .inr rfl, rowF_gs HO2.out g3 (fun j hj hm => rowF_ne HO2.out HB2.out (by rw [hj, List.mem_singleton.1 hm])), rfl, fun hi => ?_⟩, MapS.gs HM2.out g3 (by simp; exact fun e => hap.1 e.symm), H.out.b0⟩, HG2.out.trans g3 (fun j hj => .inl (by simp [foot, List.mem_singleton.1 hj])), HGN.out⟩
  · have := HB2.out.set_ 1 (.int .i64 ((rs.length : Int) + 1))
    have e : ((rs ++ [r]).length : Int) = (rs.length : Int) + 1 := by simp
    rw [e]
    exact this
  · exfalso
    rw [imgL_snoc] at hi
    have := congrArg List.length hi
    rw [List.length_append, Lg.frame_len] at this
    simp at this
end Bk
end Go.Proofs.Ytemknajlmocfeaa
namespace Go.Proofs.Ytemknajlmocfeaa
set_option maxRecDepth 20000
open Go.RowKit Go.Shelf
namespace Bk
section
variable {w w' : World} {n0 p mb : Nat} {g : Option Nat} {rs : List Rec} {s : St} {k v : ByteArray}
theorem BkT.upd (h : BkT w n0 p mb g rs s) (hm : MapS Try.prog w' 9 mb (fput (vF s.1) k (.string v)) (if (vF s.1 k).isSome then s.2 else s.2 + 1)) (hg : w.grownBy w' (some mb)) : BkT w' n0 p mb g rs (setS s k v) := by
  have hgs : GS w w' [mb] := GS.of_grown hg (fun j hj => by cases hj; exact .inl (by simp))
  obtain ⟨a, u, hb, ha, ho, hv, hn⟩ := h.blk
  have hap := h.apart
  refine ⟨⟨a, u, Blk.gs hb hgs (by simp; exact hap.1), ha, rowF_gs ho hgs (fun j hj hmm => hap.2.2 (by rw [← hv, hj, List.mem_singleton.1 hmm])), hv, hn⟩, hm.congr (vF_put _ _ _) ?_, h.b0⟩
  rw [vF_some]
  rfl
theorem BkT.rem (h : BkT w n0 p mb g rs s) (hk : (s.1 k).isSome = true) (hm : MapS Try.prog w' 9 mb (fdel (vF s.1) k) (if (vF s.1 k).isSome then s.2 - 1 else s.2)) (hg : w.grownBy w' (some mb)) : BkT w' n0 p mb g rs (delS s k) := by
  have hgs : GS w w' [mb] := GS.of_grown hg (fun j hj => by cases hj; exact .inl (by simp))
  obtain ⟨a, u, hb, ha, ho, hv, hn⟩ := h.blk
  have hap := h.apart
  refine ⟨⟨a, u, Blk.gs hb hgs (by simp; exact hap.1), ha, rowF_gs ho hgs (fun j hj hmm => hap.2.2 (by rw [← hv, hj, List.mem_singleton.1 hmm])), hv, hn⟩, hm.congr (vF_del _ _) ?_, h.b0⟩
  rw [vF_some, hk]
  rfl
theorem isEmpty_yes (r : ByteArray) (h : r.size = 0) : r.toList.isEmpty = true := by rw [empty_of_size r h, ba_toList]; rfl
theorem BkS.all (h : BkS w n0 p mb g rs s) : ∀ q ∈ rs, (enc q).length ≤ 1000 := fun q hq => encs_le h.pl (enc q) (List.mem_map.2 ⟨q, hq, rfl⟩)
theorem BkS.gs {S : List Nat} (h : BkS w n0 p mb g rs s) (hg : GS w w' S) (hf : ∀ j ∈ foot p mb g, j ∉ S) : BkS w' n0 p mb g rs s := ⟨h.t.gs hg hf, h.pl⟩
theorem BkS.below (h : BkS w n0 p mb g rs s) (hb : Below w.heap.size w w') : BkS w' n0 p mb g rs s := ⟨h.t.below hb, h.pl⟩
theorem BkS.alloc (h : BkS w n0 p mb g rs s) (o : Obj) : BkS (w.alloc o) n0 p mb g rs s := ⟨h.t.alloc o, h.pl⟩
/-- Its footprint within the older one's, or new. -/
theorem foot_gn {w w1 w2 : World} {p mb : Nat} {g g1 : Option Nat} {S : List Nat} (h : GS w w1 S) (hf : ∀ j ∈ foot p mb g, j ∈ S) (hn : GN w g g1) (k : GS w1 w2 (foot p mb g1)) : GS w w2 S := by
  refine h.trans k fun j hj => ?_
  simp only [foot, List.mem_cons, Option.mem_toList] at hj
  rcases hj with rfl | rfl | hj
  · exact .inl (hf _ (by simp [foot]))
  · exact .inl (hf _ (by simp [foot]))
  · exact (hn j hj).elim (fun e => .inl (hf _ (by simp [foot, e]))) .inr
end
theorem getB_any (n0 p mb : Nat) (g : Option Nat) (rs : List Rec) (s : St) (k : ByteArray) (w : World) (h : BkS w n0 p mb g rs s) (hk : k.size ≤ maxLen) :
    Calls Try.prog 34 #[ptr p, .string k] w fun e w' => e = .returned (.tuple #[.string ((s.1 k).getD ByteArray.empty), .bool (s.1 k).isSome]) ∧ w = w' := by
  obtain ⟨a, u, hb, _⟩ := h.t.blk
  have p0 := hb.cell 0
  have hlk := h.t.mp.look_ok (t := 112) (e := 9) (k := k) Try.underlying9 Try.underlying112 (z := .string ByteArray.empty) rfl hk
  have e1 : (vF s.1 k).getD (.string ByteArray.empty) = .string ((s.1 k).getD ByteArray.empty) := by unfold vF; cases s.1 k <;> rfl
  rw [e1, vF_some] at hlk
  clear h hb e1
  go_enter Try.func34, Try.ntmps34
  go_wp2_with fail
  go_ret2
  exact ⟨rfl, rfl⟩
/-- What Set and Del leave: the record when it was done. -/
def Did (w : World) (n0 p mb : Nat) (g : Option Nat) (rs : List Rec) (s : St) (r : Rec) (q : Int) (s1 : St) (e : Ending) (w' : World) : Prop :=
  e = .returned (.int .i64 q) ∧ ∃ g', GS w w' (foot p mb g) ∧ GN w g g' ∧ BkS w' n0 p mb g' (if q = 0 then rs ++ [r] else rs) (if q = 0 then s1 else s)
theorem Did.fail {w : World} {n0 p mb : Nat} {g : Option Nat} {rs : List Rec} {s : St} {r : Rec} {q q' : Int} {s1 : St} (h : BkS w n0 p mb g rs s) (hq : q' = q) (hn : q ≠ 0) : Did w n0 p mb g rs s r q' s1 (.returned (.int .i64 q)) w :=
  ⟨by rw [hq], g, GS.refl _ _, GN.refl _ _, by rw [if_neg (by rw [hq]; exact hn), if_neg (by rw [hq]; exact hn)]; exact h⟩
theorem Did.done {w w1 w2 : World} {n0 p mb : Nat} {g g' : Option Nat} {rs : List Rec} {s : St} {r : Rec} {q : Int} {s1 : St} (hq : q = 0) (hp : play rs = some s) (hd : doR s r = some s1) (h1 : GS w w1 (foot p mb g)) (h2 : BkT w2 n0 p mb g' (rs ++ [r]) s1) (h3 : GS w1 w2 (foot p mb g)) (h4 : GN w1 g g') : Did w n0 p mb g rs s r q s1 (.returned (.int .i64 0)) w2 :=
  ⟨by rw [hq], g', h1.same h3, fun j hj => (h4 j hj).imp id (fun h => Nat.le_trans h1.size h), by rw [if_pos hq, if_pos hq]; exact ⟨h2, by rw [play_snoc, hp]; exact hd⟩⟩
set_option maxHeartbeats 2000000 in
theorem setB_any (n0 p mb : Nat) (g : Option Nat) (rs : List Rec) (s : St) (k v : ByteArray) (w : World) (h : BkS w n0 p mb g rs s) (hk : k.size ≤ maxLen) (hrs : rs.length ≤ 2097152) :
    Calls Try.prog 35 #[ptr p, .string k, .string v] w (Did w n0 p mb g rs s (.set k v) (setE s k v) (setS s k v)) := by
  obtain ⟨a, u, hb, _⟩ := h.t.blk
  have p0 := hb.cell 0
  have hlk := h.t.mp.look_ok (t := 112) (e := 9) (k := k) Try.underlying9 Try.underlying112 (z := .string ByteArray.empty) rfl hk
  have hln := h.t.mp.len_ (t := 112) (e := 9) Try.underlying112 3
  have e1 : (vF s.1 k).getD (.string ByteArray.empty) = .string ((s.1 k).getD ByteArray.empty) := by unfold vF; cases s.1 k <;> rfl
  rw [e1, vF_some] at hlk
  have H := Lib.hid h
  have hc100 := (inv_play h.pl).many
  clear h hb e1
  go_enter Try.func35, Try.ntmps35
  by_cases h1 : k.size = 0
  · have he : setE s k v = 1 := by unfold setE; rw [if_pos (.inl h1)]
    have hE := isEmpty_yes k h1
    have HE := Lib.hid he
    clear he h1
    go_wp2_with fail
    go_ret
    exact Did.fail H.out HE.out (by decide)
  · have hE := isEmpty_no k (by omega)
    by_cases h2 : 50 < k.size
    · have he : setE s k v = 1 := by unfold setE; rw [if_pos (.inr h2)]
      have hd : decide ((50 : Int) < (k.size : Int)) = true := by rw [decide_eq_true_iff]; omega
      have HE := Lib.hid he
      clear he h1 h2
      go_wp2_with fail
      go_ret
      exact Did.fail H.out HE.out (by decide)
    · have hd : decide ((50 : Int) < (k.size : Int)) = false := by rw [decide_eq_false_iff_not]; omega
      by_cases h3 : 900 < v.size
      · have he : setE s k v = 2 := by unfold setE; rw [if_neg (by omega), if_pos h3]
        have hd2 : decide ((900 : Int) < (v.size : Int)) = true := by rw [decide_eq_true_iff]; omega
        have HE := Lib.hid he
        clear he h1 h2 h3
        go_wp2_with fail
        go_ret
        exact Did.fail H.out HE.out (by decide)
      · have hd2 : decide ((900 : Int) < (v.size : Int)) = false := by rw [decide_eq_false_iff_not]; omega
        by_cases h4 : s.1 k = none ∧ s.2 = 100
        · have he : setE s k v = 6 := by unfold setE; rw [if_neg (by omega), if_neg h3, if_pos h4]
          have HE := Lib.hid he
          obtain ⟨h5, h6⟩ := h4
          rw [h5] at hlk
          rw [h6] at hln
          clear he h1 h2 h3 h5 h6
          go_wp2_with fail
          go_ret
          exact Did.fail H.out HE.out (by decide)
        · have he : setE s k v = 0 := by unfold setE; rw [if_neg (by omega), if_neg h3, if_neg h4]
          have HE := Lib.hid he
          have hkz : k.size ≤ 50 := by omega
          have hvz : v.size ≤ 900 := by omega
          have hfull : (s.1 k).isSome = false → ((s.2 : Int) == 100) = false := fun hq => by
            rw [beq_eq_false_iff_ne]
            intro e
            exact h4 ⟨by cases hq2 : s.1 k <;> simp_all, by omega⟩
          have hmx : s.2 < maxLen := by simp only [maxLen]; omega
          clear he h1 h2 h3 h4
          cases hq : (s.1 k).isSome
          · have hf := hfull hq
            rw [hq] at hlk
            clear hfull
            go_wp2_with (refine wpList_upd rfl (.tmp 44) (.tmp 45) (.tmp 46) rfl rfl H.out.t.mp Try.underlying9 Try.underlying112 k (.string v) rfl rfl hk hmx ?_; intro w2 hm2 hg2)
            have HT := Lib.hid (H.out.t.upd hm2 hg2)
            have HG := Lib.hid (GS.of_grown (S := foot p mb g) hg2 (fun j hj => by cases hj; exact .inl (by simp [foot])))
            clear hm2 hg2 p0
            refine (record_any 1 k v _ (by decide) hkz hvz).mono ?_
            rintro e w3 ⟨rfl, b3⟩
            have HT3 := Lib.hid (HT.out.below b3)
            have HG3 := Lib.hid (HG.out.same (GS.of_below b3 _))
            clear b3
            go_wp2_with fail
            refine (addB_any n0 p mb g rs (setS s k v) (.set k v) _ HT3.out hrs H.out.all (by rw [enc_len_set]; omega)).mono ?_
            rintro e w4 ⟨rfl, g', ht4, gs4, gn4⟩
            have HF := Lib.hid (Did.done (q := setE s k v) (r := .set k v) HE.out H.out.pl (doR_set_of HE.out) HG3.out ht4 gs4 gn4)
            clear ht4 gs4 gn4
            go_wp2_with fail
            go_ret
            exact HF.out
          · rw [hq] at hlk
            clear hfull
            go_wp2_with (refine wpList_upd rfl (.tmp 44) (.tmp 45) (.tmp 46) rfl rfl H.out.t.mp Try.underlying9 Try.underlying112 k (.string v) rfl rfl hk hmx ?_; intro w2 hm2 hg2)
            have HT := Lib.hid (H.out.t.upd hm2 hg2)
            have HG := Lib.hid (GS.of_grown (S := foot p mb g) hg2 (fun j hj => by cases hj; exact .inl (by simp [foot])))
            clear hm2 hg2 p0
            refine (record_any 1 k v _ (by decide) hkz hvz).mono ?_
            rintro e w3 ⟨rfl, b3⟩
            have HT3 := Lib.hid (HT.out.below b3)
            have HG3 := Lib.hid (HG.out.same (GS.of_below b3 _))
            clear b3
            go_wp2_with fail
            refine (addB_any n0 p mb g rs (setS s k v) (.set k v) _ HT3.out hrs H.out.all (by rw [enc_len_set]; omega)).mono ?_
            rintro e w4 ⟨rfl, g', ht4, gs4, gn4⟩
            have HF := Lib.hid (Did.done (q := setE s k v) (r := .set k v) HE.out H.out.pl (doR_set_of HE.out) HG3.out ht4 gs4 gn4)
            clear ht4 gs4 gn4
            go_wp2_with fail
            go_ret
            exact HF.out
set_option maxHeartbeats 2000000 in
theorem delB_any (n0 p mb : Nat) (g : Option Nat) (rs : List Rec) (s : St) (k : ByteArray) (w : World) (h : BkS w n0 p mb g rs s) (hk : k.size ≤ maxLen) (hrs : rs.length ≤ 2097152) :
    Calls Try.prog 36 #[ptr p, .string k] w (Did w n0 p mb g rs s (.del k) (delE s k) (delS s k)) := by
  obtain ⟨a, u, hb, _⟩ := h.t.blk
  have p0 := hb.cell 0
  have hlk := h.t.mp.look_ok (t := 112) (e := 9) (k := k) Try.underlying9 Try.underlying112 (z := .string ByteArray.empty) rfl hk
  have e1 : (vF s.1 k).getD (.string ByteArray.empty) = .string ((s.1 k).getD ByteArray.empty) := by unfold vF; cases s.1 k <;> rfl
  rw [e1, vF_some] at hlk
  have H := Lib.hid h
  clear hb e1
  cases hq : s.1 k with
  | none =>
    have HE : Hid (delE s k = 4) := by show _ = _; unfold delE; rw [if_pos hq]
    rw [hq] at hlk
    clear hq h
    go_enter Try.func36, Try.ntmps36
    go_wp2_with fail
    go_ret
    exact Did.fail H.out HE.out (by decide)
  | some x =>
    have HE : Hid (delE s k = 0) := by show _ = _; unfold delE; rw [if_neg (by rw [hq]; simp)]
    have hkz : k.size ≤ 50 := ((inv_play h.pl).key k x hq).2.1
    have HQ : Hid ((s.1 k).isSome = true) := by show _ = _; rw [hq]; rfl
    rw [hq] at hlk
    clear hq h
    go_enter Try.func36, Try.ntmps36
    go_wp2_with (refine wpList_del rfl (.tmp 21) (.tmp 22) rfl rfl H.out.t.mp Try.underlying9 Try.underlying112 k rfl hk ?_; intro w2 hm2 hg2)
    have HT := Lib.hid (H.out.t.rem HQ.out hm2 hg2)
    have HG := Lib.hid (GS.of_grown (S := foot p mb g) hg2 (fun j hj => by cases hj; exact .inl (by simp [foot])))
    clear hm2 hg2 p0
    refine (record_any 2 k ByteArray.empty _ (by decide) hkz (by decide)).mono ?_
    rintro e w3 ⟨rfl, b3⟩
    have HEN : Hid (mkS (Lg.nb 2 :: Lg.nb k.size :: (sl k ++ sl ByteArray.empty)) = mkS (enc (.del k))) := by show _ = _; rw [sl_empty, List.append_nil]; rfl
    rw [HEN.out]
    have HT3 := Lib.hid (HT.out.below b3)
    have HG3 := Lib.hid (HG.out.same (GS.of_below b3 _))
    clear b3
    go_wp2_with fail
    refine (addB_any n0 p mb g rs (delS s k) (.del k) _ HT3.out hrs H.out.all (by rw [enc_len_del]; omega)).mono ?_
    rintro e w4 ⟨rfl, g', ht4, gs4, gn4⟩
    have HF := Lib.hid (Did.done (q := delE s k) (r := .del k) HE.out H.out.pl (doR_del_of HE.out) HG3.out ht4 gs4 gn4)
    clear ht4 gs4 gn4
    go_wp2_with fail
    go_ret
    exact HF.out
theorem imageB_any (n0 p mb : Nat) (g : Option Nat) (rs : List Rec) (s : St) (w : World) (h : BkT w n0 p mb g rs s) :
    Calls Try.prog 38 #[ptr p] w fun e w' => e = .returned (.string (mkS (imgL rs))) ∧ BkT w' n0 p mb g rs s ∧ GS w w' g.toList := by
  obtain ⟨a, u, hb, ha, ho, hv, hn⟩ := h.blk
  have H := Lib.hid h
  have HB := Lib.hid hb
  have HO := Lib.hid ho
  clear h hb ho
  go_enter Try.func38, Try.ntmps38
  go_wp2_with fail
  refine (string_any' n0 p _ _ a u (imgL rs) _ HB.out HO.out hn).mono ?_
  rintro e w1 ⟨rfl, hb1, ho1, g1⟩
  have hap := H.out.apart
  rw [hv] at g1
  have HM := Lib.hid (MapS.gs H.out.mp g1 (by simp; exact hap.2.2))
  have HB1 := Lib.hid hb1
  have HO1 := Lib.hid ho1
  have HG := Lib.hid g1
  clear hb1 ho1 g1
  go_wp2_with fail
  go_ret
  exact ⟨rfl, ⟨⟨a, u, HB1.out, ha, HO1.out, hv, hn⟩, HM.out, H.out.b0⟩, HG.out⟩
theorem keysB_any (n0 p mb : Nat) (g : Option Nat) (rs : List Rec) (s : St) (w : World) (h : BkT w n0 p mb g rs s) (hc : s.2 ≤ 100) :
    Calls Try.prog 33 #[ptr p] w fun e w' => ∃ v ks, e = .returned v ∧ Owns w' w.heap.size 9 1 Go.Proofs.Ytemknajlmocfeaa.es v ks ∧ Ky.Sorted ks ∧ ks.length = s.2 ∧ (∀ k, k ∈ ks ↔ (s.1 k).isSome = true) ∧ Below w.heap.size w w' := by
  obtain ⟨a, u, hb, _⟩ := h.blk
  have p0 := hb.cell 0
  obtain ⟨D, hown, hsz, hat, hh⟩ := h.mp
  have HD := Lib.hid hown
  have HSP := Lib.hid (fun (ss : List (List UInt8)) (hp : ss.Perm (strKeys D)) => Ky.keys_spec (f := vF s.1) hown hsz hh hp)
  have hsz' : Maps.size D ≤ 100 := by omega
  clear h hb hown hsz hat hh
  go_enter Try.func33, Try.ntmps33
  go_wp2_with fail
  refine (callsIn_wide.1 (Try.maps_Keys_74 _ _)).mono ?_
  rintro e w3 ⟨rfl, rfl⟩
  go_wp2_with fail
  refine (callsIn_wide.1 (Try.slices_Sorted_keys_73_74 mb _ D _ _ HD.out (by simp only [maxLen]; omega) (by omega))).mono ?_
  rintro e w4 ⟨vs, ss, rfl, hperm, hrow, -, b4⟩
  have HO4 := Lib.hid ((Ky.sorted_row hrow).mono (by simp : w.heap.size ≤ (w.alloc (.cells #[.map (some mb)] 112)).heap.size))
  have HB4 := Lib.hid (((Below.refl _ w).alloc (Nat.le_refl _) (.cells #[.map (some mb)] 112)).trans (b4.mono (by simp)))
  have HS4 := Lib.hid (HSP.out ss hperm)
  clear hrow hperm b4
  go_wp2_with fail
  go_ret
  refine ⟨_, _, rfl, HO4.out, HS4.out.1, HS4.out.2.1, fun k => ?_, HB4.out⟩
  rw [HS4.out.2.2 k, vF_some]
end Bk
end Go.Proofs.Ytemknajlmocfeaa
namespace Go.Proofs.Ytemknajlmocfeaa
set_option maxRecDepth 20000
open Go.RowKit Go.Shelf
namespace Bk
theorem mkS_get (l : List UInt8) (i : Nat) (h : i < l.length) : (mkS l)[i]'(by rw [mkS_size]; exact h) = l[i] := by
  have := sl_getElem (mkS l) i (by rw [mkS_size]; exact h)
  rw [← this]
  simp [sl_mkS]
section
variable (T : ByteArray) (kd : UInt8) (k v : ByteArray)
/-- A record's text, read. -/
structure RecT : Prop where
  sz : T.size = 2 + (k.size + v.size)
  i0 : ∀ W : World, (Instr.index 9 (.string T) (.int .i64 0)).run Try.prog W = .ok (bv kd) W
  i1 : ∀ W : World, (Instr.index 9 (.string T) (.int .i64 1)).run Try.prog W = .ok (.int .u8 (k.size : Int)) W
  s1 : ∀ W : World, (Instr.slice 9 (.string T) (some (.int .i64 2)) (some (.int .i64 (2 + (k.size : Int)))) none).run Try.prog W = .ok (.string k) W
  s2 : ∀ W : World, (Instr.slice 9 (.string T) (some (.int .i64 (2 + (k.size : Int)))) none none).run Try.prog W = .ok (.string v) W
end
theorem recT_of (kd : UInt8) (k v : ByteArray) (hk : k.size ≤ 50) : RecT (mkS (kd :: Lg.nb k.size :: (sl k ++ sl v))) kd k v := by
  have hl : (kd :: Lg.nb k.size :: (sl k ++ sl v)).length = 2 + (k.size + v.size) := by simp [sl_len]; omega
  have hz : (mkS (kd :: Lg.nb k.size :: (sl k ++ sl v))).size = 2 + (k.size + v.size) := by rw [mkS_size, hl]
  refine ⟨hz, fun W => ?_, fun W => ?_, fun W => ?_, fun W => ?_⟩
  · rw [run_index_string (w := W) 9 _ .i64 0 Try.underlying9, dif_pos ⟨by decide, by rw [hz]; omega⟩]
    have := mkS_get (kd :: Lg.nb k.size :: (sl k ++ sl v)) 0 (by rw [hl]; omega)
    simp only [Int.toNat_zero]
    rw [this]
    rfl
  · rw [run_index_string (w := W) 9 _ .i64 1 Try.underlying9, dif_pos ⟨by decide, by rw [hz]; omega⟩]
    have := mkS_get (kd :: Lg.nb k.size :: (sl k ++ sl v)) 1 (by rw [hl]; omega)
    simp only [Int.toNat_one]
    rw [this]
    show Result.ok (Value.int .u8 ((Lg.nb k.size).toNat : Int)) W = _
    rw [Lg.nb_toNat, Nat.mod_eq_of_lt (by omega)]
  · rw [run_slice_string (w := W) 9 _ .i64 .i64 2 (2 + (k.size : Int)) Try.underlying9 (by decide) (by omega) (by rw [hz]; omega)]
    congr 2
    apply sl_inj
    have e : (2 + (k.size : Int)).toNat = 2 + k.size := by omega
    rw [e, show (2 : Int).toNat = 2 from rfl, sl_extract, sl_mkS]
    simp [sl_len]
  · rw [run_slice_string_l (w := W) (t := 9) (s := mkS (kd :: Lg.nb k.size :: (sl k ++ sl v))) Try.underlying9 .i64 (2 + (k.size : Int)) (by omega) (by rw [hz]; omega)]
    congr 2
    apply sl_inj
    have e : (2 + (k.size : Int)).toNat = 2 + k.size := by omega
    rw [e, sl_extract_end, sl_mkS]
    have : 2 + k.size = (sl k).length + 1 + 1 := by rw [sl_len]; omega
    rw [this, List.drop_succ_cons, List.drop_succ_cons, List.drop_left]
def Again (w : World) (n0 p mb : Nat) (g : Option Nat) (rs : List Rec) (s1 : St) (r : Rec) (e : Ending) (w' : World) : Prop :=
  e = .returned (.bool true) ∧ ∃ g', GS w w' (foot p mb g) ∧ GN w g g' ∧ BkS w' n0 p mb g' (rs ++ [r]) s1
set_option maxHeartbeats 2000000 in
theorem again_any (n0 p mb : Nat) (g : Option Nat) (rs : List Rec) (s s1 : St) (r : Rec) (w : World) (h : BkS w n0 p mb g rs s) (hd : doR s r = some s1) (hrs : rs.length ≤ 2097152) :
    Calls Try.prog 78 #[ptr p, .string (mkS (enc r))] w (Again w n0 p mb g rs s1 r) := by
  cases r with
  | set k v =>
    obtain ⟨he, rfl⟩ := doR_set hd
    obtain ⟨h1, h2, h3, h4⟩ := setE_ok he
    have hR := recT_of 1 k v h2
    have HE := Lib.hid he
    have hT : mkS (enc (.set k v)) = mkS (1 :: Lg.nb k.size :: (sl k ++ sl v)) := rfl
    rw [hT]
    clear hT he h4 hd
    generalize mkS (1 :: Lg.nb k.size :: (sl k ++ sl v)) = T at *
    obtain ⟨hz, i0', i1, s1, s2⟩ := hR
    have i0 : ∀ W : World, (Instr.index 9 (.string T) (.int .i64 0)).run Try.prog W = .ok (.int .u8 1) W := i0'
    have hz2 : T.size ≤ 1000 := by omega
    have hz3 : decide ((T.size : Int) < 2) = false := by rw [decide_eq_false_iff_not]; omega
    have hz4 : decide ((T.size : Int) < 2 + (k.size : Int)) = false := by rw [decide_eq_false_iff_not]; omega
    have hw : IntKind.i64.wrap (2 + (k.size : Int)) = 2 + (k.size : Int) := by rw [IntKind.wrap_i64]; omega
    have hw2 : IntKind.i64.wrap (k.size : Int) = (k.size : Int) := by rw [IntKind.wrap_i64]; omega
    have hkm : k.size ≤ maxLen := by simp only [maxLen]; omega
    have H := Lib.hid (⟨h.t.drew, h.pl⟩ : BkS w.drew n0 p mb g rs s)
    clear hz i0' h1 h3
    go_enter Try.func78, Try.ntmps78
    go_wp2_with fail
    refine wp_region_seq [(true, 0), (true, 1), (true, 2), (true, 3), (true, 4), (true, 5), (true, 6), (true, 7)] (fun w' => w' = w.drew) (by kernel_rfl) (by kernel_rfl) (fun _ _ _ _ _ h => h) (by kernel_rfl) (by kernel_rfl) ?_ ?_
    · rfl
    iterate 8 (first | (apply seqH_skip; (focus (simp only [List.getElem?_toArray, List.getElem?_cons_succ, List.getElem?_cons_zero]; rfl)); (focus rfl); simp only [Act.put, List.setIfInBounds_toArray, List.set_cons_zero, List.set_cons_succ]) | (apply seqH_take; (focus (simp only [List.getElem?_toArray, List.getElem?_cons_succ, List.getElem?_cons_zero]; rfl)); (focus rfl); (focus (intro w' hS; subst hS; first | (go_simp; rfl) | (go_simp; done))); simp only [Act.put, List.setIfInBounds_toArray, List.set_cons_zero, List.set_cons_succ]) | (apply seqH_pass; (focus (simp only [List.getElem?_toArray, List.getElem?_cons_succ, List.getElem?_cons_zero]; rfl)); (focus rfl); (focus assumption); simp only [Act.put, List.setIfInBounds_toArray, List.set_cons_zero, List.set_cons_succ]))
    refine seqH_nil ?_
    have HGD := Lib.hid (GS.drew (GS.refl w (foot p mb g)))
    have HSZ : Hid (w.drew.heap.size = w.heap.size) := rfl
    generalize w.drew = wd at *
    go_wp2_with fail
    refine (setB_any n0 p mb g rs s k v _ H.out hkm hrs).mono ?_
    rintro e w1 ⟨rfl, g', gs1, gn1, h1⟩
    rw [if_pos HE.out, if_pos HE.out] at h1
    rw [HE.out]
    have HF : Hid (Again w n0 p mb g rs (setS s k v) (.set k v) (.returned (.bool true)) w1) := ⟨rfl, g', HGD.out.same gs1, fun j hj => (gn1 j hj).imp id (fun h => by have := HSZ.out; omega), h1⟩
    clear gs1 gn1 h1
    go_wp2_with fail
    go_ret
    exact HF.out
  | del k =>
    obtain ⟨he, rfl⟩ := doR_del hd
    obtain ⟨x, hx⟩ := delE_ok he
    have h2 : k.size ≤ 50 := ((inv_play h.pl).key k x hx).2.1
    have hR := recT_of 2 k ByteArray.empty h2
    have HE := Lib.hid he
    have hT : mkS (enc (.del k)) = mkS (2 :: Lg.nb k.size :: (sl k ++ sl ByteArray.empty)) := by rw [sl_empty, List.append_nil]; rfl
    rw [hT]
    clear hT he hx hd
    generalize mkS (2 :: Lg.nb k.size :: (sl k ++ sl ByteArray.empty)) = T at *
    have hee : ByteArray.empty.size = 0 := rfl
    rw [show ByteArray.empty = (⟨#[]⟩ : ByteArray) from rfl] at hR
    obtain ⟨hz, i0', i1, s1, s2⟩ := hR
    have i0 : ∀ W : World, (Instr.index 9 (.string T) (.int .i64 0)).run Try.prog W = .ok (.int .u8 2) W := i0'
    have hz2 : T.size ≤ 1000 := by rw [hz]; show 2 + (k.size + 0) ≤ 1000; omega
    have hz3 : decide ((T.size : Int) < 2) = false := by rw [decide_eq_false_iff_not, hz]; omega
    have hz4 : decide ((T.size : Int) < 2 + (k.size : Int)) = false := by rw [decide_eq_false_iff_not, hz]; omega
    have hw : IntKind.i64.wrap (2 + (k.size : Int)) = 2 + (k.size : Int) := by rw [IntKind.wrap_i64]; omega
    have hw2 : IntKind.i64.wrap (k.size : Int) = (k.size : Int) := by rw [IntKind.wrap_i64]; omega
    have hkm : k.size ≤ maxLen := by simp only [maxLen]; omega
    have H := Lib.hid (⟨h.t.drew, h.pl⟩ : BkS w.drew n0 p mb g rs s)
    clear hz i0'
    go_enter Try.func78, Try.ntmps78
    go_wp2_with fail
    refine wp_region_seq [(true, 0), (true, 1), (true, 2), (true, 3), (true, 4), (true, 5), (true, 6), (true, 7)] (fun w' => w' = w.drew) (by kernel_rfl) (by kernel_rfl) (fun _ _ _ _ _ h => h) (by kernel_rfl) (by kernel_rfl) ?_ ?_
    · rfl
    iterate 8 (first | (apply seqH_skip; (focus (simp only [List.getElem?_toArray, List.getElem?_cons_succ, List.getElem?_cons_zero]; rfl)); (focus rfl); simp only [Act.put, List.setIfInBounds_toArray, List.set_cons_zero, List.set_cons_succ]) | (apply seqH_take; (focus (simp only [List.getElem?_toArray, List.getElem?_cons_succ, List.getElem?_cons_zero]; rfl)); (focus rfl); (focus (intro w' hS; subst hS; first | (go_simp; rfl) | (go_simp; done))); simp only [Act.put, List.setIfInBounds_toArray, List.set_cons_zero, List.set_cons_succ]) | (apply seqH_pass; (focus (simp only [List.getElem?_toArray, List.getElem?_cons_succ, List.getElem?_cons_zero]; rfl)); (focus rfl); (focus assumption); simp only [Act.put, List.setIfInBounds_toArray, List.set_cons_zero, List.set_cons_succ]))
    refine seqH_nil ?_
    have HGD := Lib.hid (GS.drew (GS.refl w (foot p mb g)))
    have HSZ : Hid (w.drew.heap.size = w.heap.size) := rfl
    generalize w.drew = wd at *
    go_wp2_with fail
    refine (delB_any n0 p mb g rs s k _ H.out hkm hrs).mono ?_
    rintro e w1 ⟨rfl, g', gs1, gn1, h1⟩
    rw [if_pos HE.out, if_pos HE.out] at h1
    rw [HE.out]
    have HF : Hid (Again w n0 p mb g rs (delS s k) (.del k) (.returned (.bool true)) w1) := ⟨rfl, g', HGD.out.same gs1, fun j hj => (gn1 j hj).imp id (fun h => by have := HSZ.out; omega), h1⟩
    clear gs1 gn1 h1
    go_wp2_with fail
    go_ret
    exact HF.out
end Bk
end Go.Proofs.Ytemknajlmocfeaa
namespace Go.Proofs.Ytemknajlmocfeaa
set_option maxRecDepth 20000
open Go.RowKit Go.Shelf
namespace Bk
/-! ### Compaction, plain. -/
def cl (f : Vals) (ks : List ByteArray) : List Rec := ks.map fun k => .set k ((f k).getD ByteArray.empty)
def inL (a : List ByteArray) (k : ByteArray) : Bool := a.any fun x => decide (x = k)
theorem inL_iff (a : List ByteArray) (k : ByteArray) : inL a k = true ↔ k ∈ a := by
  unfold inL
  rw [List.any_eq_true]
  constructor
  · rintro ⟨x, hx, e⟩; rw [← of_decide_eq_true e]; exact hx
  · exact fun h => ⟨k, h, by simp⟩
def restr (f : Vals) (a : List ByteArray) : Vals := fun k => if inL a k then f k else none
theorem play_cl {s : St} (hi : Inv s) {ks : List ByteArray} (hn : ks.Nodup) (hm : ∀ k ∈ ks, (s.1 k).isSome = true) (hl : ks.length ≤ 100) : ∀ (b a : List ByteArray), a ++ b = ks → playFrom (restr s.1 a, a.length) (cl s.1 b) = some (restr s.1 ks, ks.length)
  | [], a, h => by
    rw [List.append_nil] at h
    subst h
    rfl
  | k :: b, a, h => by
    have hk : k ∈ ks := by rw [← h]; simp
    have hka : inL a k = false := by
      cases hq : inL a k with
      | false => rfl
      | true =>
        rw [← h, List.nodup_append] at hn
        exact absurd rfl (hn.2.2 k ((inL_iff a k).1 hq) k (by simp))
    obtain ⟨v, hv⟩ := Option.isSome_iff_exists.1 (hm k hk)
    have hs := hi.key k v hv
    have hr : restr s.1 a k = none := by unfold restr; rw [hka]; rfl
    have hal : a.length < ks.length := by rw [← h, List.length_append, List.length_cons]; omega
    have he : setE (restr s.1 a, a.length) k v = 0 := by
      unfold setE
      rw [if_neg (by omega), if_neg (by omega), if_neg (by rintro ⟨_, h2⟩; simp only at h2; omega)]
    show playFrom (restr s.1 a, a.length) (.set k ((s.1 k).getD ByteArray.empty) :: cl s.1 b) = _
    rw [hv, Option.getD_some, playFrom_cons, doR_set_of he]
    have e1 : setS (restr s.1 a, a.length) k v = (restr s.1 (a ++ [k]), (a ++ [k]).length) := by
      show (vput (restr s.1 a) k v, if (restr s.1 a k).isSome = true then a.length else a.length + 1) = _
      rw [hr]
      refine Prod.ext ?_ (by simp)
      funext x
      show vput (restr s.1 a) k v x = restr s.1 (a ++ [k]) x
      unfold vput restr
      by_cases hx : x = k
      · subst hx
        rw [if_pos rfl, if_pos ((inL_iff _ _).2 (by simp)), hv]
      · rw [if_neg hx]
        have : inL (a ++ [k]) x = inL a x := by unfold inL; rw [List.any_append]; simp; exact fun e => absurd e.symm hx
        rw [this]
    rw [e1]
    exact play_cl hi hn hm hl b (a ++ [k]) (by rw [← h]; simp)
theorem play_compact {s : St} (hi : Inv s) {ks : List ByteArray} (hn : ks.Nodup) (hm : ∀ k, k ∈ ks ↔ (s.1 k).isSome = true) (hl : ks.length = s.2) : play (cl s.1 ks) = some s := by
  have h0 : (restr s.1 [], ([] : List ByteArray).length) = s0 := by
    refine Prod.ext ?_ rfl
    funext k
    rfl
  unfold play
  rw [← h0, play_cl hi hn (fun k hk => (hm k).1 hk) (by rw [hl]; exact hi.many) ks [] rfl]
  congr 1
  refine Prod.ext ?_ hl
  funext k
  show restr s.1 ks k = s.1 k
  unfold restr
  by_cases hk : k ∈ ks
  · rw [if_pos ((inL_iff _ _).2 hk)]
  · rw [if_neg (fun h => hk ((inL_iff _ _).1 h))]
    cases hq : s.1 k with
    | none => rfl
    | some v => exact absurd ((hm k).2 (by rw [hq]; rfl)) hk
def tot (rs : List Rec) : Nat := (rs.map fun r => (enc r).length + 8).sum
theorem tot_img (rs : List Rec) : (imgL rs).length = tot rs := by
  have key : ∀ (rs : List Rec) (k : Nat), (Lg.writeL k (rs.map enc)).length = tot rs := by
    intro rs
    induction rs with
    | nil => intro k; rfl
    | cons r l ih =>
      intro k
      rw [List.map_cons]
      unfold Lg.writeL
      rw [List.length_append, ih, Lg.frame_len]
      simp [tot]
  exact key rs 0
theorem tot_app (a b : List Rec) : tot (a ++ b) = tot a + tot b := by simp [tot]
theorem cl_app (f : Vals) (a b : List ByteArray) : cl f (a ++ b) = cl f a ++ cl f b := by simp [cl]
theorem cl_congr {f g : Vals} {a : List ByteArray} (h : ∀ k ∈ a, f k = g k) : cl f a = cl g a := by
  unfold cl
  exact List.map_congr_left fun k hk => by rw [h k hk]
theorem tot_cl1 (f : Vals) (k : ByteArray) : tot (cl f [k]) = 10 + k.size + ((f k).getD ByteArray.empty).size := by
  simp only [cl, tot, List.map_cons, List.map_nil, List.sum_cons, List.sum_nil, enc_len_set]; omega
theorem tot_compact : ∀ (n : Nat) {rs : List Rec} {s : St}, rs.length = n → play rs = some s → ∀ ks : List ByteArray, ks.Nodup → (∀ k, k ∈ ks ↔ (s.1 k).isSome = true) → tot (cl s.1 ks) ≤ tot rs
  | 0, rs, s, hl, hp, ks, hn, hm => by
    obtain rfl : rs = [] := List.eq_nil_of_length_eq_zero hl
    have hp' : some s0 = some s := hp
    injection hp' with hp'
    subst hp'
    cases ks with
    | nil => exact Nat.le_refl _
    | cons k l => have := (hm k).1 (by simp); cases this
  | n + 1, rs, s, hl, hp, ks, hn, hm => by
    have hne : rs ≠ [] := by rintro rfl; simp at hl
    obtain ⟨l, r, rfl⟩ : ∃ l r, rs = l ++ [r] := ⟨rs.dropLast, rs.getLast hne, (List.dropLast_concat_getLast hne).symm⟩
    have hll : l.length = n := by simpa using hl
    rw [play_snoc] at hp
    cases hq : play l with
    | none => rw [hq] at hp; cases hp
    | some t =>
      rw [hq] at hp
      have hp' : doR t r = some s := hp
      have ih := fun ks h1 h2 => tot_compact n hll hq ks h1 h2
      rw [tot_app]
      cases r with
      | set k v =>
        obtain ⟨he, rfl⟩ := doR_set hp'
        have hk : k ∈ ks := (hm k).2 (by simp [setS, vput])
        obtain ⟨a, b, rfl⟩ := List.append_of_mem hk
        have hn' := hn
        rw [List.nodup_append] at hn
        obtain ⟨na, nkb, nd⟩ := hn
        rw [List.nodup_cons] at nkb
        have hnea : ∀ x ∈ a, x ≠ k := fun x hx => nd x hx k (by simp)
        have hneb : ∀ x ∈ b, x ≠ k := fun x hx e => nkb.1 (e ▸ hx)
        have ea : cl (setS t k v).1 a = cl t.1 a := cl_congr fun x hx => by simp [setS, vput, hnea x hx]
        have eb' : cl (setS t k v).1 b = cl t.1 b := cl_congr fun x hx => by simp [setS, vput, hneb x hx]
        have e1 : tot (cl (setS t k v).1 (a ++ k :: b)) = tot (cl t.1 a) + (10 + k.size + v.size) + tot (cl t.1 b) := by
          rw [show a ++ k :: b = a ++ ([k] ++ b) by simp, cl_app, cl_app, tot_app, tot_app, ea, eb', tot_cl1]
          simp [setS, vput]
          omega
        have e2 : tot [Rec.set k v] = 10 + k.size + v.size := by simp only [tot, List.map_cons, List.map_nil, List.sum_cons, List.sum_nil, enc_len_set]; omega
        rw [e1, e2]
        have hmem : ∀ x, x ∈ a ++ k :: b ↔ x = k ∨ (t.1 x).isSome = true := fun x => by
          rw [hm x]
          show (vput t.1 k v x).isSome = true ↔ _
          unfold vput
          by_cases hx : x = k
          · simp [hx]
          · simp [hx]
        cases ht : (t.1 k).isSome with
        | false =>
          have := ih (a ++ b) (by rw [List.nodup_append]; exact ⟨na, nkb.2, fun x hx y hy => nd x hx y (List.mem_cons_of_mem _ hy)⟩) (fun x => by
            have h1 := hmem x
            by_cases hx : x = k
            · subst hx
              rw [ht]
              constructor
              · intro h2
                rcases List.mem_append.1 h2 with h2 | h2
                · exact absurd rfl (hnea x h2)
                · exact absurd rfl (hneb x h2)
              · intro h2; cases h2
            · rw [List.mem_append, List.mem_cons] at h1
              rw [List.mem_append]
              simp only [hx, false_or] at h1
              exact h1)
          rw [cl_app, tot_app] at this
          omega
        | true =>
          have := ih (a ++ k :: b) hn' (fun x => by
            rw [hmem x]
            constructor
            · rintro (rfl | h1)
              · exact ht
              · exact h1
            · exact .inr)
          rw [show a ++ k :: b = a ++ ([k] ++ b) by simp, cl_app, cl_app, tot_app, tot_app] at this
          omega
      | del k =>
        obtain ⟨he, rfl⟩ := doR_del hp'
        obtain ⟨v, hv⟩ := delE_ok he
        have hkn : k ∉ ks := fun h => by have := (hm k).1 h; simp [delS, vdel] at this
        have ea : cl (delS t k).1 ks = cl t.1 ks := cl_congr fun x hx => by
          have : x ≠ k := fun e => hkn (e ▸ hx)
          simp [delS, vdel, this]
        have := ih (k :: ks) (List.nodup_cons.2 ⟨hkn, hn⟩) (fun x => by
          rw [List.mem_cons, hm x]
          show x = k ∨ (vdel t.1 k x).isSome = true ↔ _
          unfold vdel
          by_cases hx : x = k
          · subst hx; simp [hv]
          · simp [hx])
        rw [show k :: ks = [k] ++ ks by simp, cl_app, tot_app] at this
        rw [ea]
        omega
/-! ### The walks. -/
theorem not_foot {w : World} {n0 p mb j : Nat} {g : Option Nat} {rs : List Rec} {s : St} (h : BkT w n0 p mb g rs s) {cs : Array Value} {t : TypeId} {fr : Nat × Nat} (hj : w.heap[j]? = some (.cells cs t fr)) (h1 : t ≠ 130) (h2 : t ≠ 5) : j ∉ foot p mb g := by
  obtain ⟨a, v, hb, ha, ho, hv, hn⟩ := h.blk
  intro hm
  simp only [foot, List.mem_cons, Option.mem_toList] at hm
  rcases hm with rfl | rfl | hm
  · unfold Blk at hb
    rw [hj] at hb
    injection hb with hb
    injection hb with _ e
    exact h1 e
  · obtain ⟨es, ck, hmm⟩ := h.mp.isMapObj
    rw [hmm] at hj
    cases hj
  · rcases ho.2 with ⟨rfl, _⟩ | ⟨g', cap, cur, fz, rfl, _, hh, _⟩
    · rw [← hv] at hm; cases hm
    · have : g' = j := by rw [← hv] at hm; simpa [Value.ownBlock] using hm
      subst this
      rw [hh] at hj
      injection hj with hj
      injection hj with _ e
      exact h2 e.symm
theorem Owns.keepB {α : Type} {w w' : World} {n0 p mb base size : Nat} {g : Option Nat} {rs : List Rec} {s : St} {e : TypeId} {en : α → List Value} {v : Value} {xs : List α} (ho : Owns w base e size en v xs) (h : BkT w n0 p mb g rs s) (hg : GS w w' (foot p mb g)) (h1 : e ≠ 130) (h2 : e ≠ 5) : Owns w' base e size en v xs := by
  refine Owns.gs ho hg fun j hj => ?_
  rcases ho.2 with ⟨rfl, _⟩ | ⟨g', cap, cur, rfl, _, hh, _⟩
  · cases hj
  · have : g' = j := by simpa [Value.ownBlock] using hj
    subst this
    exact not_foot h hh h1 h2
set_option maxHeartbeats 2000000 in
theorem open_any (T : ByteArray) (rs : List Rec) (s : St) (n : Nat) (w : World) (hp : play rs = some s) (hr : Lg.recAll 0 (sl T) = (rs.map enc, n)) (hT : T.size ≤ 2147483648) (hrs : rs.length ≤ 2097152) :
    Calls Try.prog 37 #[.string T] w fun e w' => ∃ p mb g, e = .returned (.tuple #[ptr p, .int .i64 ((imgL rs).length : Int)]) ∧ BkS w' w.heap.size p mb g rs s ∧ Below w.heap.size w w' := by
  have HP := Lib.hid hp
  have HR := Lib.hid hr
  clear hp hr
  go_enter Try.func37, Try.ntmps37
  go_wp2_with fail
  refine (newB_any _).mono ?_
  rintro e w1 ⟨p, mb, rfl, h1, b1⟩
  have H1 := Lib.hid h1
  have HB1 := Lib.hid b1
  clear h1 b1
  go_wp2_with fail
  refine (recover_any T _ hT).mono ?_
  rintro e w2 ⟨⟨vl, rfl, how⟩, b2⟩
  rw [HR.out] at how ⊢
  have hn2 := b2.size
  have H2 := Lib.hid (H1.out.below b2)
  have HB2 := Lib.hid (HB1.out.trans (b2.mono HB1.out.size))
  have HO2 := Lib.hid how
  obtain ⟨Al, cl', rfl⟩ := how.slice
  have hml : ((rs.map enc).map mkS).length = rs.length := by rw [List.length_map, List.length_map]
  rw [hml] at HO2 ⊢
  clear b2 how
  go_wp2_with fail
  go_loopw [17] (fun iv wr => ∃ (k : Nat) (g : Option Nat) (sk : St), iv = .int .i64 (k : Int) ∧ k ≤ rs.length ∧ BkS wr w.heap.size p mb g (rs.take k) sk ∧ Owns wr w1.heap.size 9 1 Go.Proofs.Ytemknajlmocfeaa.es (.slice Al rs.length cl') ((rs.map enc).map mkS) ∧ Below w.heap.size w wr) (fun iv _ => rs.length - (intOf iv).toNat)
  case atStart => exact ⟨0, none, s0, rfl, Nat.zero_le _, by rw [List.take_zero]; exact H2.out, HO2.out, HB2.out⟩
  case round =>
    obtain ⟨k, g, sk, rfl, hk, hb, how, hbel⟩ := hrel
    have HBK := Lib.hid hb
    have HO := Lib.hid how
    have HBE := Lib.hid hbel
    clear hb how hbel
    by_cases hlt : k < rs.length
    · obtain ⟨bb, off, c3, hv2, hc3, hbb, hcell⟩ := SlR.texts (xs := (rs.map enc).map mkS) (SlR.of_owns HO.out) (by rw [hml]; omega)
      injection hv2 with g1 g2 g3
      subst g1 g3
      have c0 := hcell k (by rw [hml]; exact hlt)
      rw [List.getElem_map, List.getElem_map] at c0
      have HTK : Hid (rs.take (k + 1) = rs.take k ++ [rs[k]]) := by show _ = _; rw [List.take_add_one, List.getElem?_eq_getElem hlt]; rfl
      obtain ⟨s1, hs1⟩ := play_take HP.out (k + 1)
      have HD : Hid (doR sk rs[k] = some s1) := by
        have h3 := hs1
        rw [HTK.out, play_snoc, HBK.out.pl] at h3
        exact h3
      have htl : (rs.take k).length ≤ 2097152 := by rw [List.length_take]; omega
      clear hcell g2 hs1
      generalize rs[k] = r at *
      go_wp2_with fail
      refine (again_any _ p mb g (rs.take k) sk s1 r _ HBK.out HD.out htl).mono ?_
      rintro e w3 ⟨rfl, g', gs3, gn3, h3⟩
      have HF3 : Hid (BkS w3 w.heap.size p mb g' (rs.take (k + 1)) s1) := by rw [HTK.out]; exact h3
      have HO3 := Lib.hid (Owns.keepB HO.out HBK.out.t gs3 (by decide) (by decide))
      have HB3 := Lib.hid (HBE.out.trans (gs3.bel HBE.out.size (fun j hj => (HBK.out.t.gle j hj).1)))
      clear gs3 gn3 h3
      go_wp2_with fail
      exact ⟨⟨k + 1, g', s1, by simp, by omega, HF3.out, HO3.out, HB3.out⟩, by simp only [intOf]; omega⟩
    · obtain rfl : k = rs.length := by omega
      have hbk := HBK.out
      rw [List.take_of_length_le (Nat.le_refl _)] at hbk
      obtain rfl : sk = s := by have h1 := hbk.pl; rw [HP.out] at h1; injection h1 with h1; exact h1.symm
      obtain ⟨a, u, hb, ha, ho, _⟩ := hbk.t.blk
      have HK := Lib.hid hbk
      have HBl := Lib.hid hb
      have HOl := Lib.hid ho
      clear hbk hb ho
      go_wp2_with fail
      refine (len_any w.heap.size p _ _ a u (imgL rs) _ HBl.out HOl.out).mono ?_
      rintro e w3 ⟨rfl, rfl⟩
      go_wp2_with fail
      go_ret2
      exact ⟨p, mb, g, rfl, HK.out, HBE.out⟩
end Bk
end Go.Proofs.Ytemknajlmocfeaa
