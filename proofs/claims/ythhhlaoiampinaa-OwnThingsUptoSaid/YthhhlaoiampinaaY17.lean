/- The book's functions: New, record, add, Set, Del, Get, Keys, Image. -/
import Derived.Test.YthhhlaoiampinaaY16
namespace Go.Proofs.Ythhhlaoiampinaa
set_option maxRecDepth 20000
open Go.RowKit Go.Shelf
namespace Bk
def vF (f : Vals) (k : ByteArray) : Option Value := (f k).map .string
theorem vF_put (f : Vals) (k v x : ByteArray) : fput (vF f) k (.string v) x = vF (vput f k v) x := by
  unfold fput vF vput
  split <;> rfl
theorem vF_del (f : Vals) (k x : ByteArray) : fdel (vF f) k x = vF (vdel f k) x := by
  unfold fdel vF vdel
  split <;> rfl
theorem vF_some (f : Vals) (k : ByteArray) : (vF f k).isSome = (f k).isSome := by unfold vF; cases f k <;> rfl
/-- A book: its blocks (g: its buffer's), its records, its values. -/
structure BkT (w : World) (n0 p mb : Nat) (g : Option Nat) (rs : List Rec) (s : St) : Prop where
  blk : ∃ a v, Blk w p 122 #[.map (some mb), .int .i64 (rs.length : Int), a, v] ∧ atHome p a ∧ w.ownsRowF n0 5 1 v (imgL rs).length (Lib.byteCells (imgL rs)) ∧ v.ownBlock = g ∧ (imgL rs = [] → v = .slice none 0 0)
  mp : MapS Try.prog w 9 mb (vF s.1) s.2
  b0 : n0 ≤ p ∧ n0 ≤ mb
def foot (p mb : Nat) (g : Option Nat) : List Nat := p :: mb :: g.toList
section
variable {w w' : World} {n0 p mb : Nat} {g : Option Nat} {rs : List Rec} {s : St} {S : List Nat}
theorem BkT.gs (h : BkT w n0 p mb g rs s) (hg : GS w w' S) (hf : ∀ j ∈ foot p mb g, j ∉ S) : BkT w' n0 p mb g rs s := by
  obtain ⟨a, v, hb, ha, ho, hv, hn⟩ := h.blk
  refine ⟨⟨a, v, Blk.gs hb hg (hf p (by simp [foot])), ha, rowF_gs ho hg (fun j hj => hf j (by simp [foot, ← hv, hj])), hv, hn⟩, MapS.gs h.mp hg (hf mb (by simp [foot])), h.b0⟩
theorem BkT.below (h : BkT w n0 p mb g rs s) (hb : Below w.heap.size w w') : BkT w' n0 p mb g rs s := h.gs (GS.of_below hb []) (by simp)
theorem BkT.alloc (h : BkT w n0 p mb g rs s) (o : Obj) : BkT (w.alloc o) n0 p mb g rs s := h.below ((Below.refl _ w).alloc (Nat.le_refl _) _)
theorem BkT.drew (h : BkT w n0 p mb g rs s) : BkT w.drew n0 p mb g rs s := h.gs (GS.drew (GS.refl _ [])) (by simp)
theorem BkT.gle (h : BkT w n0 p mb g rs s) : ∀ j ∈ foot p mb g, n0 ≤ j ∧ j < w.heap.size := by
  obtain ⟨a, v, hb, ha, ho, hv, hn⟩ := h.blk
  intro j hj
  simp only [foot, List.mem_cons, Option.mem_toList] at hj
  rcases hj with rfl | rfl | hj
  · exact ⟨h.b0.1, hb.lt⟩
  · exact ⟨h.b0.2, h.mp.lt⟩
  · exact ho.lt j (by rw [hv]; exact hj)
theorem BkT.n0w (h : BkT w n0 p mb g rs s) : n0 ≤ w.heap.size := by
  have := h.gle p (by simp [foot]); omega
theorem BkT.apart (h : BkT w n0 p mb g rs s) : p ≠ mb ∧ g ≠ some p ∧ g ≠ some mb := by
  obtain ⟨a, v, hb, ha, ho, hv, hn⟩ := h.blk
  refine ⟨fun e => h.mp.ne_blk hb e.symm, by rw [← hv]; exact rowF_ne ho hb, fun e => ?_⟩
  rcases ho.2 with ⟨rfl, _⟩ | ⟨g', cap, cur, fz, rfl, _, hh, _⟩
  · rw [← hv] at e; cases e
  · have : g' = mb := by rw [← hv] at e; simpa [Value.ownBlock] using e
    subst this
    obtain ⟨es, ck, hm⟩ := h.mp.isMapObj
    rw [hm] at hh
    cases hh
end
structure BkS (w : World) (n0 p mb : Nat) (g : Option Nat) (rs : List Rec) (s : St) : Prop where
  t : BkT w n0 p mb g rs s
  pl : play rs = some s
theorem newB_any (w : World) :
    Calls Try.prog 57 #[] w fun e w' => ∃ p mb, e = .returned (ptr p) ∧ BkS w' w.heap.size p mb none [] s0 ∧ Below w.heap.size w w' := by
  have hmm := @run_makeMap Try.prog
  have hm0 := (MapS.made w Try.prog 9).alloc (.cells #[.map (some w.heap.size), .int .i64 0, .pointer none, .slice none 0 0] 122)
  have hN : Blk ((w.alloc (.map #[] 0)).alloc (.cells #[.map (some w.heap.size), .int .i64 0, .pointer none, .slice none 0 0] 122)) (w.heap.size + 1) 122 #[.map (some w.heap.size), .int .i64 0, .pointer none, .slice none 0 0] := by
    have := Blk.new (w.alloc (.map #[] 0)) 122 #[.map (some w.heap.size), .int .i64 0, .pointer none, .slice none 0 0]
    rwa [World.size_alloc] at this
  have hA : Below w.heap.size w ((w.alloc (.map #[] 0)).alloc (.cells #[.map (some w.heap.size), .int .i64 0, .pointer none, .slice none 0 0] 122)) := ((Below.refl _ w).alloc (Nat.le_refl _) _).alloc (by simp) _
  go_enter Try.func57, Try.ntmps57
  go_wp2_with fail
  go_ret
  exact ⟨w.heap.size + 1, w.heap.size, by simp, ⟨⟨⟨_, _, hN, .inl rfl, World.ownsRowF_nil _ _ _ _, rfl, fun _ => rfl⟩, hm0, by omega, Nat.le_refl _⟩, rfl⟩, hA⟩
theorem record_any (kd : Nat) (k v : ByteArray) (w : World) (hkd : kd < 256) (hk : k.size ≤ 50) (hv : v.size ≤ 900) :
    Calls Try.prog 84 #[.int .i64 (kd : Int), .string k, .string v] w fun e w' => e = .returned (.string (mkS (Lg.nb kd :: Lg.nb k.size :: (sl k ++ sl v)))) ∧ Below w.heap.size w w' := by
  have w8 : ∀ n : Nat, n < 256 → IntKind.u8.wrap (n : Int) = (n : Int) := fun n h => by rw [IntKind.wrap_u8]; omega
  have hkz := w8 k.size (by omega)
  have hkd' := w8 kd hkd
  have e1 : Value.int .u8 (kd : Int) = bv (Lg.nb kd) := nbv kd kd (by omega)
  have e2 : Value.int .u8 (k.size : Int) = bv (Lg.nb k.size) := nbv k.size k.size (by omega)
  have h : Owns (w.alloc (.cells #[bv (Lg.nb kd), bv (Lg.nb k.size)] 5)) w.heap.size 5 1 eb (.slice (some ⟨w.heap.size, 0, none⟩) 2 2) [Lg.nb kd, Lg.nb k.size] :=
    Owns.lit (size := 1) (enc := eb) w w.heap.size #[bv (Lg.nb kd), bv (Lg.nb k.size)] [Lg.nb kd, Lg.nb k.size] (Nat.le_refl _) (by simp [maxLen]) (by rfl) (by rfl)
  unfold Owns at h
  rw [eb_map] at h
  have hcv := run_string_own (dst := 9) (P := Try.prog) (src := 110) Try.underlying110 Try.underlying5 Try.underlying9 h
  rw [← e1, ← e2] at hcv
  clear h e1 e2 w8
  obtain ⟨T, hT⟩ : ∃ T, T = mkS [Lg.nb kd, Lg.nb k.size] := ⟨_, rfl⟩
  rw [← hT] at hcv
  have hTz : T.size = 2 := by rw [hT]; rfl
  have HT := Lib.hid hT
  have hz1 : (T ++ k).size ≤ 60 := by rw [ByteArray.size_append]; omega
  have hz0 : T.size ≤ 60 := by omega
  clear hT hTz
  go_enter Try.func84, Try.ntmps84
  go_wp2_with fail
  go_ret
  refine ⟨ret_str ?_, (Below.refl _ w).alloc (Nat.le_refl _) _⟩
  apply sl_inj
  rw [sl_append, sl_append, HT.out, sl_mkS, sl_mkS]
  simp
set_option maxHeartbeats 1000000 in
theorem addB_any (n0 p mb : Nat) (g : Option Nat) (rs : List Rec) (s : St) (r : Rec) (w : World) (h : BkT w n0 p mb g rs s) (hrs : rs.length ≤ 2097152) (hall : ∀ q ∈ rs, (enc q).length ≤ 1000) (hr : (enc r).length ≤ 1000) :
    Calls Try.prog 83 #[ptr p, .string (mkS (enc r))] w fun e w' => e = .returned (.tuple #[]) ∧ ∃ g', BkT w' n0 p mb g' (rs ++ [r]) s ∧ GS w w' (foot p mb g) ∧ GN w g g' := by
  obtain ⟨a, v, hb, ha, ho, hv, hn⟩ := h.blk
  have p1 := hb.cell 1
  have H := Lib.hid h
  have HB := Lib.hid hb
  have HO := Lib.hid ho
  have hil := imgL_len hall
  have hn0 := h.n0w
  clear hb ho h
  go_enter Try.func83, Try.ntmps83
  go_wp2_with fail
  refine (frame_any rs.length (mkS (enc r)) _ (by omega) (by rw [mkS_size]; exact hr)).mono ?_
  rintro e w1 ⟨rfl, b1⟩
  rw [sl_mkS]
  have hb1 := HB.out.below b1 HB.out.lt
  have hs1 := b1.size
  have ho1 := rowF_gs HO.out (GS.of_below b1 []) (by simp)
  have HM1 := Lib.hid (H.out.mp.below b1)
  have HG1 := Lib.hid (GS.of_below b1 (foot p mb g))
  clear b1
  go_wp2_with fail
  refine (writeK_any n0 p _ _ a v (imgL rs) (mkS (Lg.frame rs.length (enc r))) _ hb1 ha ho1 (by omega) (by rw [mkS_size, Lg.frame_len]; omega)).mono ?_
  rintro e w2 ⟨rfl, v', hb2, ho2, g2, gn2, hnil2⟩
  rw [sl_mkS, ← imgL_snoc] at ho2 hnil2
  have hap := H.out.apart
  have hf2 : ∀ j ∈ p :: v.ownBlock.toList, j ∈ foot p mb g := by
    intro j hj
    rw [hv] at hj
    simp only [foot, List.mem_cons] at hj ⊢
    exact hj.elim .inl (fun h => .inr (.inr h))
  have HM2 := Lib.hid (MapS.gs HM1.out g2 (by
    intro hm
    rw [hv] at hm
    simp only [List.mem_cons, Option.mem_toList] at hm
    rcases hm with e | e
    · exact hap.1 e.symm
    · exact hap.2.2 e))
  have HG2 := Lib.hid (HG1.out.trans (g2.mono hf2) (fun j hj => .inl hj))
  have HGN : Hid (GN w g v'.ownBlock) := by rw [hv] at gn2; exact fun j hj => (gn2 j hj).imp id (fun h => Nat.le_trans hs1 h)
  have q1 := hb2.cell 1
  have f1 := hb2.frozen 1
  have HB2 := Lib.hid hb2
  have HO2 := Lib.hid ho2
  have hrl : IntKind.i64.wrap ((rs.length : Int) + 1) = (rs.length : Int) + 1 := by rw [IntKind.wrap_i64]; omega
  clear g2 gn2 hb2 ho2 hb1 ho1 HB HO p1
  go_wp2_with fail
  go_end0
  have g3 := GS.cell_ w2 ⟨p, 1, none⟩ (.int .i64 ((rs.length : Int) + 1)) (S := [p]) (by simp)
  refine ⟨rfl, v'.ownBlock, ⟨⟨_, v', ?_, .inr rfl, rowF_gs HO2.out g3 (fun j hj hm => rowF_ne HO2.out HB2.out (by rw [hj, List.mem_singleton.1 hm])), rfl, fun hi => ?_⟩, MapS.gs HM2.out g3 (by simp; exact fun e => hap.1 e.symm), H.out.b0⟩, HG2.out.trans g3 (fun j hj => .inl (by simp [foot, List.mem_singleton.1 hj])), HGN.out⟩
  · have := HB2.out.set_ 1 (.int .i64 ((rs.length : Int) + 1))
    have e : ((rs ++ [r]).length : Int) = (rs.length : Int) + 1 := by simp
    rw [e]
    exact this
  · exfalso
    rw [imgL_snoc] at hi
    have := congrArg List.length hi
    rw [List.length_append, Lg.frame_len] at this
    simp at this
end Bk
end Go.Proofs.Ythhhlaoiampinaa
namespace Go.Proofs.Ythhhlaoiampinaa
set_option maxRecDepth 20000
open Go.RowKit Go.Shelf
namespace Bk
section
variable {w w' : World} {n0 p mb : Nat} {g : Option Nat} {rs : List Rec} {s : St} {k v : ByteArray}
theorem BkT.upd (h : BkT w n0 p mb g rs s) (hm : MapS Try.prog w' 9 mb (fput (vF s.1) k (.string v)) (if (vF s.1 k).isSome then s.2 else s.2 + 1)) (hg : w.grownBy w' (some mb)) : BkT w' n0 p mb g rs (setS s k v) := by
  have hgs : GS w w' [mb] := GS.of_grown hg (fun j hj => by cases hj; exact .inl (by simp))
  obtain ⟨a, u, hb, ha, ho, hv, hn⟩ := h.blk
  have hap := h.apart
  refine ⟨⟨a, u, Blk.gs hb hgs (by simp; exact hap.1), ha, rowF_gs ho hgs (fun j hj hmm => hap.2.2 (by rw [← hv, hj, List.mem_singleton.1 hmm])), hv, hn⟩, hm.congr (vF_put _ _ _) ?_, h.b0⟩
  rw [vF_some]
  rfl
theorem BkT.rem (h : BkT w n0 p mb g rs s) (hk : (s.1 k).isSome = true) (hm : MapS Try.prog w' 9 mb (fdel (vF s.1) k) (if (vF s.1 k).isSome then s.2 - 1 else s.2)) (hg : w.grownBy w' (some mb)) : BkT w' n0 p mb g rs (delS s k) := by
  have hgs : GS w w' [mb] := GS.of_grown hg (fun j hj => by cases hj; exact .inl (by simp))
  obtain ⟨a, u, hb, ha, ho, hv, hn⟩ := h.blk
  have hap := h.apart
  refine ⟨⟨a, u, Blk.gs hb hgs (by simp; exact hap.1), ha, rowF_gs ho hgs (fun j hj hmm => hap.2.2 (by rw [← hv, hj, List.mem_singleton.1 hmm])), hv, hn⟩, hm.congr (vF_del _ _) ?_, h.b0⟩
  rw [vF_some, hk]
  rfl
theorem isEmpty_yes (r : ByteArray) (h : r.size = 0) : r.toList.isEmpty = true := by rw [empty_of_size r h, ba_toList]; rfl
theorem BkS.all (h : BkS w n0 p mb g rs s) : ∀ q ∈ rs, (enc q).length ≤ 1000 := fun q hq => encs_le h.pl (enc q) (List.mem_map.2 ⟨q, hq, rfl⟩)
theorem BkS.gs {S : List Nat} (h : BkS w n0 p mb g rs s) (hg : GS w w' S) (hf : ∀ j ∈ foot p mb g, j ∉ S) : BkS w' n0 p mb g rs s := ⟨h.t.gs hg hf, h.pl⟩
theorem BkS.below (h : BkS w n0 p mb g rs s) (hb : Below w.heap.size w w') : BkS w' n0 p mb g rs s := ⟨h.t.below hb, h.pl⟩
theorem BkS.alloc (h : BkS w n0 p mb g rs s) (o : Obj) : BkS (w.alloc o) n0 p mb g rs s := ⟨h.t.alloc o, h.pl⟩
/-- Its footprint within the older one's, or new. -/
theorem foot_gn {w w1 w2 : World} {p mb : Nat} {g g1 : Option Nat} {S : List Nat} (h : GS w w1 S) (hf : ∀ j ∈ foot p mb g, j ∈ S) (hn : GN w g g1) (k : GS w1 w2 (foot p mb g1)) : GS w w2 S := by
  refine h.trans k fun j hj => ?_
  simp only [foot, List.mem_cons, Option.mem_toList] at hj
  rcases hj with rfl | rfl | hj
  · exact .inl (hf _ (by simp [foot]))
  · exact .inl (hf _ (by simp [foot]))
  · exact (hn j hj).elim (fun e => .inl (hf _ (by simp [foot, e]))) .inr
end
/-- What Set and Del leave: the record when it was done. -/
def Did (w : World) (n0 p mb : Nat) (g : Option Nat) (rs : List Rec) (s : St) (r : Rec) (q : Int) (s1 : St) (e : Ending) (w' : World) : Prop :=
  e = .returned (.int .i64 q) ∧ ∃ g', GS w w' (foot p mb g) ∧ GN w g g' ∧ BkS w' n0 p mb g' (if q = 0 then rs ++ [r] else rs) (if q = 0 then s1 else s)
theorem Did.fail {w : World} {n0 p mb : Nat} {g : Option Nat} {rs : List Rec} {s : St} {r : Rec} {q q' : Int} {s1 : St} (h : BkS w n0 p mb g rs s) (hq : q' = q) (hn : q ≠ 0) : Did w n0 p mb g rs s r q' s1 (.returned (.int .i64 q)) w :=
  ⟨by rw [hq], g, GS.refl _ _, GN.refl _ _, by rw [if_neg (by rw [hq]; exact hn), if_neg (by rw [hq]; exact hn)]; exact h⟩
theorem Did.done {w w1 w2 : World} {n0 p mb : Nat} {g g' : Option Nat} {rs : List Rec} {s : St} {r : Rec} {q : Int} {s1 : St} (hq : q = 0) (hp : play rs = some s) (hd : doR s r = some s1) (h1 : GS w w1 (foot p mb g)) (h2 : BkT w2 n0 p mb g' (rs ++ [r]) s1) (h3 : GS w1 w2 (foot p mb g)) (h4 : GN w1 g g') : Did w n0 p mb g rs s r q s1 (.returned (.int .i64 0)) w2 :=
  ⟨by rw [hq], g', h1.same h3, fun j hj => (h4 j hj).imp id (fun h => Nat.le_trans h1.size h), by rw [if_pos hq, if_pos hq]; exact ⟨h2, by rw [play_snoc, hp]; exact hd⟩⟩
set_option maxHeartbeats 2000000 in
theorem setB_any (n0 p mb : Nat) (g : Option Nat) (rs : List Rec) (s : St) (k v : ByteArray) (w : World) (h : BkS w n0 p mb g rs s) (hk : k.size ≤ maxLen) (hrs : rs.length ≤ 2097152) :
    Calls Try.prog 58 #[ptr p, .string k, .string v] w (Did w n0 p mb g rs s (.set k v) (setE s k v) (setS s k v)) := by
  obtain ⟨a, u, hb, _⟩ := h.t.blk
  have p0 := hb.cell 0
  have hlk := h.t.mp.look_ok (t := 103) (e := 9) (k := k) Try.underlying9 Try.underlying103 (z := .string ByteArray.empty) rfl hk
  have hln := h.t.mp.len_ (t := 103) (e := 9) Try.underlying103 3
  have e1 : (vF s.1 k).getD (.string ByteArray.empty) = .string ((s.1 k).getD ByteArray.empty) := by unfold vF; cases s.1 k <;> rfl
  rw [e1, vF_some] at hlk
  have H := Lib.hid h
  have hc100 := (inv_play h.pl).many
  clear h hb e1
  go_enter Try.func58, Try.ntmps58
  by_cases h1 : k.size = 0
  · have he : setE s k v = 1 := by unfold setE; rw [if_pos (.inl h1)]
    have hE := isEmpty_yes k h1
    have HE := Lib.hid he
    clear he h1
    go_wp2_with fail
    go_ret
    exact Did.fail H.out HE.out (by decide)
  · have hE := isEmpty_no k (by omega)
    by_cases h2 : 50 < k.size
    · have he : setE s k v = 1 := by unfold setE; rw [if_pos (.inr h2)]
      have hd : decide ((50 : Int) < (k.size : Int)) = true := by rw [decide_eq_true_iff]; omega
      have HE := Lib.hid he
      clear he h1 h2
      go_wp2_with fail
      go_ret
      exact Did.fail H.out HE.out (by decide)
    · have hd : decide ((50 : Int) < (k.size : Int)) = false := by rw [decide_eq_false_iff_not]; omega
      by_cases h3 : 900 < v.size
      · have he : setE s k v = 2 := by unfold setE; rw [if_neg (by omega), if_pos h3]
        have hd2 : decide ((900 : Int) < (v.size : Int)) = true := by rw [decide_eq_true_iff]; omega
        have HE := Lib.hid he
        clear he h1 h2 h3
        go_wp2_with fail
        go_ret
        exact Did.fail H.out HE.out (by decide)
      · have hd2 : decide ((900 : Int) < (v.size : Int)) = false := by rw [decide_eq_false_iff_not]; omega
        by_cases h4 : s.1 k = none ∧ s.2 = 100
        · have he : setE s k v = 6 := by unfold setE; rw [if_neg (by omega), if_neg h3, if_pos h4]
          have HE := Lib.hid he
          obtain ⟨h5, h6⟩ := h4
          rw [h5] at hlk
          rw [h6] at hln
          clear he h1 h2 h3 h5 h6
          go_wp2_with fail
          go_ret
          exact Did.fail H.out HE.out (by decide)
        · have he : setE s k v = 0 := by unfold setE; rw [if_neg (by omega), if_neg h3, if_neg h4]
          have HE := Lib.hid he
          have hkz : k.size ≤ 50 := by omega
          have hvz : v.size ≤ 900 := by omega
          have hfull : (s.1 k).isSome = false → ((s.2 : Int) == 100) = false := fun hq => by
            rw [beq_eq_false_iff_ne]
            intro e
            exact h4 ⟨by cases hq2 : s.1 k <;> simp_all, by omega⟩
          have hmx : s.2 < maxLen := by simp only [maxLen]; omega
          clear he h1 h2 h3 h4
          cases hq : (s.1 k).isSome
          · have hf := hfull hq
            rw [hq] at hlk
            clear hfull
            go_wp2_with (refine wpList_upd rfl (.tmp 44) (.tmp 45) (.tmp 46) rfl rfl H.out.t.mp Try.underlying9 Try.underlying103 k (.string v) rfl rfl hk hmx ?_; intro w2 hm2 hg2)
            have HT := Lib.hid (H.out.t.upd hm2 hg2)
            have HG := Lib.hid (GS.of_grown (S := foot p mb g) hg2 (fun j hj => by cases hj; exact .inl (by simp [foot])))
            clear hm2 hg2 p0
            refine (record_any 1 k v _ (by decide) hkz hvz).mono ?_
            rintro e w3 ⟨rfl, b3⟩
            have HT3 := Lib.hid (HT.out.below b3)
            have HG3 := Lib.hid (HG.out.same (GS.of_below b3 _))
            clear b3
            go_wp2_with fail
            refine (addB_any n0 p mb g rs (setS s k v) (.set k v) _ HT3.out hrs H.out.all (by rw [enc_len_set]; omega)).mono ?_
            rintro e w4 ⟨rfl, g', ht4, gs4, gn4⟩
            have HF := Lib.hid (Did.done (q := setE s k v) (r := .set k v) HE.out H.out.pl (doR_set_of HE.out) HG3.out ht4 gs4 gn4)
            clear ht4 gs4 gn4
            go_wp2_with fail
            go_ret
            exact HF.out
          · rw [hq] at hlk
            clear hfull
            go_wp2_with (refine wpList_upd rfl (.tmp 44) (.tmp 45) (.tmp 46) rfl rfl H.out.t.mp Try.underlying9 Try.underlying103 k (.string v) rfl rfl hk hmx ?_; intro w2 hm2 hg2)
            have HT := Lib.hid (H.out.t.upd hm2 hg2)
            have HG := Lib.hid (GS.of_grown (S := foot p mb g) hg2 (fun j hj => by cases hj; exact .inl (by simp [foot])))
            clear hm2 hg2 p0
            refine (record_any 1 k v _ (by decide) hkz hvz).mono ?_
            rintro e w3 ⟨rfl, b3⟩
            have HT3 := Lib.hid (HT.out.below b3)
            have HG3 := Lib.hid (HG.out.same (GS.of_below b3 _))
            clear b3
            go_wp2_with fail
            refine (addB_any n0 p mb g rs (setS s k v) (.set k v) _ HT3.out hrs H.out.all (by rw [enc_len_set]; omega)).mono ?_
            rintro e w4 ⟨rfl, g', ht4, gs4, gn4⟩
            have HF := Lib.hid (Did.done (q := setE s k v) (r := .set k v) HE.out H.out.pl (doR_set_of HE.out) HG3.out ht4 gs4 gn4)
            clear ht4 gs4 gn4
            go_wp2_with fail
            go_ret
            exact HF.out
set_option maxHeartbeats 2000000 in
theorem delB_any (n0 p mb : Nat) (g : Option Nat) (rs : List Rec) (s : St) (k : ByteArray) (w : World) (h : BkS w n0 p mb g rs s) (hk : k.size ≤ maxLen) (hrs : rs.length ≤ 2097152) :
    Calls Try.prog 59 #[ptr p, .string k] w (Did w n0 p mb g rs s (.del k) (delE s k) (delS s k)) := by
  obtain ⟨a, u, hb, _⟩ := h.t.blk
  have p0 := hb.cell 0
  have hlk := h.t.mp.look_ok (t := 103) (e := 9) (k := k) Try.underlying9 Try.underlying103 (z := .string ByteArray.empty) rfl hk
  have e1 : (vF s.1 k).getD (.string ByteArray.empty) = .string ((s.1 k).getD ByteArray.empty) := by unfold vF; cases s.1 k <;> rfl
  rw [e1, vF_some] at hlk
  have H := Lib.hid h
  clear hb e1
  cases hq : s.1 k with
  | none =>
    have HE : Hid (delE s k = 4) := by show _ = _; unfold delE; rw [if_pos hq]
    rw [hq] at hlk
    clear hq h
    go_enter Try.func59, Try.ntmps59
    go_wp2_with fail
    go_ret
    exact Did.fail H.out HE.out (by decide)
  | some x =>
    have HE : Hid (delE s k = 0) := by show _ = _; unfold delE; rw [if_neg (by rw [hq]; simp)]
    have hkz : k.size ≤ 50 := ((inv_play h.pl).key k x hq).2.1
    have HQ : Hid ((s.1 k).isSome = true) := by show _ = _; rw [hq]; rfl
    rw [hq] at hlk
    clear hq h
    go_enter Try.func59, Try.ntmps59
    go_wp2_with (refine wpList_del rfl (.tmp 21) (.tmp 22) rfl rfl H.out.t.mp Try.underlying9 Try.underlying103 k rfl hk ?_; intro w2 hm2 hg2)
    have HT := Lib.hid (H.out.t.rem HQ.out hm2 hg2)
    have HG := Lib.hid (GS.of_grown (S := foot p mb g) hg2 (fun j hj => by cases hj; exact .inl (by simp [foot])))
    clear hm2 hg2 p0
    refine (record_any 2 k ByteArray.empty _ (by decide) hkz (by decide)).mono ?_
    rintro e w3 ⟨rfl, b3⟩
    have HEN : Hid (mkS (Lg.nb 2 :: Lg.nb k.size :: (sl k ++ sl ByteArray.empty)) = mkS (enc (.del k))) := by show _ = _; rw [sl_empty, List.append_nil]; rfl
    rw [HEN.out]
    have HT3 := Lib.hid (HT.out.below b3)
    have HG3 := Lib.hid (HG.out.same (GS.of_below b3 _))
    clear b3
    go_wp2_with fail
    refine (addB_any n0 p mb g rs (delS s k) (.del k) _ HT3.out hrs H.out.all (by rw [enc_len_del]; omega)).mono ?_
    rintro e w4 ⟨rfl, g', ht4, gs4, gn4⟩
    have HF := Lib.hid (Did.done (q := delE s k) (r := .del k) HE.out H.out.pl (doR_del_of HE.out) HG3.out ht4 gs4 gn4)
    clear ht4 gs4 gn4
    go_wp2_with fail
    go_ret
    exact HF.out
theorem imageB_any (n0 p mb : Nat) (g : Option Nat) (rs : List Rec) (s : St) (w : World) (h : BkT w n0 p mb g rs s) :
    Calls Try.prog 60 #[ptr p] w fun e w' => e = .returned (.string (mkS (imgL rs))) ∧ BkT w' n0 p mb g rs s ∧ GS w w' g.toList := by
  obtain ⟨a, u, hb, ha, ho, hv, hn⟩ := h.blk
  have H := Lib.hid h
  have HB := Lib.hid hb
  have HO := Lib.hid ho
  clear h hb ho
  go_enter Try.func60, Try.ntmps60
  go_wp2_with fail
  refine (string_any' n0 p _ _ a u (imgL rs) _ HB.out HO.out hn).mono ?_
  rintro e w1 ⟨rfl, hb1, ho1, g1⟩
  have hap := H.out.apart
  rw [hv] at g1
  have HM := Lib.hid (MapS.gs H.out.mp g1 (by simp; exact hap.2.2))
  have HB1 := Lib.hid hb1
  have HO1 := Lib.hid ho1
  have HG := Lib.hid g1
  clear hb1 ho1 g1
  go_wp2_with fail
  go_ret
  exact ⟨rfl, ⟨⟨a, u, HB1.out, ha, HO1.out, hv, hn⟩, HM.out, H.out.b0⟩, HG.out⟩
theorem keysB_any (n0 p mb : Nat) (g : Option Nat) (rs : List Rec) (s : St) (w : World) (h : BkT w n0 p mb g rs s) (hc : s.2 ≤ 100) :
    Calls Try.prog 28 #[ptr p] w fun e w' => ∃ v ks, e = .returned v ∧ Owns w' w.heap.size 9 1 Go.Proofs.Ythhhlaoiampinaa.es v ks ∧ Ky.Sorted ks ∧ ks.length = s.2 ∧ (∀ k, k ∈ ks ↔ (s.1 k).isSome = true) ∧ Below w.heap.size w w' := by
  obtain ⟨a, u, hb, _⟩ := h.blk
  have p0 := hb.cell 0
  obtain ⟨D, hown, hsz, hat, hh⟩ := h.mp
  have HD := Lib.hid hown
  have HSP := Lib.hid (fun (ss : List (List UInt8)) (hp : ss.Perm (strKeys D)) => Ky.keys_spec (f := vF s.1) hown hsz hh hp)
  have hsz' : Maps.size D ≤ 100 := by omega
  clear h hb hown hsz hat hh
  go_enter Try.func28, Try.ntmps28
  go_wp2_with fail
  refine (callsIn_wide.1 (Try.maps_Keys_65 _ _)).mono ?_
  rintro e w3 ⟨rfl, rfl⟩
  go_wp2_with fail
  refine (callsIn_wide.1 (Try.slices_Sorted_keys_64_65 mb _ D _ _ HD.out (by simp only [maxLen]; omega) (by omega))).mono ?_
  rintro e w4 ⟨vs, ss, rfl, hperm, hrow, -, b4⟩
  have HO4 := Lib.hid ((Ky.sorted_row hrow).mono (by simp : w.heap.size ≤ (w.alloc (.cells #[.map (some mb)] 103)).heap.size))
  have HB4 := Lib.hid (((Below.refl _ w).alloc (Nat.le_refl _) (.cells #[.map (some mb)] 103)).trans (b4.mono (by simp)))
  have HS4 := Lib.hid (HSP.out ss hperm)
  clear hrow hperm b4
  go_wp2_with fail
  go_ret
  refine ⟨_, _, rfl, HO4.out, HS4.out.1, HS4.out.2.1, fun k => ?_, HB4.out⟩
  rw [HS4.out.2.2 k, vF_some]
end Bk
end Go.Proofs.Ythhhlaoiampinaa
namespace Go.Proofs.Ythhhlaoiampinaa
set_option maxRecDepth 20000
open Go.RowKit Go.Shelf
namespace Bk
theorem mkS_get (l : List UInt8) (i : Nat) (h : i < l.length) : (mkS l)[i]'(by rw [mkS_size]; exact h) = l[i] := by
  have := sl_getElem (mkS l) i (by rw [mkS_size]; exact h)
  rw [← this]
  simp [sl_mkS]
section
variable (T : ByteArray) (kd : UInt8) (k v : ByteArray)
/-- A record's text, read. -/
structure RecT : Prop where
  sz : T.size = 2 + (k.size + v.size)
  i0 : ∀ W : World, (Instr.index 9 (.string T) (.int .i64 0)).run Try.prog W = .ok (bv kd) W
  i1 : ∀ W : World, (Instr.index 9 (.string T) (.int .i64 1)).run Try.prog W = .ok (.int .u8 (k.size : Int)) W
  s1 : ∀ W : World, (Instr.slice 9 (.string T) (some (.int .i64 2)) (some (.int .i64 (2 + (k.size : Int)))) none).run Try.prog W = .ok (.string k) W
  s2 : ∀ W : World, (Instr.slice 9 (.string T) (some (.int .i64 (2 + (k.size : Int)))) none none).run Try.prog W = .ok (.string v) W
end
theorem recT_of (kd : UInt8) (k v : ByteArray) (hk : k.size ≤ 50) : RecT (mkS (kd :: Lg.nb k.size :: (sl k ++ sl v))) kd k v := by
  have hl : (kd :: Lg.nb k.size :: (sl k ++ sl v)).length = 2 + (k.size + v.size) := by simp [sl_len]; omega
  have hz : (mkS (kd :: Lg.nb k.size :: (sl k ++ sl v))).size = 2 + (k.size + v.size) := by rw [mkS_size, hl]
  refine ⟨hz, fun W => ?_, fun W => ?_, fun W => ?_, fun W => ?_⟩
  · rw [run_index_string (w := W) 9 _ .i64 0 Try.underlying9, dif_pos ⟨by decide, by rw [hz]; omega⟩]
    have := mkS_get (kd :: Lg.nb k.size :: (sl k ++ sl v)) 0 (by rw [hl]; omega)
    simp only [Int.toNat_zero]
    rw [this]
    rfl
  · rw [run_index_string (w := W) 9 _ .i64 1 Try.underlying9, dif_pos ⟨by decide, by rw [hz]; omega⟩]
    have := mkS_get (kd :: Lg.nb k.size :: (sl k ++ sl v)) 1 (by rw [hl]; omega)
    simp only [Int.toNat_one]
    rw [this]
    show Result.ok (Value.int .u8 ((Lg.nb k.size).toNat : Int)) W = _
    rw [Lg.nb_toNat, Nat.mod_eq_of_lt (by omega)]
  · rw [run_slice_string (w := W) 9 _ .i64 .i64 2 (2 + (k.size : Int)) Try.underlying9 (by decide) (by omega) (by rw [hz]; omega)]
    congr 2
    apply sl_inj
    have e : (2 + (k.size : Int)).toNat = 2 + k.size := by omega
    rw [e, show (2 : Int).toNat = 2 from rfl, sl_extract, sl_mkS]
    simp [sl_len]
  · rw [run_slice_string_l (w := W) (t := 9) (s := mkS (kd :: Lg.nb k.size :: (sl k ++ sl v))) Try.underlying9 .i64 (2 + (k.size : Int)) (by omega) (by rw [hz]; omega)]
    congr 2
    apply sl_inj
    have e : (2 + (k.size : Int)).toNat = 2 + k.size := by omega
    rw [e, sl_extract_end, sl_mkS]
    have : 2 + k.size = (sl k).length + 1 + 1 := by rw [sl_len]; omega
    rw [this, List.drop_succ_cons, List.drop_succ_cons, List.drop_left]
def Again (w : World) (n0 p mb : Nat) (g : Option Nat) (rs : List Rec) (s1 : St) (r : Rec) (e : Ending) (w' : World) : Prop :=
  e = .returned (.bool true) ∧ ∃ g', GS w w' (foot p mb g) ∧ GN w g g' ∧ BkS w' n0 p mb g' (rs ++ [r]) s1
end Bk
end Go.Proofs.Ythhhlaoiampinaa
namespace Go.Proofs.Ythhhlaoiampinaa
set_option maxRecDepth 20000
open Go.RowKit Go.Shelf
namespace Bk
/-! ### Compaction, plain. -/
def cl (f : Vals) (ks : List ByteArray) : List Rec := ks.map fun k => .set k ((f k).getD ByteArray.empty)
def inL (a : List ByteArray) (k : ByteArray) : Bool := a.any fun x => decide (x = k)
theorem inL_iff (a : List ByteArray) (k : ByteArray) : inL a k = true ↔ k ∈ a := by
  unfold inL
  rw [List.any_eq_true]
  constructor
  · rintro ⟨x, hx, e⟩; rw [← of_decide_eq_true e]; exact hx
  · exact fun h => ⟨k, h, by simp⟩
def restr (f : Vals) (a : List ByteArray) : Vals := fun k => if inL a k then f k else none
theorem play_cl {s : St} (hi : Inv s) {ks : List ByteArray} (hn : ks.Nodup) (hm : ∀ k ∈ ks, (s.1 k).isSome = true) (hl : ks.length ≤ 100) : ∀ (b a : List ByteArray), a ++ b = ks → playFrom (restr s.1 a, a.length) (cl s.1 b) = some (restr s.1 ks, ks.length)
  | [], a, h => by
    rw [List.append_nil] at h
    subst h
    rfl
  | k :: b, a, h => by
    have hk : k ∈ ks := by rw [← h]; simp
    have hka : inL a k = false := by
      cases hq : inL a k with
      | false => rfl
      | true =>
        rw [← h, List.nodup_append] at hn
        exact absurd rfl (hn.2.2 k ((inL_iff a k).1 hq) k (by simp))
    obtain ⟨v, hv⟩ := Option.isSome_iff_exists.1 (hm k hk)
    have hs := hi.key k v hv
    have hr : restr s.1 a k = none := by unfold restr; rw [hka]; rfl
    have hal : a.length < ks.length := by rw [← h, List.length_append, List.length_cons]; omega
    have he : setE (restr s.1 a, a.length) k v = 0 := by
      unfold setE
      rw [if_neg (by omega), if_neg (by omega), if_neg (by rintro ⟨_, h2⟩; simp only at h2; omega)]
    show playFrom (restr s.1 a, a.length) (.set k ((s.1 k).getD ByteArray.empty) :: cl s.1 b) = _
    rw [hv, Option.getD_some, playFrom_cons, doR_set_of he]
    have e1 : setS (restr s.1 a, a.length) k v = (restr s.1 (a ++ [k]), (a ++ [k]).length) := by
      show (vput (restr s.1 a) k v, if (restr s.1 a k).isSome = true then a.length else a.length + 1) = _
      rw [hr]
      refine Prod.ext ?_ (by simp)
      funext x
      show vput (restr s.1 a) k v x = restr s.1 (a ++ [k]) x
      unfold vput restr
      by_cases hx : x = k
      · subst hx
        rw [if_pos rfl, if_pos ((inL_iff _ _).2 (by simp)), hv]
      · rw [if_neg hx]
        have : inL (a ++ [k]) x = inL a x := by unfold inL; rw [List.any_append]; simp; exact fun e => absurd e.symm hx
        rw [this]
    rw [e1]
    exact play_cl hi hn hm hl b (a ++ [k]) (by rw [← h]; simp)
theorem play_compact {s : St} (hi : Inv s) {ks : List ByteArray} (hn : ks.Nodup) (hm : ∀ k, k ∈ ks ↔ (s.1 k).isSome = true) (hl : ks.length = s.2) : play (cl s.1 ks) = some s := by
  have h0 : (restr s.1 [], ([] : List ByteArray).length) = s0 := by
    refine Prod.ext ?_ rfl
    funext k
    rfl
  unfold play
  rw [← h0, play_cl hi hn (fun k hk => (hm k).1 hk) (by rw [hl]; exact hi.many) ks [] rfl]
  congr 1
  refine Prod.ext ?_ hl
  funext k
  show restr s.1 ks k = s.1 k
  unfold restr
  by_cases hk : k ∈ ks
  · rw [if_pos ((inL_iff _ _).2 hk)]
  · rw [if_neg (fun h => hk ((inL_iff _ _).1 h))]
    cases hq : s.1 k with
    | none => rfl
    | some v => exact absurd ((hm k).2 (by rw [hq]; rfl)) hk
def tot (rs : List Rec) : Nat := (rs.map fun r => (enc r).length + 8).sum
theorem tot_img (rs : List Rec) : (imgL rs).length = tot rs := by
  have key : ∀ (rs : List Rec) (k : Nat), (Lg.writeL k (rs.map enc)).length = tot rs := by
    intro rs
    induction rs with
    | nil => intro k; rfl
    | cons r l ih =>
      intro k
      rw [List.map_cons]
      unfold Lg.writeL
      rw [List.length_append, ih, Lg.frame_len]
      simp [tot]
  exact key rs 0
theorem tot_app (a b : List Rec) : tot (a ++ b) = tot a + tot b := by simp [tot]
theorem cl_app (f : Vals) (a b : List ByteArray) : cl f (a ++ b) = cl f a ++ cl f b := by simp [cl]
theorem cl_congr {f g : Vals} {a : List ByteArray} (h : ∀ k ∈ a, f k = g k) : cl f a = cl g a := by
  unfold cl
  exact List.map_congr_left fun k hk => by rw [h k hk]
theorem tot_cl1 (f : Vals) (k : ByteArray) : tot (cl f [k]) = 10 + k.size + ((f k).getD ByteArray.empty).size := by
  simp only [cl, tot, List.map_cons, List.map_nil, List.sum_cons, List.sum_nil, enc_len_set]; omega
theorem tot_compact : ∀ (n : Nat) {rs : List Rec} {s : St}, rs.length = n → play rs = some s → ∀ ks : List ByteArray, ks.Nodup → (∀ k, k ∈ ks ↔ (s.1 k).isSome = true) → tot (cl s.1 ks) ≤ tot rs
  | 0, rs, s, hl, hp, ks, hn, hm => by
    obtain rfl : rs = [] := List.eq_nil_of_length_eq_zero hl
    have hp' : some s0 = some s := hp
    injection hp' with hp'
    subst hp'
    cases ks with
    | nil => exact Nat.le_refl _
    | cons k l => have := (hm k).1 (by simp); cases this
  | n + 1, rs, s, hl, hp, ks, hn, hm => by
    have hne : rs ≠ [] := by rintro rfl; simp at hl
    obtain ⟨l, r, rfl⟩ : ∃ l r, rs = l ++ [r] := ⟨rs.dropLast, rs.getLast hne, (List.dropLast_concat_getLast hne).symm⟩
    have hll : l.length = n := by simpa using hl
    rw [play_snoc] at hp
    cases hq : play l with
    | none => rw [hq] at hp; cases hp
    | some t =>
      rw [hq] at hp
      have hp' : doR t r = some s := hp
      have ih := fun ks h1 h2 => tot_compact n hll hq ks h1 h2
      rw [tot_app]
      cases r with
      | set k v =>
        obtain ⟨he, rfl⟩ := doR_set hp'
        have hk : k ∈ ks := (hm k).2 (by simp [setS, vput])
        obtain ⟨a, b, rfl⟩ := List.append_of_mem hk
        have hn' := hn
        rw [List.nodup_append] at hn
        obtain ⟨na, nkb, nd⟩ := hn
        rw [List.nodup_cons] at nkb
        have hnea : ∀ x ∈ a, x ≠ k := fun x hx => nd x hx k (by simp)
        have hneb : ∀ x ∈ b, x ≠ k := fun x hx e => nkb.1 (e ▸ hx)
        have ea : cl (setS t k v).1 a = cl t.1 a := cl_congr fun x hx => by simp [setS, vput, hnea x hx]
        have eb' : cl (setS t k v).1 b = cl t.1 b := cl_congr fun x hx => by simp [setS, vput, hneb x hx]
        have e1 : tot (cl (setS t k v).1 (a ++ k :: b)) = tot (cl t.1 a) + (10 + k.size + v.size) + tot (cl t.1 b) := by
          rw [show a ++ k :: b = a ++ ([k] ++ b) by simp, cl_app, cl_app, tot_app, tot_app, ea, eb', tot_cl1]
          simp [setS, vput]
          omega
        have e2 : tot [Rec.set k v] = 10 + k.size + v.size := by simp only [tot, List.map_cons, List.map_nil, List.sum_cons, List.sum_nil, enc_len_set]; omega
        rw [e1, e2]
        have hmem : ∀ x, x ∈ a ++ k :: b ↔ x = k ∨ (t.1 x).isSome = true := fun x => by
          rw [hm x]
          show (vput t.1 k v x).isSome = true ↔ _
          unfold vput
          by_cases hx : x = k
          · simp [hx]
          · simp [hx]
        cases ht : (t.1 k).isSome with
        | false =>
          have := ih (a ++ b) (by rw [List.nodup_append]; exact ⟨na, nkb.2, fun x hx y hy => nd x hx y (List.mem_cons_of_mem _ hy)⟩) (fun x => by
            have h1 := hmem x
            by_cases hx : x = k
            · subst hx
              rw [ht]
              constructor
              · intro h2
                rcases List.mem_append.1 h2 with h2 | h2
                · exact absurd rfl (hnea x h2)
                · exact absurd rfl (hneb x h2)
              · intro h2; cases h2
            · rw [List.mem_append, List.mem_cons] at h1
              rw [List.mem_append]
              simp only [hx, false_or] at h1
              exact h1)
          rw [cl_app, tot_app] at this
          omega
        | true =>
          have := ih (a ++ k :: b) hn' (fun x => by
            rw [hmem x]
            constructor
            · rintro (rfl | h1)
              · exact ht
              · exact h1
            · exact .inr)
          rw [show a ++ k :: b = a ++ ([k] ++ b) by simp, cl_app, cl_app, tot_app, tot_app] at this
          omega
      | del k =>
        obtain ⟨he, rfl⟩ := doR_del hp'
        obtain ⟨v, hv⟩ := delE_ok he
        have hkn : k ∉ ks := fun h => by have := (hm k).1 h; simp [delS, vdel] at this
        have ea : cl (delS t k).1 ks = cl t.1 ks := cl_congr fun x hx => by
          have : x ≠ k := fun e => hkn (e ▸ hx)
          simp [delS, vdel, this]
        have := ih (k :: ks) (List.nodup_cons.2 ⟨hkn, hn⟩) (fun x => by
          rw [List.mem_cons, hm x]
          show x = k ∨ (vdel t.1 k x).isSome = true ↔ _
          unfold vdel
          by_cases hx : x = k
          · subst hx; simp [hv]
          · simp [hx])
        rw [show k :: ks = [k] ++ ks by simp, cl_app, tot_app] at this
        rw [ea]
        omega
/-! ### The walks. -/
theorem not_foot {w : World} {n0 p mb j : Nat} {g : Option Nat} {rs : List Rec} {s : St} (h : BkT w n0 p mb g rs s) {cs : Array Value} {t : TypeId} {fr : Nat × Nat} (hj : w.heap[j]? = some (.cells cs t fr)) (h1 : t ≠ 122) (h2 : t ≠ 5) : j ∉ foot p mb g := by
  obtain ⟨a, v, hb, ha, ho, hv, hn⟩ := h.blk
  intro hm
  simp only [foot, List.mem_cons, Option.mem_toList] at hm
  rcases hm with rfl | rfl | hm
  · unfold Blk at hb
    rw [hj] at hb
    injection hb with hb
    injection hb with _ e
    exact h1 e
  · obtain ⟨es, ck, hmm⟩ := h.mp.isMapObj
    rw [hmm] at hj
    cases hj
  · rcases ho.2 with ⟨rfl, _⟩ | ⟨g', cap, cur, fz, rfl, _, hh, _⟩
    · rw [← hv] at hm; cases hm
    · have : g' = j := by rw [← hv] at hm; simpa [Value.ownBlock] using hm
      subst this
      rw [hh] at hj
      injection hj with hj
      injection hj with _ e
      exact h2 e.symm
theorem Owns.keepB {α : Type} {w w' : World} {n0 p mb base size : Nat} {g : Option Nat} {rs : List Rec} {s : St} {e : TypeId} {en : α → List Value} {v : Value} {xs : List α} (ho : Owns w base e size en v xs) (h : BkT w n0 p mb g rs s) (hg : GS w w' (foot p mb g)) (h1 : e ≠ 122) (h2 : e ≠ 5) : Owns w' base e size en v xs := by
  refine Owns.gs ho hg fun j hj => ?_
  rcases ho.2 with ⟨rfl, _⟩ | ⟨g', cap, cur, rfl, _, hh, _⟩
  · cases hj
  · have : g' = j := by simpa [Value.ownBlock] using hj
    subst this
    exact not_foot h hh h1 h2
end Bk
end Go.Proofs.Ythhhlaoiampinaa
namespace Go.Proofs.Ythhhlaoiampinaa
set_option maxRecDepth 20000
open Go.RowKit Go.Shelf
namespace Bk
theorem enc_cl {s : St} (hi : Inv s) {ks : List ByteArray} (hm : ∀ k ∈ ks, (s.1 k).isSome = true) : ∀ q ∈ cl s.1 ks, (enc q).length ≤ 1000 := by
  intro q hq
  obtain ⟨k, hk, rfl⟩ := List.mem_map.1 hq
  obtain ⟨v, hv⟩ := Option.isSome_iff_exists.1 (hm k hk)
  have := hi.key k v hv
  rw [hv, Option.getD_some, enc_len_set]
  omega
end Bk
end Go.Proofs.Ythhhlaoiampinaa
namespace Go.Proofs.Ythhhlaoiampinaa
set_option maxRecDepth 20000
open Go.RowKit Go.Shelf
namespace Bk
def recOf (x : Stp) : Rec := if 0 < x.k % 3 then .set x.s x.t else .del x.s
abbrev Run := List Rec × St
def runS (a : Run) (x : Stp) : Run := match doR a.2 (recOf x) with | none => a | some s' => (a.1 ++ [recOf x], s')
def runF (a : Run) (xs : List Stp) : Run := xs.foldl runS a
def run (xs : List Stp) : Run := runF ([], s0) xs
theorem runS_set {a : Run} {x : Stp} (h : 0 < x.k % 3) : runS a x = ((if setE a.2 x.s x.t = 0 then a.1 ++ [.set x.s x.t] else a.1), (if setE a.2 x.s x.t = 0 then setS a.2 x.s x.t else a.2)) := by
  unfold runS recOf
  rw [if_pos h]
  by_cases hq : setE a.2 x.s x.t = 0
  · rw [doR_set_of hq, if_pos hq, if_pos hq]
  · have : doR a.2 (.set x.s x.t) = none := by show (if _ then _ else _) = _; rw [if_neg hq]
    rw [this, if_neg hq, if_neg hq]
theorem runS_del {a : Run} {x : Stp} (h : ¬ 0 < x.k % 3) : runS a x = ((if delE a.2 x.s = 0 then a.1 ++ [.del x.s] else a.1), (if delE a.2 x.s = 0 then delS a.2 x.s else a.2)) := by
  unfold runS recOf
  rw [if_neg h]
  by_cases hq : delE a.2 x.s = 0
  · rw [doR_del_of hq, if_pos hq, if_pos hq]
  · have : doR a.2 (.del x.s) = none := by show (if _ then _ else _) = _; rw [if_neg hq]
    rw [this, if_neg hq, if_neg hq]
theorem run_snoc (xs : List Stp) (x : Stp) : run (xs ++ [x]) = runS (run xs) x := by unfold run runF; rw [List.foldl_append]; rfl
theorem runF_len : ∀ (xs : List Stp) (a : Run), (runF a xs).1.length ≤ a.1.length + xs.length
  | [], a => Nat.le_refl _
  | x :: xs, a => by
    have h := runF_len xs (runS a x)
    have h2 : (runS a x).1.length ≤ a.1.length + 1 := by
      unfold runS
      cases doR a.2 (recOf x) <;> simp
    show (runF (runS a x) xs).1.length ≤ _
    rw [List.length_cons]
    omega
theorem run_len (xs : List Stp) : (run xs).1.length ≤ xs.length := by have := runF_len xs ([], s0); unfold run; simpa using this
def imgs (rs : List Rec) : List ByteArray := (List.range (rs.length + 1)).map fun j => mkS (imgL (rs.take j))
theorem imgs_nil : imgs [] = [ByteArray.empty] := rfl
theorem imgs_snoc (rs : List Rec) (r : Rec) : imgs (rs ++ [r]) = imgs rs ++ [mkS (imgL (rs ++ [r]))] := by
  unfold imgs
  rw [List.length_append, List.length_singleton, List.range_succ, List.map_append]
  congr 1
  · refine List.map_congr_left fun j hj => ?_
    have := List.mem_range.1 hj
    rw [List.take_append_of_le_length (by omega)]
  · rw [List.map_singleton, List.take_of_length_le (by simp)]
theorem imgs_len (rs : List Rec) : (imgs rs).length = rs.length + 1 := by unfold imgs; rw [List.length_map, List.length_range]
theorem BkS.grown {w w' : World} {n0 p mb base size : Nat} {g : Option Nat} {rs : List Rec} {s : St} {α : Type} {en : α → List Value} {v : Value} {xs : List α} (h : BkS w n0 p mb g rs s) (ho : Owns w base 9 size en v xs) (hg : w.grownBy w' v.ownBlock) : BkS w' n0 p mb g rs s := by
  refine h.gs (GS.of_grown (S := v.ownBlock.toList) hg (fun j hj => .inl (by simp [hj]))) fun j hj hm => ?_
  rw [Option.mem_toList] at hm
  rcases ho.2 with ⟨rfl, _⟩ | ⟨g', cap, cur, rfl, _, hh, _⟩
  · cases hm
  · have : g' = j := by simpa [Value.ownBlock] using hm
    subst this
    exact not_foot h.t hh (by decide) (by decide) hj
set_option maxHeartbeats 4000000 in
theorem booked_any (v : Value) (xs : List Stp) (w : World) (h : SlR w e_st v xs) (hl : xs.length ≤ 1048576) (hx : ∀ x ∈ xs, Wide x.k ∧ Wide x.a ∧ Wide x.b ∧ x.s.size ≤ maxLen ∧ x.t.size ≤ maxLen) :
    Calls Try.prog 23 #[v] w fun e w' => ∃ p mb g vi, e = .returned (.tuple #[ptr p, vi]) ∧ BkS w' w.heap.size p mb g (run xs).1 (run xs).2 ∧ Owns w' w.heap.size 9 1 Go.Proofs.Ythhhlaoiampinaa.es vi (imgs (run xs).1) ∧ Below w.heap.size w w' := by
  have HV := Lib.hid (fun hn => h.rowN (size := 22) (fun _ => rfl) hn)
  have HX := Lib.hid hx
  obtain ⟨A, cp, rfl, hc⟩ := h.form
  clear h hx
  go_enter Try.func23, Try.ntmps23
  go_wp2_with fail
  refine (newB_any _).mono ?_
  rintro e w1 ⟨p, mb, rfl, h1, b1⟩
  have H1 := Lib.hid h1
  have HB1 := Lib.hid b1
  clear h1 b1
  go_wp2_with fail
  refine (setB_any _ p mb none [] s0 ByteArray.empty ByteArray.empty _ H1.out (by decide) (by simp)).mono ?_
  rintro e w2 ⟨rfl, g2, gs2, gn2, h2⟩
  have hse : setE s0 ByteArray.empty ByteArray.empty = 1 := by decide
  rw [hse] at h2 ⊢
  rw [if_neg (by decide), if_neg (by decide)] at h2
  have HB2 := Lib.hid (HB1.out.trans (gs2.bel HB1.out.size (fun j hj => (H1.out.t.gle j hj).1)))
  have H2 := Lib.hid h2
  clear gs2 gn2 h2 hse
  have HOI := Lib.hid (Owns.lit (enc := Go.Proofs.Ythhhlaoiampinaa.es) (size := 1) (e := 9) w2 w.heap.size #[.string ByteArray.empty] [ByteArray.empty] HB2.out.size (by simp [maxLen]) (by rfl) (by rfl))
  have HI2 := Lib.hid (H2.out.alloc (.cells #[.string ByteArray.empty] 9))
  have HBI := Lib.hid (HB2.out.alloc HB2.out.size (.cells #[.string ByteArray.empty] 9))
  go_wp2_with fail
  go_loopw [5, 20] (fun av iv wr => ∃ (k : Nat) (g : Option Nat), iv = .int .i64 (k : Int) ∧ k ≤ xs.length ∧ BkS wr w.heap.size p mb g (run (xs.take k)).1 (run (xs.take k)).2 ∧ Owns wr w.heap.size 9 1 Go.Proofs.Ythhhlaoiampinaa.es av (imgs (run (xs.take k)).1) ∧ Below w.heap.size w wr) (fun _ iv _ => xs.length - (intOf iv).toNat)
  case atStart => exact ⟨0, g2, rfl, Nat.zero_le _, HI2.out, HOI.out, HBI.out⟩
  case round =>
    obtain ⟨k, g, rfl, hk, hbk, how, hbel⟩ := hrel
    have HO := Lib.hid how
    have HBK := Lib.hid hbk
    have HBE := Lib.hid hbel
    clear hbk
    by_cases hlt : k < xs.length
    · obtain ⟨bb, off, c3, hv2, hc3, hbb, hcell⟩ := HV.out (by omega)
      injection hv2 with g1 g2' g3
      subst g1 g3
      have hC : wr.rangeAt bb (off + k * 22) (e_st xs[k]) := fun j v hv => (hbel.cell (p := ⟨bb, off + (k * 22) + j, none⟩) hbb).trans (by rw [Nat.add_assoc]; exact hcell k hlt j v hv)
      have hxk := HX.out xs[k] (List.getElem_mem hlt)
      have HRN : Hid (run (xs.take (k + 1)) = runS (run (xs.take k)) xs[k]) := by show _ = _; rw [List.take_add_one, List.getElem?_eq_getElem hlt]; exact run_snoc _ _
      have hrl := run_len (xs.take k)
      rw [List.length_take] at hrl
      clear hcell g2' HOI HI2 HBI
      generalize run (xs.take k) = rr at *
      generalize xs[k] = x at *
      obtain ⟨hx1, hx2, hx3, hx4, hx5⟩ := hxk
      have hO := Lib.hid (fun (W : World) => of_any x 3 W hx1 (by decide))
      have hB := Blk.new wr 63 (e_st x).toArray
      have hst : (storeCells ⟨wr.heap.size, 0, none⟩ (e_st x)).run Try.prog (wr.alloc (.cells stZ 63)) = .ok () (wr.alloc (.cells (e_st x).toArray 63)) :=
        run_storeCells_new (P := Try.prog) wr 63 stZ (e_st x).toArray (by kernel_rfl) (by simp [stZ, e_st]) (by simp [e_st, Value.oneCell'])
      unfold stZ at hst
      have H5 := Lib.hid (HBK.out.alloc (.cells (e_st x).toArray 63))
      have HO5 := Lib.hid (HO.out.alloc (.cells (e_st x).toArray 63))
      have HB5 := Lib.hid (HBE.out.alloc HBE.out.size (.cells (e_st x).toArray 63))
      clear how hbel
      go_wp2_with (first
        | refine wpList_load_mid rfl 63 (.tmp 22) rfl bb (off + k * 22) rfl (e_st x) _ hC Try.underlying63 rfl (by kernel_rfl) ?_
        | refine wpList_load_row rfl 63 (.tmp 7) rfl wr.heap.size rfl 63 (e_st x).toArray (0, 0) _ (heap_alloc_last wr _) Try.underlying63 rfl (by kernel_rfl) ?_)
      clear hst hC
      generalize wr.alloc _ = w5 at *
      refine (hO.out _).mono ?_
      rintro e w6 ⟨rfl, g6⟩
      have hB6 := hB.below g6 hB.lt
      have e3 : w6.cell? ⟨wr.heap.size, 3, none⟩ = some (.string x.s) := hB6.cell 3
      have e4 : w6.cell? ⟨wr.heap.size, 4, none⟩ = some (.string x.t) := hB6.cell 4
      have H6 := Lib.hid (H5.out.below g6)
      have HO6 := Lib.hid (HO5.out.below g6)
      have HB6 := Lib.hid (HB5.out.trans (g6.mono HB5.out.size))
      obtain ⟨xk, xa, xb, xS, xT, og, ou, oi⟩ := x
      dsimp only at hx1 hx2 hx3 hx4 hx5 e3 e4 ⊢
      clear hB hB6 g6 H5 HO5 HB5 HBK HO HBE hO hx1 hx2 hx3
      generalize hXX : (e_st _).toArray = X at *
      clear hXX
      generalize wr.heap.size = bx at *
      by_cases hmp : 0 < xk % 3
      · have hd : decide (0 < xk % 3) = true := by rw [decide_eq_true_iff]; exact hmp
        have HMP : Hid (0 < xk % 3) := hmp
        clear hmp
        · skip
          go_wp2_with fail
          refine (setB_any _ p mb g rr.1 rr.2 xS xT _ H6.out hx4 (by omega)).mono ?_
          rintro e w7 ⟨rfl, g7, gs7, gn7, h7⟩
          have HO7 := Lib.hid (Owns.keepB HO6.out H6.out.t gs7 (by decide) (by decide))
          have HB7 := Lib.hid (HB6.out.trans (gs7.bel HB6.out.size (fun j hj => (H6.out.t.gle j hj).1)))
          have HR7 := Lib.hid (runS_set (a := rr) (x := ⟨xk, xa, xb, xS, xT, og, ou, oi⟩) HMP.out)
          clear gs7 gn7 e3 e4
          by_cases hq : setE rr.2 xS xT = 0
          · rw [if_pos hq, if_pos hq] at h7
            have HF : Hid (run (xs.take (k + 1)) = (rr.1 ++ [Rec.set xS xT], (setS rr.2 xS xT))) := by show _ = _; rw [HRN.out, HR7.out, if_pos hq, if_pos hq]
            have H7 := Lib.hid h7
            rw [hq]
            clear h7 hq HR7
            go_wp2_with fail
            refine (imageB_any _ p mb g7 _ _ _ H7.out.t).mono ?_
            rintro e w8 ⟨rfl, h8, gs8⟩
            have gf8 : GS w7 w8 (foot p mb g7) := gs8.mono (by simp [foot]; exact fun j hj => .inr (.inr hj))
            have HO8 := Lib.hid (Owns.keepB HO7.out H7.out.t gf8 (by decide) (by decide))
            have HB8 := Lib.hid (HB7.out.trans (gf8.bel HB7.out.size (fun j hj => (H7.out.t.gle j hj).1)))
            have H8 : Hid (BkS w8 w.heap.size p mb g7 (rr.1 ++ [Rec.set xS xT]) (setS rr.2 xS xT)) := ⟨h8, H7.out.pl⟩
            have hn8 : w.heap.size ≤ w8.heap.size := HB8.out.size
            clear h8 gs8 gf8 H7 HO7 HB7
            go_wp2_with (at_builtin; go_must (refine wpList_append_slr rfl (.tmp 39) (.tmp 42) _ rfl w.heap.size 9 (.string ByteArray.empty) 1 16 Go.Proofs.Ythhhlaoiampinaa.es Try.underlying42 stringInfo rfl (by decide) (fun _ => rfl) _ (imgs rr.1) rfl (HO8.out.alloc _) _ [mkS (imgL (rr.1 ++ [Rec.set xS xT]))] rfl (SlR.lit w8 [.string (mkS (imgL (rr.1 ++ [Rec.set xS xT])))] _ [mkS (imgL (rr.1 ++ [Rec.set xS xT]))] rfl) (es_one _) (by rw [imgs_len]; simp only [maxLen, List.length_cons, List.length_nil]; omega) (by rw [imgs_len]; simp only [List.length_cons, List.length_nil]; omega) (by simp; omega) ?_); intro v9 w9 ho9 hg9)
            have hoa := HO8.out.alloc (.cells #[.string (mkS (imgL (rr.1 ++ [Rec.set xS xT])))] 9)
            have h9 := (H8.out.alloc (.cells #[.string (mkS (imgL (rr.1 ++ [Rec.set xS xT])))] 9)).grown hoa hg9
            have hb9 := (HB8.out.alloc hn8 (.cells #[.string (mkS (imgL (rr.1 ++ [Rec.set xS xT])))] 9)).grown hg9 (by simp; omega) (fun j hj => (HO8.out.lt j hj).1)
            exact ⟨⟨k + 1, g7, by simp, by omega, by rw [HF.out]; exact h9, by rw [HF.out, imgs_snoc]; exact ho9, hb9⟩, by simp only [intOf]; omega⟩
          · rw [if_neg hq, if_neg hq] at h7
            have HF : Hid (run (xs.take (k + 1)) = rr) := by show _ = _; rw [HRN.out, HR7.out, if_neg hq, if_neg hq]
            have hqb : (setE rr.2 xS xT == 0) = false := by rw [beq_eq_false_iff_ne]; exact hq
            have H7 := Lib.hid h7
            clear h7 hq HR7
            go_wp2_with fail
            exact ⟨⟨k + 1, g7, by simp, by omega, by rw [HF.out]; exact H7.out, by rw [HF.out]; exact HO7.out, HB7.out⟩, by simp only [intOf]; omega⟩
      · have hd : decide (0 < xk % 3) = false := by rw [decide_eq_false_iff_not]; exact hmp
        have HMP : Hid (xk % 3 ≤ 0) := Int.not_lt.1 hmp
        clear hmp
        · skip
          go_wp2_with fail
          refine (delB_any _ p mb g rr.1 rr.2 xS _ H6.out hx4 (by omega)).mono ?_
          rintro e w7 ⟨rfl, g7, gs7, gn7, h7⟩
          have HO7 := Lib.hid (Owns.keepB HO6.out H6.out.t gs7 (by decide) (by decide))
          have HB7 := Lib.hid (HB6.out.trans (gs7.bel HB6.out.size (fun j hj => (H6.out.t.gle j hj).1)))
          have HR7 := Lib.hid (runS_del (a := rr) (x := ⟨xk, xa, xb, xS, xT, og, ou, oi⟩) (Int.not_lt.2 HMP.out))
          clear gs7 gn7 e3 e4
          by_cases hq : delE rr.2 xS = 0
          · rw [if_pos hq, if_pos hq] at h7
            have HF : Hid (run (xs.take (k + 1)) = (rr.1 ++ [Rec.del xS], (delS rr.2 xS))) := by show _ = _; rw [HRN.out, HR7.out, if_pos hq, if_pos hq]
            have H7 := Lib.hid h7
            rw [hq]
            clear h7 hq HR7
            go_wp2_with fail
            refine (imageB_any _ p mb g7 _ _ _ H7.out.t).mono ?_
            rintro e w8 ⟨rfl, h8, gs8⟩
            have gf8 : GS w7 w8 (foot p mb g7) := gs8.mono (by simp [foot]; exact fun j hj => .inr (.inr hj))
            have HO8 := Lib.hid (Owns.keepB HO7.out H7.out.t gf8 (by decide) (by decide))
            have HB8 := Lib.hid (HB7.out.trans (gf8.bel HB7.out.size (fun j hj => (H7.out.t.gle j hj).1)))
            have H8 : Hid (BkS w8 w.heap.size p mb g7 (rr.1 ++ [Rec.del xS]) (delS rr.2 xS)) := ⟨h8, H7.out.pl⟩
            have hn8 : w.heap.size ≤ w8.heap.size := HB8.out.size
            clear h8 gs8 gf8 H7 HO7 HB7
            go_wp2_with (at_builtin; go_must (refine wpList_append_slr rfl (.tmp 39) (.tmp 42) _ rfl w.heap.size 9 (.string ByteArray.empty) 1 16 Go.Proofs.Ythhhlaoiampinaa.es Try.underlying42 stringInfo rfl (by decide) (fun _ => rfl) _ (imgs rr.1) rfl (HO8.out.alloc _) _ [mkS (imgL (rr.1 ++ [Rec.del xS]))] rfl (SlR.lit w8 [.string (mkS (imgL (rr.1 ++ [Rec.del xS])))] _ [mkS (imgL (rr.1 ++ [Rec.del xS]))] rfl) (es_one _) (by rw [imgs_len]; simp only [maxLen, List.length_cons, List.length_nil]; omega) (by rw [imgs_len]; simp only [List.length_cons, List.length_nil]; omega) (by simp; omega) ?_); intro v9 w9 ho9 hg9)
            have hoa := HO8.out.alloc (.cells #[.string (mkS (imgL (rr.1 ++ [Rec.del xS])))] 9)
            have h9 := (H8.out.alloc (.cells #[.string (mkS (imgL (rr.1 ++ [Rec.del xS])))] 9)).grown hoa hg9
            have hb9 := (HB8.out.alloc hn8 (.cells #[.string (mkS (imgL (rr.1 ++ [Rec.del xS])))] 9)).grown hg9 (by simp; omega) (fun j hj => (HO8.out.lt j hj).1)
            exact ⟨⟨k + 1, g7, by simp, by omega, by rw [HF.out]; exact h9, by rw [HF.out, imgs_snoc]; exact ho9, hb9⟩, by simp only [intOf]; omega⟩
          · rw [if_neg hq, if_neg hq] at h7
            have HF : Hid (run (xs.take (k + 1)) = rr) := by show _ = _; rw [HRN.out, HR7.out, if_neg hq, if_neg hq]
            have hqb : (delE rr.2 xS == 0) = false := by rw [beq_eq_false_iff_ne]; exact hq
            have H7 := Lib.hid h7
            clear h7 hq HR7
            go_wp2_with fail
            exact ⟨⟨k + 1, g7, by simp, by omega, by rw [HF.out]; exact H7.out, by rw [HF.out]; exact HO7.out, HB7.out⟩, by simp only [intOf]; omega⟩
    · obtain rfl : k = xs.length := by omega
      have htk : xs.take xs.length = xs := List.take_of_length_le (Nat.le_refl _)
      rw [htk] at HBK HO
      clear how hbel htk
      go_wp2_with fail
      go_ret2
      exact ⟨p, mb, g, _, rfl, HBK.out, HO.out, HBE.out⟩
end Bk
end Go.Proofs.Ythhhlaoiampinaa
