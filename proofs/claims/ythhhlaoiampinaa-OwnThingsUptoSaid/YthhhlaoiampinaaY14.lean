/- The pile's Drop, of what is there. -/
import Derived.Test.YthhhlaoiampinaaY13
import Derived.Test.YthhhlaoiampinaaY12
import Derived.Test.YthhhlaoiampinaaY1
namespace Go.Proofs.Ythhhlaoiampinaa
set_option maxRecDepth 20000
open Go.RowKit Go.Shelf
theorem gcell (w : World) (a : Addr) (v : Value) : w.grownBy (w.setCell a v) (some a.block) :=
  ⟨rfl, rfl, rfl, by simp [World.setCell], fun k _ hne => Below.heap_setCell _ _ _ _ (fun e => hne (by rw [e]))⟩
set_option maxHeartbeats 8000000 in
theorem dropP_ok (n0 p mb : Nat) (room : Int) (es : List Pe) (v : Value) (ks : List ByteArray) (w : World) (h : PileS w n0 p room mb es) (hv : SlR w Go.Proofs.Ythhhlaoiampinaa.es v ks) (hl : ks.length ≤ 1048576)
    (hz : ∀ k ∈ ks, k.size ≤ maxLen) (hc : ∀ x ∈ es, 1 ≤ x.c ∧ x.c ≤ 4611686018427387904) (hk : ∀ n ∈ ks, ∃ x ∈ es, x.n = n ∧ (cntK ks n : Int) ≤ x.c) :
    Calls Try.prog 52 #[ptr p, v] w fun e w' => e = .returned (.int .i64 0) ∧ RF RP n0 w w' ∧ PileS w' n0 p room mb (cutE (fun _ => true) ks es) := by
  have hmm := @run_makeMap Try.prog
  have hm0 := MapS.made w Try.prog 9
  have hA := (Below.refl _ w).alloc (Nat.le_refl _) (.map #[] 0)
  have HS := Lib.hid h
  have HC := Lib.hid hc
  have HK := Lib.hid hk
  have HZ := Lib.hid hz
  have HT := Lib.hid (fun hn => SlR.texts (xs := ks) hv hn)
  have hn0w : n0 ≤ w.heap.size := Nat.le_trans h.b0.1 (Nat.le_of_lt h.blk.lt)
  obtain ⟨Ak, ck, rfl, hck⟩ := SlR.form (xs := ks) hv
  clear h hc hk hz hv
  go_enter Try.func52, Try.ntmps52
  go_wp2_with fail
  have HL : Hid ((w.alloc (.map #[] 0)).heap.size = w.heap.size + 1) := by show _ = _; simp
  generalize w.alloc (.map #[] 0) = w1 at *
  obtain ⟨fb, hfb⟩ : ∃ fb, fb = w.heap.size := ⟨_, rfl⟩
  rw [← hfb] at hm0 ⊢
  have HFB := Lib.hid hfb
  have HA := Lib.hid hA
  clear hfb hA
  have hg1 : w1.grownBy w1 (some fb) := World.grownBy.refl _ _
  go_loopw [17] (fun iv wr => ∃ (k c : Nat), iv = .int .i64 (k : Int) ∧ k ≤ ks.length ∧ MapS Try.prog wr 9 fb (ocF (ks.take k)) c ∧ c ≤ k ∧ w1.grownBy wr (some fb)) (fun iv _ => ks.length - (intOf iv).toNat)
  case atStart => exact ⟨0, 0, rfl, Nat.zero_le _, hm0, Nat.le_refl _, hg1⟩
  case round =>
    obtain ⟨k, c, rfl, hk, hmp, hck2, hgr⟩ := hrel
    have HGR := Lib.hid hgr
    have HMP := Lib.hid hmp
    by_cases hlt : k < ks.length
    · obtain ⟨bb, off, c3, hv2, hc3, hbb, hcell⟩ := HT.out (by omega)
      injection hv2 with g1 g2 g3
      subst g1 g3
      have c0 := hgr.cell ((HA.out.cell (p := ⟨bb, off + k, none⟩) hbb).trans (hcell k hlt)) (by intro e; injection e with e; have := HFB.out; change bb = fb at e; omega)
      have HTK : Hid (ks.take (k + 1) = ks.take k ++ [ks[k]]) := by show _ = _; rw [List.take_add_one, List.getElem?_eq_getElem hlt]; rfl
      have hsz := HZ.out ks[k] (List.getElem_mem hlt)
      clear hcell g2 hgr hmp hc3
      generalize ks[k] = n at *
      have hlk := HMP.out.look (t := 129) (e := 3) (k := n) Try.underlying9 Try.underlying129 (z := .int .i64 0) rfl hsz
      rw [ocF_getD] at hlk
      have hcl : cntK (ks.take k) n ≤ k := Nat.le_trans (cntK_le _ _) (by rw [List.length_take]; omega)
      have hadd : IntKind.i64.wrap ((cntK (ks.take k) n : Int) + 1) = (cntK (ks.take k) n : Int) + 1 := by rw [IntKind.wrap_i64]; omega
      have hmx : c < maxLen := by simp only [maxLen]; omega
      go_wp2_with (refine wpList_upd rfl (.tmp 21) (.tmp 22) (.tmp 24) rfl rfl HMP.out Try.underlying9 Try.underlying129 n (.int .i64 ((cntK (ks.take k) n : Int) + 1)) rfl rfl hsz hmx ?_; intro w2 hm2 hg2)
      refine ⟨⟨k + 1, _, by simp, by omega, hm2.congr (fun x => by rw [HTK.out]; exact ocF_put _ _ _) rfl, by split <;> omega, gr_row HGR.out hg2 (fun j hj => by cases hj; exact .inr rfl)⟩, by simp only [intOf]; omega⟩
    · obtain rfl : k = ks.length := by omega
      have htk : ks.take ks.length = ks := List.take_of_length_le (Nat.le_refl _)
      rw [htk] at HMP
      have hb : Below w.heap.size w wr := HA.out.grown hgr HA.out.size (fun j hj => by cases hj; exact Nat.le_of_eq HFB.out.symm)
      have hwf : w.heap.size < wr.heap.size := by have := hgr.size; have := HL.out; omega
      have hps := HS.out.below hb
      have HB := Lib.hid hb
      clear hgr hmp hm0 hg1 htk hb hk hlt
      go_wp2_with (refine wpList_rangeS rfl (.tmp 26) rfl rfl HMP.out Try.underlying9 Try.underlying129 ?_; intro w6 hrg hg6 hz6)
      obtain ⟨rb, hrb⟩ : ∃ rb, rb = wr.heap.size := ⟨_, rfl⟩
      rw [← hrb] at hrg ⊢
      have hb6 : Below w.heap.size w w6 := HB.out.grown hg6 (by omega) (fun j hj => by cases hj)
      have HRB := Lib.hid hrb
      have HZ6 : Hid (w6.heap.size = rb + 1) := by show _ = _; rw [hz6, hrb]
      have hrw : w.heap.size < rb := by omega
      clear hrb hg6 hz6 hps HB
      simp only [Act.put, List.setIfInBounds_toArray, List.set_cons_zero, List.set_cons_succ]
      go_loopw [8] (fun _ wl => ∃ (left : ByteArray → Bool) (cnt : Nat), RngS Try.prog wl 9 fb rb (ocF ks) left cnt ∧ Below w.heap.size w wl ∧ rb < wl.heap.size) (fun _ wl => wl.rangeLeft fb rb)
      case atStart => exact ⟨_, _, hrg, hb6, by have := HZ6.out; omega⟩
      case round =>
        obtain ⟨left, cnt, hr, hb, hsz⟩ := hrel
        have HR := Lib.hid hr
        have HB := Lib.hid hb
        have hSS := HS.out.below hb
        have HSS := Lib.hid hSS
        have p2 := hSS.blk.cell 2
        clear hr hb hrg hb6 hSS
        obtain ⟨c2, hm2⟩ := HR.out.map
        go_wp2_with (first | (refine wpList_rangeS rfl (.tmp 49) rfl rfl hm2 Try.underlying9 Try.underlying129 ?_; intro w8 hrg hg8 hz8) | (refine wpList_nextS rfl (.tmp 27) rfl Try.underlying9 rfl HR.out (fun h0 hnone => ?hd) (fun x v w7 cnt7 hxz hlx hfx hr7 hlt7 hg7 hz7 hen => ?hm); case' hm => (obtain ⟨hxk, rfl⟩ := ocF_inv hfx; obtain ⟨e, he, hen2, hec⟩ := HK.out x hxk; have hS7 : PileS w7 n0 p room mb es := HS.out.below (HB.out.grown hg7 (by omega) (fun j hj => by cases hj; omega)); have p2 := hS7.blk.cell 2; have x1 := (hS7.node e he).cell 1; have hlk := hS7.mp.look (t := 105) (e := 104) (k := x) Try.underlying9 Try.underlying105 (z := .pointer none) rfl hxz; rw [← hen2, pF_some hS7.kd he, hen2] at hlk; have hcmp : decide (e.c < (cntK ks x : Int)) = false := by rw [decide_eq_false_iff_not]; omega)))
        · refine ⟨⟨_, _, hr7, HB.out.grown hg7 (by omega) (fun j hj => by cases hj; omega), by rw [hz7]; omega⟩, ?_⟩
          show w7.rangeLeft fb rb < wr.rangeLeft fb rb
          rw [hr7.left_eq, HR.out.left_eq]
          exact hlt7
        · obtain ⟨rd, hrd⟩ : ∃ rd, rd = wr.heap.size := ⟨_, rfl⟩
          rw [← hrd] at hrg ⊢
          have hb8 : Below w.heap.size w w8 := HB.out.grown hg8 (by omega) (fun j hj => by cases hj)
          have hrw : w.heap.size < rd := by omega
          have hsz8 : rd < w8.heap.size := by rw [hz8, hrd]; omega
          have hT8 := (HS.out.below hb8).toT
          have HP1 : Hid (∀ x ∈ es, 1 ≤ x.c) := fun x hx => (HC.out x hx).1
          have HRM := Lib.hid HS.out.rm
          have HSZ := Lib.hid HS.out.sz
          have HUS := Lib.hid HS.out.us
          have hst : cutE (wasD ks fun k => (ocF ks k).isSome) ks es = es := by
            have : (wasD ks fun k => (ocF ks k).isSome) = fun _ => false := by funext k; unfold wasD; cases hq : (ocF ks k).isSome <;> simp [hq]
            rw [this, cutE_start HP1.out]
          have hmbw : mb < w.heap.size := HS.out.mp.lt
          have hfbr : fb < rd := by have := HFB.out; omega
          clear hrd hg8 hz8 HB HR p2 h0 hnone HSS hm2
          simp only [Act.put, List.setIfInBounds_toArray, List.set_cons_zero, List.set_cons_succ]
          go_loopw [11] (fun _ wl => ∃ (left : ByteArray → Bool) (cnt : Nat), RngS Try.prog wl 9 fb rd (ocF ks) left cnt ∧ PileT wl n0 p room (usedP (cutE (wasD ks left) ks es)) mb (cutE (wasD ks left) ks es) ∧ RF RP n0 w wl ∧ rd < wl.heap.size) (fun _ wl => wl.rangeLeft fb rd)
          case atStart => exact ⟨_, _, hrg, by rw [hst]; exact hT8, RF.of_below hb8 hn0w, hsz8⟩
          case round =>
            obtain ⟨left, cnt, hr, hT, hRF, hsz⟩ := hrel
            have HR := Lib.hid hr
            have HTT := Lib.hid hT
            have HRF := Lib.hid hRF
            clear hr hT hRF hrg hT8 hst hsz8 hb8
            go_wp2_with (refine wpList_nextS rfl (.tmp 50) rfl Try.underlying9 rfl HR.out (fun h0 hnone => ?hd3) (fun x v w7 cnt7 hxz hlx hfx hr7 hlt7 hg7 hz7 hen => ?hm3); case' hm3 => (have HR7 := Lib.hid hr7; have HG7 := Lib.hid hg7; have hz7' := hz7; clear hr7 hg7; obtain hg7 := HG7.out; obtain ⟨hxk, rfl⟩ := ocF_inv hfx; obtain ⟨e, he, hen2, hec⟩ := HK.out x hxk; have HDX : Hid (wasD ks left e.n = false) := (by show _ = _; simp [wasD, hen2, hlx]); have HEM : Hid (e ∈ cutE (wasD ks left) ks es) := cutE_mem he HDX.out (HC.out e he).1; have hT7 := HTT.out.keptO hg7 (fun j hj => by cases hj; obtain ⟨m, s, se, c, hi⟩ := HR.out.iter; exact ⟨_, hi, rfl⟩); have HT7 := Lib.hid hT7; have p2 := hT7.blk.cell 2; have x1 := (hT7.node e HEM.out).cell 1; have f1 := (hT7.node e HEM.out).frozen 1; have hlk := hT7.mp.look (t := 105) (e := 104) (k := x) Try.underlying9 Try.underlying105 (z := .pointer none) rfl hxz; rw [← hen2, pF_some hT7.kd HEM.out, hen2] at hlk; clear hT7; obtain ⟨vv, hvv⟩ : ∃ vv, vv = e.c - (cntK ks x : Int) := ⟨_, rfl⟩; have hec1 := (HC.out e he).1; have hec2 := (HC.out e he).2; have hsub : IntKind.i64.wrap (e.c - (cntK ks x : Int)) = vv := (by rw [IntKind.wrap_i64]; omega); have HVV := Lib.hid hvv; have HEC := Lib.hid hec; clear hvv hec; by_cases hv0 : vv = 0))
            · subst hv0
              have hsT := HT7.out.setc HEM.out 0
              have HST := Lib.hid hsT
              have hei : ({ e with c := 0 } : Pe) ∈ upC (cutE (wasD ks left) ks es) e.n 0 := List.mem_map.2 ⟨e, HEM.out, by rw [if_pos rfl]⟩
              have q1 := hsT.blk.cell 1
              have q2 := hsT.blk.cell 2
              have fq := hsT.blk.frozen 1
              have q0 := (hsT.node _ hei).cell 0
              have hU1 := usedP_cut (D := wasD ks left) (ks := ks) (es := es)
              have hU2 := usedP_mem HEM.out
              have hU3 := HUS.out
              have hU4 := HRM.out
              have heb : e.b < w.heap.size := (HS.out.node e he).lt
              have hR8 : Hid (RngS Try.prog (w7.setCell ⟨e.b, 1, none⟩ (.int .i64 0)) 9 fb rd (ocF ks) (fun k => left k && !decide (k = x)) cnt7) := HR7.out.kept (gcell w7 ⟨e.b, 1, none⟩ _) (fun h => by injection h with h; have := HFB.out; change fb = e.b at h; omega) (fun h => by injection h with h; change rd = e.b at h; omega)
              have hF7 : RF RP n0 w w7 := HRF.out.grownN hg7 (by omega) (fun j hj => by cases hj; exact ⟨by omega, .inl (by omega)⟩)
              have hF8 : Hid (RF RP n0 w (w7.setCell ⟨e.b, 1, none⟩ (.int .i64 0))) := hF7.set_ (HT7.out.node e HEM.out) (HS.out.b0.2.2 e he) rfl _
              have hSZ8 : Hid (rd < (w7.setCell ⟨e.b, 1, none⟩ (.int .i64 0)).heap.size) := by show _ < _; simp [World.setCell]; omega
              have HEI := Lib.hid hei
              clear hsT hei x1 p2 f1 hlk hsub
              obtain ⟨U, hU⟩ : ∃ U, U = usedP (cutE (wasD ks left) ks es) := ⟨_, rfl⟩
              rw [← hU] at q1 hU1 hU2 HST
              have hsb : IntKind.i64.wrap (U - (e.t.size : Int)) = U - (e.t.size : Int) := by rw [IntKind.wrap_i64]; omega
              have HU := Lib.hid hU
              clear hU hU1 hU2 hU3 hU4
              generalize w7.setCell ⟨e.b, 1, none⟩ (.int .i64 0) = ws at *
              refine wp_region_last [(true, 0), (true, 1), (true, 2), (true, 3), (true, 4), (true, 5), (true, 6), (true, 7), (true, 8), (true, 9), (true, 10), (true, 11), (false, 12)] 12 (fun w' => w' = ws.drew) (by kernel_rfl) (by kernel_rfl) (by kernel_rfl) (fun _ _ _ _ _ h => h) (by kernel_rfl) (by kernel_rfl) ?_ ?_
              · rfl
              iterate 12 (first | (apply seqL_skip; (focus (simp only [List.getElem?_toArray, List.getElem?_cons_succ, List.getElem?_cons_zero]; rfl)); (focus rfl); simp only [Act.put, List.setIfInBounds_toArray, List.set_cons_zero, List.set_cons_succ]) | (apply seqL_take; (focus (simp only [List.getElem?_toArray, List.getElem?_cons_succ, List.getElem?_cons_zero]; rfl)); (focus rfl); (focus (intro w' hS; subst hS; first | (go_simp; rfl) | (go_simp; done))); simp only [Act.put, List.setIfInBounds_toArray, List.set_cons_zero, List.set_cons_succ]))
              apply seqL_eff
              (focus (simp only [List.getElem?_toArray, List.getElem?_cons_succ, List.getElem?_cons_zero]; rfl))
              (focus rfl)
              intro K hK
              go_simp
              refine hK _ _ ⟨fun h => absurd rfl h, ?_⟩
              clear hK K
              refine seqL_nil ?_
              have hT9 := (HST.out.use (V := U - (e.t.size : Int))).drew
              have hg9 : ws.grownBy (ws.setCell ⟨p, 1, none⟩ (.int .i64 (U - (e.t.size : Int)))).drew (some p) := ⟨rfl, rfl, rfl, by simp [World.setCell], fun k _ hne => Below.heap_setCell _ _ _ _ (fun e => hne (by rw [e]))⟩
              have hp9 : p < w.heap.size := HS.out.blk.lt
              have hR9 := hR8.out.kept hg9 (fun h => by injection h with h; have := HFB.out; omega) (fun h => by injection h with h; omega)
              have hF9 := (hF8.out.set_ (i := 1) HST.out.blk HS.out.b0.1 rfl (.int .i64 (U - (e.t.size : Int)))).drew
              have hS9 : rd < (ws.setCell ⟨p, 1, none⟩ (.int .i64 (U - (e.t.size : Int)))).drew.heap.size := by have := hSZ8.out; have := hg9.size; omega
              have q2' := hT9.blk.cell 2
              clear q0 q1 q2 fq hg9
              generalize (ws.setCell ⟨p, 1, none⟩ (.int .i64 (U - (e.t.size : Int)))).drew = w9 at *
              have HT9 := Lib.hid hT9
              have HR9 := Lib.hid hR9
              have HF9 := Lib.hid hF9
              have HS9 := Lib.hid hS9
              clear hT9 hR9 hF9 hS9
              go_wp2_with (refine wpList_del rfl (.tmp 90) (.tmp 91) rfl rfl HT9.out.mp Try.underlying9 Try.underlying105 x rfl hxz ?_; intro wa hma hga)
              have hkd1 : ((upC (cutE (wasD ks left) ks es) e.n 0).map (·.n)).Nodup := HT9.out.kd
              have hrm := rm_one hkd1 HEI.out
              have hpf9 := pF_some hkd1 HEI.out
              have hrm1 : (rmN (upC (cutE (wasD ks left) ks es) e.n 0) x).length + 1 = (upC (cutE (wasD ks left) ks es) e.n 0).length := by rw [← hen2]; exact hrm.1
              have hrm2 : usedP (rmN (upC (cutE (wasD ks left) ks es) e.n 0) x) + (e.t.size : Int) = U := by rw [HU.out, ← usedP_upC (es := cutE (wasD ks left) ks es) (t := e.n) (v := 0), ← hen2]; exact hrm.2
              have hse : ((pF (upC (cutE (wasD ks left) ks es) e.n 0)) x).isSome = true := by rw [← hen2]; rw [hpf9]; rfl
              rw [if_pos hse] at hma
              have hTa := HT9.out.del hma (by omega) hga
              have hce : rmN (upC (cutE (wasD ks left) ks es) e.n 0) x = cutE (wasD ks fun k => left k && !decide (k = x)) ks es := by
                rw [hen2, cutE_rm (by have := HDX.out; rwa [hen2] at this) (fun y hy hyx => ?_) (fun y hy => HP1.out y hy)]
                · exact cutE_congr fun y _ => .inl (wasD_step (by rw [hfx]; rfl) y.n).symm
                · have hye : y = e := nodup_inj HS.out.kd hy he (hyx.trans hen2.symm)
                  rw [hye]
                  exact HVV.out.symm
              have hue : U - (e.t.size : Int) = usedP (cutE (wasD ks fun k => left k && !decide (k = x)) ks es) := by rw [← hce]; omega
              rw [hue, hce] at hTa
              have hRa := HR9.out.kept hga (fun h => by injection h with h; have := HFB.out; omega) (fun h => by injection h with h; omega)
              have hFa := HF9.out.grown hga (by have := HF9.out.size; omega) (fun j hj => by cases hj; exact ⟨HS.out.b0.2.1, by obtain ⟨e1, c1, hi⟩ := HT9.out.mp.isMapObj; exact ⟨_, hi, rfl⟩⟩)
              have hSa : rd < wa.heap.size := by have := HS9.out; have := hga.size; omega
              have hlt : wa.rangeLeft fb rd < wr.rangeLeft fb rd := by rw [hRa.left_eq, HR.out.left_eq]; exact hlt7
              exact ⟨⟨_, _, _, _, _, _, _, _, _, _, _, _, _, _, _, _, _, _, _, _, _, _, _, _, _, _, _, _, _, _, _, _, _, _, _, _, _, _, _, _, _, _, _, _, ⟨_, cnt7, hRa, hTa, hFa, hSa⟩, rfl⟩, hlt⟩
            · have heb : e.b < w.heap.size := (HS.out.node e he).lt
              have hRa : RngS Try.prog (w7.setCell ⟨e.b, 1, none⟩ (.int .i64 vv)) 9 fb rd (ocF ks) (fun k => left k && !decide (k = x)) cnt7 := HR7.out.kept (gcell w7 ⟨e.b, 1, none⟩ _) (fun h => by injection h with h; have := HFB.out; change fb = e.b at h; omega) (fun h => by injection h with h; change rd = e.b at h; omega)
              have hF7 : RF RP n0 w w7 := HRF.out.grownN hg7 (by omega) (fun j hj => by cases hj; exact ⟨by omega, .inl (by omega)⟩)
              have hFa : RF RP n0 w (w7.setCell ⟨e.b, 1, none⟩ (.int .i64 vv)) := hF7.set_ (HT7.out.node e HEM.out) (HS.out.b0.2.2 e he) rfl _
              have hSa : rd < (w7.setCell ⟨e.b, 1, none⟩ (.int .i64 vv)).heap.size := by simp [World.setCell]; omega
              have hTa := HT7.out.setc HEM.out vv
              have hce : upC (cutE (wasD ks left) ks es) e.n vv = cutE (wasD ks fun k => left k && !decide (k = x)) ks es := by
                rw [hen2, cutE_set (by have := HDX.out; rwa [hen2] at this) (fun y hy hyx => ?_) (fun y hy => HP1.out y hy) hv0]
                · exact cutE_congr fun y _ => .inl (wasD_step (by rw [hfx]; rfl) y.n).symm
                · have hye : y = e := nodup_inj HS.out.kd hy he (hyx.trans hen2.symm)
                  rw [hye]
                  exact HVV.out.symm
              have hue : usedP (cutE (wasD ks left) ks es) = usedP (cutE (wasD ks fun k => left k && !decide (k = x)) ks es) := by rw [← hce, usedP_upC]
              rw [hue, hce] at hTa
              refine ⟨⟨_, cnt7, hRa, hTa, hFa, hSa⟩, ?_⟩
              rw [hRa.left_eq, HR.out.left_eq]
              exact hlt7
            · go_ret
              have hce : cutE (wasD ks left) ks es = cutE (fun _ => true) ks es := by
                refine cutE_congr fun y _ => ?_
                by_cases h : cntK ks y.n = 0
                · exact .inr h
                · exact .inl (by unfold wasD; rw [hnone, ocF_some]; simp [h])
              refine ⟨rfl, HRF.out, ?_⟩
              have hT := HTT.out
              rw [hce] at hT
              have hu := usedP_cut (D := fun _ => true) (ks := ks) (es := es)
              exact hT.toS HRM.out (cutE_sz HSZ.out) (by have := HUS.out; omega)
end Go.Proofs.Ythhhlaoiampinaa
namespace Go.Proofs.Ythhhlaoiampinaa
set_option maxRecDepth 20000
open Go.RowKit Go.Shelf
/-- The entries are what cs holds, as often as it is there. -/
structure RepS (es : List Pe) (cs : List ByteArray) : Prop where
  ent : ∀ x ∈ es, x.n = hxn x.t ∧ x.c = (cntK cs x.t : Int) ∧ 1 ≤ x.c
  mem : ∀ t ∈ cs, ∃ x ∈ es, x.t = t
theorem cntK_app (a b : List ByteArray) (n : ByteArray) : cntK (a ++ b) n = cntK a n + cntK b n := by
  unfold cntK; rw [List.filter_append, List.length_append]
theorem cntK_perm {a b : List ByteArray} (h : a.Perm b) (n : ByteArray) : cntK a n = cntK b n := by
  unfold cntK; exact (h.filter _).length_eq
section
variable {es es' : List Pe} {cs cs' ds : List ByteArray}
theorem RepS.nil : RepS [] [] := ⟨by simp, by simp⟩
theorem RepS.perm (h : RepS es cs) (hp : cs.Perm cs') : RepS es cs' :=
  ⟨fun x hx => by rw [← cntK_perm hp]; exact h.ent x hx, fun t ht => h.mem t (hp.mem_iff.2 ht)⟩
theorem cntN_of {x : Pe} (h1 : x.n = hxn x.t) (h2 : ∀ t ∈ ds, hxn t = x.n → t = x.t) : cntN ds x.n = cntK ds x.t := by
  unfold cntN cntK
  congr 1
  refine List.filter_congr fun t ht => ?_
  by_cases h : t = x.t
  · subst h; simp [h1]
  · have : ¬ hxn t = x.n := fun e => h (h2 t ht e)
    simp [h, this]
theorem RepS.nz (h : RepS es cs) : ∀ x ∈ es, x.n.size ≤ maxLen := fun x hx => by rw [(h.ent x hx).1, hxn_size]; decide
theorem RepS.cb (h : RepS es cs) : ∀ x ∈ es, 1 ≤ x.c ∧ x.c ≤ (cs.length : Int) := fun x hx => ⟨(h.ent x hx).2.2, by rw [(h.ent x hx).2.1]; have := cntK_le cs x.t; omega⟩
theorem RepS.put (h : RepS es cs) (hk : (es.map (·.n)).Nodup) (hp : PutRes es ds es') : RepS es' (cs ++ ds) := by
  obtain ⟨new, fs, hf, hperm, hnew, rfl⟩ := hp
  have hnf : ∀ x ∈ new, x.t ∈ fs := fun x hx => hperm.mem_iff.1 (List.mem_map.2 ⟨x, hx, rfl⟩)
  constructor
  · intro y hy
    obtain ⟨x, hx, rfl⟩ := List.mem_map.1 hy
    show x.n = hxn x.t ∧ x.c + (cntN ds x.n : Int) = (cntK (cs ++ ds) x.t : Int) ∧ _
    rcases List.mem_append.1 hx with hx | hx
    · obtain ⟨h1, h2, h3⟩ := h.ent x hx
      have hc : cntN ds x.n = cntK ds x.t := cntN_of h1 fun t ht e => by
        rcases hf.all t ht with g | ⟨z, hz, g1, g2⟩
        · exact absurd e.symm (hf.new t g x hx)
        · rw [← g2, nodup_inj hk hz hx (g1.trans e)]
      refine ⟨h1, ?_, ?_⟩
      · rw [cntK_app, hc, h2]; omega
      · show 1 ≤ x.c + (cntN ds x.n : Int); omega
    · obtain ⟨h1, h2⟩ := hnew x hx
      have hc : cntN ds x.n = cntK ds x.t := cntN_of h1 fun t ht e => by
        rcases hf.all t ht with g | ⟨z, hz, g1, g2⟩
        · exact nodup_inj hf.nd g (hnf x hx) (e.trans h1)
        · exact absurd (g1.trans (e.trans h1)) (hf.new x.t (hnf x hx) z hz)
      have h0 : cntK cs x.t = 0 := by
        false_or_by_contra
        rename_i hn
        obtain ⟨z, hz, e⟩ := h.mem _ (cntK_pos.1 hn)
        exact hf.new x.t (hnf x hx) z hz (by rw [(h.ent z hz).1, e])
      have h9 : cntK ds x.t ≠ 0 := cntK_pos.2 (hf.sub.subset (hnf x hx))
      refine ⟨h1, ?_, ?_⟩
      · rw [cntK_app, hc, h2, h0]; omega
      · show 1 ≤ x.c + (cntN ds x.n : Int); omega
  · intro t ht
    have hin : ∀ x ∈ es ++ new, x.t = t → ∃ y ∈ inc ds (es ++ new), y.t = t := fun x hx e => ⟨_, List.mem_map.2 ⟨x, hx, rfl⟩, e⟩
    rcases List.mem_append.1 ht with ht | ht
    · obtain ⟨x, hx, e⟩ := h.mem t ht
      exact hin x (List.mem_append_left _ hx) e
    · rcases hf.all t ht with g | ⟨z, hz, _, g2⟩
      · obtain ⟨x, hx, e⟩ := List.mem_map.1 (hperm.mem_iff.2 g)
        exact hin x (List.mem_append_right _ hx) e
      · exact hin z (List.mem_append_left _ hz) g2
theorem RepS.cnt (h : RepS es (ds ++ cs)) (hk : (es.map (·.n)).Nodup) {x : Pe} (hx : x ∈ es) : cntK (ds.map hxn) x.n = cntK ds x.t := by
  rw [cntK_hxn]
  exact cntN_of (h.ent x hx).1 fun t ht e => by
    obtain ⟨z, hz, g⟩ := h.mem t (List.mem_append_left _ ht)
    rw [← g, nodup_inj hk hz hx (((h.ent z hz).1.trans (by rw [g])).trans e)]
theorem RepS.drop (h : RepS es (ds ++ cs)) (hk : (es.map (·.n)).Nodup) : RepS (cutE (fun _ => true) (ds.map hxn) es) cs := by
  constructor
  · intro y hy
    obtain ⟨hy1, hy2⟩ := List.mem_filter.1 hy
    obtain ⟨x, hx, rfl⟩ := List.mem_map.1 hy1
    obtain ⟨h1, h2, h3⟩ := h.ent x hx
    rw [if_pos rfl] at hy2 ⊢
    have hc := h.cnt hk hx
    rw [cntK_app] at h2
    simp only [hc] at hy2 ⊢
    refine ⟨h1, by omega, ?_⟩
    have : ¬ x.c - (cntK ds x.t : Int) = 0 := by simpa using hy2
    omega
  · intro t ht
    obtain ⟨x, hx, e⟩ := h.mem t (List.mem_append_right _ ht)
    obtain ⟨h1, h2, h3⟩ := h.ent x hx
    have hc := h.cnt hk hx
    have hp : cntK cs x.t ≠ 0 := cntK_pos.2 (by rw [e]; exact ht)
    rw [cntK_app] at h2
    refine ⟨{ x with c := x.c - (cntK (ds.map hxn) x.n : Int) }, List.mem_filter.2 ⟨List.mem_map.2 ⟨x, hx, by rw [if_pos rfl]⟩, ?_⟩, e⟩
    have : ¬ x.c - (cntK (ds.map hxn) x.n : Int) = 0 := by rw [hc]; omega
    simpa using this
/-- What Drop asks. -/
theorem RepS.can (h : RepS es (ds ++ cs)) (hk : (es.map (·.n)).Nodup) : ∀ n ∈ ds.map hxn, ∃ x ∈ es, x.n = n ∧ (cntK (ds.map hxn) n : Int) ≤ x.c := by
  intro n hn
  obtain ⟨t, ht, rfl⟩ := List.mem_map.1 hn
  obtain ⟨x, hx, e⟩ := h.mem t (List.mem_append_left _ ht)
  obtain ⟨h1, h2, h3⟩ := h.ent x hx
  have hxn' : x.n = hxn t := by rw [h1, e]
  have hc := h.cnt hk hx
  rw [cntK_app] at h2
  refine ⟨x, hx, hxn', ?_⟩
  rw [← hxn', hc]
  omega
theorem tnd_of (h : ∀ x ∈ es, x.n = hxn x.t) (hk : (es.map (·.n)).Nodup) : (es.map (·.t)).Nodup := by
  induction es with
  | nil => simp
  | cons x l ih =>
    rw [List.map_cons, List.nodup_cons] at hk ⊢
    refine ⟨fun hm => hk.1 ?_, ih (fun y hy => h y (List.mem_cons_of_mem _ hy)) hk.2⟩
    obtain ⟨y, hy, e⟩ := List.mem_map.1 hm
    exact List.mem_map.2 ⟨y, hy, by rw [h y (List.mem_cons_of_mem _ hy), h x (by simp), e]⟩
theorem RepS.tnd (h : RepS es cs) (hk : (es.map (·.n)).Nodup) : (es.map (·.t)).Nodup := tnd_of (fun x hx => (h.ent x hx).1) hk
/-- Two that hold the same. -/
theorem RepS.same (h : RepS es cs) (h' : RepS es' cs') (hk : (es.map (·.n)).Nodup) (hk' : (es'.map (·.n)).Nodup) (hm : ∀ t, t ∈ cs ↔ t ∈ cs') : usedP es = usedP es' ∧ es.length = es'.length := by
  have hp : (es.map (·.t)).Perm (es'.map (·.t)) := by
    refine (List.perm_ext_iff_of_nodup (h.tnd hk) (h'.tnd hk')).2 fun t => ?_
    have key : ∀ {fs : List Pe} {bs : List ByteArray}, RepS fs bs → (t ∈ fs.map (·.t) ↔ t ∈ bs) := by
      intro fs bs hr
      constructor
      · intro ht
        obtain ⟨x, hx, rfl⟩ := List.mem_map.1 ht
        have := hr.ent x hx
        exact cntK_pos.1 (by omega)
      · intro ht
        obtain ⟨x, hx, e⟩ := hr.mem t ht
        exact List.mem_map.2 ⟨x, hx, e⟩
    rw [key h, key h', hm]
  constructor
  · rw [usedP_t, usedP_t]
    exact perm_sum (hp.map _)
  · have := hp.length_eq
    rwa [List.length_map, List.length_map] at this
/-- How much more is used behind a Put. -/
theorem PutRes.used (hp : PutRes es ds es') : usedP es ≤ usedP es' ∧ usedP es' ≤ usedP es + ((ds.map (·.size)).sum : Nat) := by
  obtain ⟨new, fs, hf, hperm, hnew, rfl⟩ := hp
  rw [usedP_inc, usedP_app]
  have h1 : usedP new = ((fs.map (·.size)).sum : Nat) := by rw [usedP_t, perm_sum (hperm.map _), sum_cast]
  have h2 := sub_sum hf.sub
  omega
/-- A text whose pieces are all there needs no more, and its names fit. -/
theorem RepS.again (h : RepS es (cs ++ ds)) (hk : (es.map (·.n)).Nodup) {fs : List ByteArray} (hf : FreshI es ds fs) : fs = [] := by
  cases fs with
  | nil => rfl
  | cons t l =>
    exfalso
    obtain ⟨x, hx, e⟩ := h.mem t (List.mem_append_right _ (hf.sub.subset (by simp)))
    exact hf.new t (by simp) x hx (by rw [(h.ent x hx).1, e])
theorem RepS.nocoll (h : RepS es (cs ++ ds)) (hk : (es.map (·.n)).Nodup) : ¬ ∃ t ∈ ds, (∃ u ∈ ds, hxn u = hxn t ∧ ¬ u = t) ∨ (∃ x ∈ es, x.n = hxn t ∧ ¬ x.t = t) := by
  rintro ⟨t, ht, h1⟩
  obtain ⟨x, hx, e⟩ := h.mem t (List.mem_append_right _ ht)
  have hxn' : x.n = hxn t := by rw [(h.ent x hx).1, e]
  rcases h1 with ⟨u, hu, h2, h3⟩ | ⟨y, hy, h2, h3⟩
  · obtain ⟨y, hy, e2⟩ := h.mem u (List.mem_append_right _ hu)
    have : y = x := nodup_inj hk hy hx (by rw [(h.ent y hy).1, e2, h2, hxn'])
    subst this
    exact h3 (e2.symm.trans e)
  · have : y = x := nodup_inj hk hy hx (h2.trans hxn'.symm)
    subst this
    exact h3 e
end
end Go.Proofs.Ythhhlaoiampinaa
namespace Go.Proofs.Ythhhlaoiampinaa
set_option maxRecDepth 20000
open Go.RowKit Go.Shelf
/-- What was put: the slice of names that came of it, and the text. -/
abbrev Out := Value × ByteArray
def e_ot (x : Out) : List Value := [x.1]
def allT (os : List Out) : List ByteArray := os.flatMap fun x => cutB x.2
structure Outs (w : World) (n0 : Nat) (os : List Out) : Prop where
  own : ∀ x ∈ os, Owns w n0 9 1 Go.Proofs.Ythhhlaoiampinaa.es x.1 ((cutB x.2).map hxn)
  sz : ∀ x ∈ os, x.2.size ≤ 5000
structure PU (w : World) (n0 p mb : Nat) (room : Int) (es : List Pe) (os : List Out) : Prop where
  st : PileS w n0 p room mb es
  rep : RepS es (allT os)
  many : es.length ≤ 10000
  out : Outs w n0 os
theorem sliceInfo : ElemInfo Try.prog 42 (.slice none 0 0) 1 24 := by unfold ElemInfo; kernel_rfl
theorem e_ot_one {w : World} {n0 : Nat} {os : List Out} (h : Outs w n0 os) : ∀ u ∈ os.flatMap e_ot, u.oneCell' = true := by
  intro u hu
  obtain ⟨x, hx, hu⟩ := List.mem_flatMap.1 hu
  rw [List.mem_singleton.1 hu]
  obtain ⟨A, c, hv⟩ := (h.own x hx).slice
  rw [hv]
  rfl
theorem allT_app (a b : List Out) : allT (a ++ b) = allT a ++ allT b := by simp [allT]
theorem allT_one (x : Out) : allT [x] = cutB x.2 := by simp [allT]
theorem cutB_5000 {s : ByteArray} (h : s.size ≤ 5000) : (cutB s).length ≤ 5000 := Nat.le_trans (cutB_len s) h
theorem allT_len {os : List Out} (h : ∀ x ∈ os, x.2.size ≤ 5000) : (allT os).length ≤ 5000 * os.length := by
  induction os with
  | nil => simp [allT]
  | cons x l ih =>
    have h1 := ih (fun y hy => h y (List.mem_cons_of_mem _ hy))
    have h2 := cutB_5000 (h x (by simp))
    unfold allT at h1 ⊢
    rw [List.flatMap_cons, List.length_append, List.length_cons]
    omega
section
variable {w w' : World} {n0 p mb : Nat} {room : Int} {es : List Pe} {os : List Out}
theorem Outs.nil (w : World) (n0 : Nat) : Outs w n0 [] := ⟨by simp, by simp⟩
theorem Outs.below (h : Outs w n0 os) (hb : Below w.heap.size w w') : Outs w' n0 os := ⟨fun x hx => (h.own x hx).below hb, h.sz⟩
theorem Outs.rf {n1 : Nat} (h : Outs w n0 os) (hr : RF RP n1 w w') : Outs w' n0 os := ⟨fun x hx => (h.own x hx).rf hr rfl, h.sz⟩
theorem Outs.snoc {x : Out} (h : Outs w n0 os) (h1 : Owns w n0 9 1 Go.Proofs.Ythhhlaoiampinaa.es x.1 ((cutB x.2).map hxn)) (h2 : x.2.size ≤ 5000) : Outs w n0 (os ++ [x]) :=
  ⟨fun y hy => (List.mem_append.1 hy).elim (h.own y) fun hy => by rw [List.mem_singleton.1 hy]; exact h1, fun y hy => (List.mem_append.1 hy).elim (h.sz y) fun hy => by rw [List.mem_singleton.1 hy]; exact h2⟩
theorem Outs.sub {os' : List Out} (h : Outs w n0 os) (hs : ∀ x ∈ os', x ∈ os) : Outs w n0 os' := ⟨fun x hx => h.own x (hs x hx), fun x hx => h.sz x (hs x hx)⟩
theorem PU.below (h : PU w n0 p mb room es os) (hb : Below w.heap.size w w') : PU w' n0 p mb room es os := ⟨h.st.below hb, h.rep, h.many, h.out.below hb⟩
theorem PU.alloc (h : PU w n0 p mb room es os) (o : Obj) : PU (w.alloc o) n0 p mb room es os := h.below ((Below.refl _ w).alloc (Nat.le_refl _) _)
theorem PU.drew (h : PU w n0 p mb room es os) : PU w.drew n0 p mb room es os := ⟨h.st.drew, h.rep, h.many, ⟨fun x hx => (h.out.own x hx).drew, h.out.sz⟩⟩
/-- A list of lists grows. -/
theorem PU.grow {base : Nat} {v : Value} {ys : List Out} {row : Option Nat} (h : PU w n0 p mb room es os) (ho : Owns w base 42 1 e_ot v ys) (hg : w.grownBy w' row) (hr : row = v.ownBlock) : PU w' n0 p mb room es os := by
  have hcell : ∀ k, row = some k → ∃ cs fr, w.heap[k]? = some (.cells cs 42 fr) := by
    intro k hk
    rcases ho.2 with ⟨hv, _⟩ | ⟨g, cap, cur, hv, _, hh, _⟩
    · rw [hr, hv] at hk; cases hk
    · rw [hr, hv] at hk
      have : g = k := by simpa [Value.ownBlock] using hk
      subst this
      exact ⟨_, _, hh⟩
  refine ⟨(h.st.toT.keptO hg (fun k hk => ?_)).toS h.st.rm h.st.sz h.st.us, h.rep, h.many, ⟨fun x hx => (h.out.own x hx).grownOther hg ?_, h.out.sz⟩⟩
  · obtain ⟨cs, fr, hh⟩ := hcell k hk
    exact ⟨_, hh, rfl⟩
  · rw [hr]
    exact (h.out.own x hx).apart ho (by decide)
theorem PU.n0w (h : PU w n0 p mb room es os) : n0 ≤ w.heap.size := Nat.le_trans h.st.b0.1 (Nat.le_of_lt h.st.blk.lt)
theorem PU.cb (h : PU w n0 p mb room es os) (hl : os.length ≤ 900000000000000) : ∀ x ∈ es, 1 ≤ x.c ∧ x.c ≤ 4611686018427387904 := fun x hx => by
  have h1 := h.rep.cb x hx
  have h2 := allT_len h.out.sz
  omega
end
theorem newP_bad (room : Int) (w : World) (h1 : room < 1) :
    Calls Try.prog 49 #[.int .i64 room] w fun e w' => e = .returned (.tuple #[.pointer none, .int .i64 1]) ∧ w = w' := by
  have hd : decide (room < 1) = true := by rw [decide_eq_true_iff]; exact h1
  go_enter Try.func49, Try.ntmps49
  go_wp2_with fail
  go_ret2
  exact ⟨rfl, rfl⟩
/-- Any Put. -/
theorem putP_pu (n0 p mb : Nat) (room : Int) (es : List Pe) (os : List Out) (s : ByteArray) (w : World) (h : PU w n0 p mb room es os) (hl : os.length ≤ 900000000000000) :
    Calls Try.prog 24 #[ptr p, .string s] w fun e w' => ∃ v q, e = .returned (.tuple #[v, .int .i64 q]) ∧ RF RP n0 w w' ∧
      ((q = 0 ∧ s.size ≤ 5000 ∧ ∃ es', PutRes es (cutB s) es' ∧ PU w' n0 p mb room es' (os ++ [(v, s)])) ∨
       (v = .slice none 0 0 ∧ PU w' n0 p mb room es os ∧ ((q = 2 ∧ 5000 < s.size) ∨ (q = 9 ∧ ∃ t ∈ cutB s, (∃ u ∈ cutB s, hxn u = hxn t ∧ ¬ u = t) ∨ (∃ x ∈ es, x.n = hxn t ∧ ¬ x.t = t)) ∨ (q = 6 ∧ s.size ≤ 5000 ∧ ∃ fs, FreshI es (cutB s) fs ∧ (room < usedP es + ((fs.map (·.size)).sum : Nat) ∨ 10000 < es.length + fs.length))))) := by
  by_cases hs : 5000 < s.size
  · refine (putP_large n0 p mb room es s w h.st hs).mono ?_
    rintro e w' ⟨rfl, rfl⟩
    exact ⟨_, _, rfl, RF.refl _ _ _, .inr ⟨rfl, h, .inl ⟨rfl, hs⟩⟩⟩
  · refine (putP_main n0 p mb room es s w h.st (by omega) (fun x hx => by have := h.cb hl x hx; omega) h.rep.nz).mono ?_
    rintro e w' ⟨v, q, rfl, hrf, ⟨rfl, es', hst, hm, hpr, ho⟩ | ⟨rfl, rfl, hst, hc⟩ | ⟨rfl, rfl, hst, hc⟩⟩
    · refine ⟨_, _, rfl, hrf, .inl ⟨rfl, by omega, es', hpr, ⟨hst, ?_, hm, ?_⟩⟩⟩
      · rw [allT_app, allT_one]
        exact h.rep.put h.st.kd hpr
      · exact (h.out.rf hrf).snoc (ho.mono h.n0w) (show s.size ≤ 5000 by omega)
    · exact ⟨_, _, rfl, hrf, .inr ⟨rfl, ⟨hst, h.rep, h.many, h.out.rf hrf⟩, .inr (.inl ⟨rfl, hc⟩)⟩⟩
    · exact ⟨_, _, rfl, hrf, .inr ⟨rfl, ⟨hst, h.rep, h.many, h.out.rf hrf⟩, .inr (.inr ⟨rfl, by omega, hc⟩)⟩⟩
/-- Drop of one that was put. -/
theorem dropP_pu (n0 p mb : Nat) (room : Int) (es : List Pe) (a b : List Out) (x : Out) (w : World) (h : PU w n0 p mb room es (a ++ x :: b)) (hl : (a ++ x :: b).length ≤ 900000000000000) :
    Calls Try.prog 52 #[ptr p, x.1] w fun e w' => e = .returned (.int .i64 0) ∧ RF RP n0 w w' ∧ ∃ es', PU w' n0 p mb room es' (a ++ b) := by
  have hxm : x ∈ a ++ x :: b := by simp
  have hrep : RepS es (cutB x.2 ++ allT (a ++ b)) := by
    refine h.rep.perm ?_
    rw [show a ++ x :: b = a ++ ([x] ++ b) by simp, allT_app, allT_app, allT_app, allT_one]
    rw [← List.append_assoc, ← List.append_assoc]
    exact (List.perm_append_comm).append_right _
  have h5 := cutB_5000 (h.out.sz x hxm)
  refine (dropP_ok n0 p mb room es x.1 ((cutB x.2).map hxn) w h.st (SlR.of_owns (h.out.own x hxm)) (by rw [List.length_map]; omega) ?_ (h.cb hl) (hrep.can h.st.kd)).mono ?_
  · intro k hk
    obtain ⟨t, _, rfl⟩ := List.mem_map.1 hk
    rw [hxn_size]; decide
  · rintro e w' ⟨rfl, hrf, hst⟩
    refine ⟨rfl, hrf, _, ⟨hst, hrep.drop h.st.kd, ?_, (h.out.rf hrf).sub (by simp; grind)⟩⟩
    refine Nat.le_trans (List.length_filter_le _ _) ?_
    rw [List.length_map]
    exact h.many
/-- all[l:]. -/
theorem run_from (g off n c j : Nat) (W : World) (h : j + 1 ≤ n) : (Instr.slice 48 (.slice (some ⟨g, off, none⟩) n c) (some (.int .i64 ((j : Int) + 1))) none none).run Try.prog W =
    .ok (.slice (if c = j + 1 then some ⟨g, off, none⟩ else some ⟨g, off + (j + 1), none⟩) (n - (j + 1)) (c - (j + 1))) W := by
  have hs : (sizeOf (Try.prog.elem 48)).run Try.prog W = .ok 1 W := by kernel_rfl
  have ht : Try.prog.underlying 48 = some (.slice (Try.prog.elem 48)) := by kernel_rfl
  have e : ((j : Int) + 1).toNat = j + 1 := by omega
  rw [run_slice_l (w := W) 48 _ n c ht .i64 ((j : Int) + 1) (by omega) (by omega), hs, e]
  simp only [Result.andThen_ok, sliced, Nat.mul_one, Option.map_some, Addr.add_lit]
abbrev qm : ByteArray := { data := #[63] }
theorem slr_out {w : World} {v : Value} {xs : List Out} (h : SlR w e_ot v xs) (hn : 0 < xs.length) :
    ∃ b off c, v = .slice (some ⟨b, off, none⟩) xs.length c ∧ xs.length ≤ c ∧ b < w.heap.size ∧ ∀ j (hj : j < xs.length), w.cell? ⟨b, off + j, none⟩ = some xs[j].1 := by
  obtain ⟨A, c, hv, hc, hx⟩ := h
  obtain ⟨b, off, rfl, hb, hcell⟩ := hx hn
  have hm : xs.flatMap e_ot = xs.map (·.1) := by
    clear hcell hx hc hv hn
    induction xs with
    | nil => rfl
    | cons x l ih => rw [List.flatMap_cons, List.map_cons, ih]; rfl
  exact ⟨b, off, c, hv, hc, hb, fun j hj => hcell j _ (by rw [hm]; simp [hj])⟩
theorem take_cons_drop {α : Type} (l : List α) (j : Nat) (h : j < l.length) : l = l.take j ++ l[j] :: l.drop (j + 1) := by
  rw [List.getElem_cons_drop, List.take_append_drop]
set_option maxHeartbeats 8000000 in
theorem piled_any (v : Value) (xs : List Stp) (w : World) (h : SlR w e_st v xs) (hl : xs.length ≤ 418861572474) (hx : ∀ x ∈ xs, Wide x.k ∧ Wide x.a ∧ Wide x.b ∧ x.s.size ≤ maxLen ∧ x.t.size ≤ maxLen) :
    Calls Try.prog 21 #[v] w fun e w' => ∃ p mb va es os, e = .returned (.tuple #[ptr p, va]) ∧ PU w' w.heap.size p mb 1000000 es os ∧ Owns w' w.heap.size 42 1 e_ot va os ∧ os.length ≤ xs.length ∧ Below w.heap.size w w' := by
  have HV := Lib.hid (fun hn => h.rowN (size := 22) (fun _ => rfl) hn)
  have HX := Lib.hid hx
  obtain ⟨A, cp, rfl, hc⟩ := h.form
  clear h hx
  go_enter Try.func21, Try.ntmps21
  go_wp2_with fail
  refine (newP_any 1000000 _ (by decide) (by decide)).mono ?_
  rintro e w1 ⟨p, mb, rfl, hp1, b1⟩
  have HP1 := Lib.hid hp1
  clear hp1
  go_wp2_with fail
  refine (getP_none _ p mb 1000000 [] _ qm _ (HP1.out.alloc _) (SlR.lit w1 [.string qm] _ [qm] rfl) (by simp) (by decide)).mono ?_
  rintro e w2 ⟨rfl, rfl⟩
  have hb2 := b1.alloc b1.size (.cells #[.string { data := #[63] }] 9)
  have HPU : Hid (PU (w1.alloc (.cells #[.string { data := #[63] }] 9)) w.heap.size p mb 1000000 [] []) := ⟨HP1.out.alloc _, RepS.nil, by simp, Outs.nil _ _⟩
  clear HP1 b1
  go_wp2_with fail
  go_loopw [8, 34] (fun av iv wr => ∃ (k : Nat) (es : List Pe) (os : List Out), iv = .int .i64 (k : Int) ∧ k ≤ xs.length ∧ PU wr w.heap.size p mb 1000000 es os ∧ Owns wr w.heap.size 42 1 e_ot av os ∧ os.length ≤ k ∧ Below w.heap.size w wr) (fun _ iv _ => xs.length - (intOf iv).toNat)
  case atStart => exact ⟨0, [], [], rfl, Nat.zero_le _, HPU.out, Owns.nil .., by simp, hb2⟩
  case round =>
    obtain ⟨k, es, os, rfl, hk, hpu, how, hol, hbel⟩ := hrel
    have HO := Lib.hid how
    by_cases hlt : k < xs.length
    · obtain ⟨bb, off, c3, hv2, hc3, hbb, hcell⟩ := HV.out (by omega)
      injection hv2 with g1 g2 g3
      subst g1 g3
      have hC : wr.rangeAt bb (off + k * 22) (e_st xs[k]) := fun j v hv => (hbel.cell (p := ⟨bb, off + (k * 22) + j, none⟩) hbb).trans (by rw [Nat.add_assoc]; exact hcell k hlt j v hv)
      have hxk := HX.out xs[k] (List.getElem_mem hlt)
      clear hcell g2 HPU hb2
      generalize xs[k] = x at *
      obtain ⟨hx1, hx2, hx3, hx4, hx5⟩ := hxk
      have hO := Lib.hid (fun (W : World) => of_any x 3 W hx1 (by decide))
      have hB := Blk.new wr 63 (e_st x).toArray
      have hpu5 := hpu.alloc (.cells (e_st x).toArray 63)
      have ho5 := how.alloc (.cells (e_st x).toArray 63)
      have hb5 := hbel.alloc hbel.size (.cells (e_st x).toArray 63)
      have hst : (storeCells ⟨wr.heap.size, 0, none⟩ (e_st x)).run Try.prog (wr.alloc (.cells stZ 63)) = .ok () (wr.alloc (.cells (e_st x).toArray 63)) :=
        run_storeCells_new (P := Try.prog) wr 63 stZ (e_st x).toArray (by kernel_rfl) (by simp [stZ, e_st]) (by simp [e_st, Value.oneCell'])
      unfold stZ at hst
      clear how
      go_wp2_with (first
        | refine wpList_load_mid rfl 63 (.tmp 33) rfl bb (off + k * 22) rfl (e_st x) _ hC Try.underlying63 rfl (by kernel_rfl) ?_
        | refine wpList_load_mid rfl 63 (.tmp 36) rfl bb (off + k * 22) rfl (e_st x) _ hC Try.underlying63 rfl (by kernel_rfl) ?_
        | refine wpList_load_row rfl 63 (.tmp 10) rfl wr.heap.size rfl 63 (e_st x).toArray (0, 0) _ (heap_alloc_last wr _) Try.underlying63 rfl (by kernel_rfl) ?_)
      clear hst hC
      generalize wr.alloc _ = w5 at *
      refine (hO.out _).mono ?_
      rintro e w6 ⟨rfl, g6⟩
      have hpu6 := hpu5.below g6
      have ho6 := ho5.below g6
      have hB6 := hB.below g6 hB.lt
      have hb6 := hb5.trans (g6.mono hb5.size)
      have e1 : w6.cell? ⟨wr.heap.size, 1, none⟩ = some (.int .i64 x.a) := hB6.cell 1
      have e3 : w6.cell? ⟨wr.heap.size, 3, none⟩ = some (.string x.s) := hB6.cell 3
      obtain ⟨xk, xa, xb, xS, xT, og, ou, oi⟩ := x
      dsimp only at hx1 hx2 hx3 hx4 hx5 e1 e3 ⊢
      have HPU6 := Lib.hid hpu6
      have HO6 := Lib.hid ho6
      have HB6 := Lib.hid hb6
      clear hB hpu5 hb5 hpu6 hB6 hb6 g6 hpu hbel ho6 ho5 HO
      generalize (e_st _).toArray = X at *
      generalize wr.heap.size = bx at *
      have hm0 := Int.emod_nonneg xk (b := 3) (by decide)
      generalize hm : xk % 3 = m at *
      clear hm
      by_cases hmp : 0 < m
      · have hd : decide (0 < m) = true := by rw [decide_eq_true_iff]; exact hmp
        go_wp2_with fail
        refine (putP_pu _ p mb 1000000 es os xS _ HPU6.out (by omega)).mono ?_
        rintro e w7 ⟨v7, q, rfl, rf7, ⟨rfl, hs7, es', hpr7, hpu7⟩ | ⟨rfl, hpu7, hq⟩⟩
        · have HO7 := Lib.hid (HO6.out.rf rf7 rfl)
          have HB7 := Lib.hid (HB6.out.trans rf7.bel)
          have HPU7 := Lib.hid hpu7
          clear rf7 hpu7 hpr7
          obtain ⟨A7, n7, c7, hv7⟩ : ∃ A n c, v7 = .slice A n c := by obtain ⟨A7, c7, h⟩ := (HPU7.out.out.own (v7, xS) (by simp)).slice; exact ⟨A7, _, c7, h⟩
          subst hv7
          have h1c : (∀ u ∈ [((Value.slice A7 n7 c7), xS)].flatMap e_ot, u.oneCell' = true) := e_ot_one (HPU7.out.out.sub (os' := [((Value.slice A7 n7 c7), xS)]) (by simp))
          have H1C := Lib.hid h1c
          clear h1c
          have hn7 : w.heap.size ≤ w7.heap.size := HB7.out.size
          go_wp2_with (at_builtin; go_must (refine wpList_append_slr rfl (.tmp 50) (.tmp 52) _ rfl w.heap.size 42 (.slice none 0 0) 1 24 e_ot Try.underlying48 sliceInfo rfl (by decide) (fun _ => rfl) _ os rfl (HO7.out.alloc _) _ [((Value.slice A7 n7 c7), xS)] rfl (SlR.lit w7 [(Value.slice A7 n7 c7)] _ [((Value.slice A7 n7 c7), xS)] rfl) H1C.out (by simp only [maxLen, List.length_cons, List.length_nil]; omega) (by simp only [List.length_cons, List.length_nil]; omega) (by simp; omega) ?_); intro v8 w8 ho8 hg8)
          have hpu8 := (HPU7.out.alloc (.cells #[Value.slice A7 n7 c7] 42)).grow (HO7.out.alloc _) hg8 rfl
          have hb8 := (HB7.out.alloc hn7 (.cells #[Value.slice A7 n7 c7] 42)).grown hg8 (by simp; omega) (fun j hj => (HO7.out.lt j hj).1)
          exact ⟨⟨k + 1, es', os ++ [((Value.slice A7 n7 c7), xS)], by simp, by omega, hpu8, ho8, by simp; omega, hb8⟩, by simp only [intOf]; omega⟩
        · have HO7 := Lib.hid (HO6.out.rf rf7 rfl)
          have HB7 := Lib.hid (HB6.out.trans rf7.bel)
          have HPU7 := Lib.hid hpu7
          clear rf7 hpu7
          have hq0 : (q == 0) = false := by rw [beq_eq_false_iff_ne]; rcases hq with h | h | h <;> omega
          clear hq
          go_wp2_with fail
          exact ⟨⟨k + 1, es, os, by simp, by omega, HPU7.out, HO7.out, by omega, HB7.out⟩, by simp only [intOf]; omega⟩
      · have hd : decide (0 < m) = false := by rw [decide_eq_false_iff_not]; exact hmp
        obtain ⟨A8, c8, rfl⟩ := HO6.out.slice
        by_cases hn : 0 < os.length
        · have hdn : decide ((0 : Int) < (os.length : Int)) = true := by rw [decide_eq_true_iff]; omega
          obtain ⟨j, hj⟩ : ∃ j : Nat, xa % (os.length : Int) = (j : Int) := ⟨(xa % (os.length : Int)).toNat, by rw [Int.toNat_of_nonneg (Int.emod_nonneg _ (by omega))]⟩
          have hjn : j < os.length := by have := Int.emod_lt_of_pos xa (show (0 : Int) < (os.length : Int) by omega); omega
          have HRS := Lib.hid (fun W : World => rest_any xa (os.length : Int) W hx2 (by omega))
          have HJ := Lib.hid hj
          clear hj
          go_wp2_with fail
          refine (HRS.out _).mono ?_
          rintro e w7 ⟨rfl, rfl⟩
          rw [HJ.out]
          clear HRS HJ
          obtain ⟨g, off, c9, hv9, hc9, hg9, hcell⟩ := slr_out (SlR.of_owns HO6.out) hn
          injection hv9 with f1 f2 f3
          subst f1 f3
          have c0 := hcell j hjn
          have HSP := Lib.hid (take_cons_drop os j hjn)
          clear hcell f2
          generalize os[j] = oj at *
          go_wp2_with fail
          refine (dropP_pu _ p mb 1000000 es (os.take j) (os.drop (j + 1)) oj _ (by rw [← HSP.out]; exact HPU6.out) (by rw [← HSP.out]; omega)).mono ?_
          rintro e w7 ⟨rfl, rf7, es', hpu7⟩
          have HO7 := Lib.hid (HO6.out.rf rf7 rfl)
          have HB7 := Lib.hid (HB6.out.trans rf7.bel)
          have HPU7 := Lib.hid hpu7
          clear rf7 hpu7 c0 e1 e3
          have hj1 : j ≤ c8 := by omega
          have hj2 : j + 1 ≤ os.length := hjn
          have hwj : IntKind.i64.wrap ((j : Int) + 1) = (j : Int) + 1 := by rw [IntKind.wrap_i64]; omega
          have hsl := fun W => run_from g off os.length c8 j W hj2
          go_wp2_with fail
          refine wp_region_seq [(true, 0), (true, 1), (true, 2), (true, 4), (true, 5), (true, 6), (true, 7), (false, 3), (false, 8), (true, 9)] (fun w' => Below w7.heap.size w7 w') (by kernel_rfl) (by kernel_rfl) (fun _ _ _ _ _ h => h) (by kernel_rfl) (by kernel_rfl) (by first | exact (Below.refl _ _).drew | exact Below.drew (by assumption)) ?_
          have bS : Below w7.heap.size w7 _ := (by first | exact Below.drew (by assumption) | exact (Below.refl _ w7).drew)
          iterate 7 (first | (apply seqH_skip; (focus (simp only [List.getElem?_toArray, List.getElem?_cons_succ, List.getElem?_cons_zero]; rfl)); (focus rfl); simp only [Act.put, List.setIfInBounds_toArray, List.set_cons_zero, List.set_cons_succ]) | (apply seqH_take; (focus (simp only [List.getElem?_toArray, List.getElem?_cons_succ, List.getElem?_cons_zero]; rfl)); (focus rfl); (focus (intro w' hS; skip; first | (go_simp; rfl) | (go_simp; done))); simp only [Act.put, List.setIfInBounds_toArray, List.set_cons_zero, List.set_cons_succ]) | (apply seqH_pass; (focus (simp only [List.getElem?_toArray, List.getElem?_cons_succ, List.getElem?_cons_zero]; rfl)); (focus rfl); (focus assumption); simp only [Act.put, List.setIfInBounds_toArray, List.set_cons_zero, List.set_cons_succ]))
          apply seqH_eff
          (focus (simp only [List.getElem?_toArray, List.getElem?_cons_succ, List.getElem?_cons_zero]; rfl))
          (focus rfl)
          intro K hK
          have HTA : Hid (SlR w7.drew e_ot (.slice (some ⟨g, off, none⟩) j c8) (os.take j)) := ((SlR.of_owns HO7.out).drew).take_ j (by omega)
          have HTD : Hid (SlR w7.drew e_ot (.slice (if c8 = j + 1 then some ⟨g, off, none⟩ else some ⟨g, off + (j + 1), none⟩) (os.length - (j + 1)) (c8 - (j + 1))) (os.drop (j + 1))) := SlR.drop_ (size := 1) (fun _ => rfl) (SlR.of_owns HO7.out).drew (j + 1) (by omega) _ (fun h => by rw [if_neg (by omega), Nat.mul_one])
          have HTB : Hid (∀ u ∈ (os.take j).flatMap e_ot, u.oneCell' = true) := e_ot_one (HPU7.out.out.sub (os' := os.take j) (fun x hx => List.mem_append_left _ hx))
          have HTC : Hid (∀ u ∈ (os.drop (j + 1)).flatMap e_ot, u.oneCell' = true) := e_ot_one (HPU7.out.out.sub (os' := os.drop (j + 1)) (fun x hx => List.mem_append_right _ hx))
          have hlt1 : (os.take j).length ≤ 418861572474 := by rw [List.length_take]; omega
          have hlt2 : (os.take j).length + (os.drop (j + 1)).length ≤ 418861572474 := by rw [List.length_take, List.length_drop]; omega
          refine wp_append_owns (.const (.slice none 0 0)) (.tmp 71) _ rfl w7.heap.size 42 (.slice none 0 0) 1 24 e_ot Try.underlying48 sliceInfo rfl (by decide) (fun _ => rfl) _ [] rfl (Owns.nil ..) _ (os.take j) rfl HTA.out HTB.out (by simp only [maxLen, List.length_nil]; omega) (by simp only [List.length_nil]; omega) (Nat.le_refl _) ?_
          intro v8 w8 ho8 hg8
          have bel8 : Below w7.drew.heap.size w7.drew w8 := (Below.refl _ _).grown hg8 (Nat.le_refl _) (fun k hk => by cases hk)
          have sC : Below w7.heap.size w7 w8 := (Below.refl _ w7).drew.trans bel8
          have HTD8 := Lib.hid (HTD.out.below bel8)
          have HO8 := Lib.hid ho8
          have HPU8 := Lib.hid (HPU7.out.below sC)
          have HB8 := Lib.hid (HB7.out.trans (sC.mono HB7.out.size))
          refine hK _ _ ⟨sC, ?_⟩
          clear hK K ho8 hg8 bel8
          apply seqH_eff
          (focus (simp only [List.getElem?_toArray, List.getElem?_cons_succ, List.getElem?_cons_zero]; rfl))
          (focus rfl)
          intro K hK
          refine wp_append_owns (.tmp 72) (.tmp 76) _ rfl w7.heap.size 42 (.slice none 0 0) 1 24 e_ot Try.underlying48 sliceInfo rfl (by decide) (fun _ => rfl) _ (os.take j) rfl HO8.out _ (os.drop (j + 1)) rfl HTD8.out HTC.out (by simp only [maxLen]; omega) (by omega) sC.size ?_
          intro v9 w9 ho9 hg9
          have sD : Below w7.heap.size w7 w9 := sC.grown hg9 sC.size (fun j hj => (HO8.out.lt j hj).1)
          have HO9 := Lib.hid (ho9.mono HB7.out.size)
          have HPU9 := Lib.hid (HPU8.out.grow HO8.out hg9 rfl)
          have HB9 := Lib.hid (HB8.out.grown hg9 HB8.out.size (fun j hj => Nat.le_trans HB7.out.size (HO8.out.lt j hj).1))
          refine hK _ _ ⟨sD, ?_⟩
          clear hK K ho9 hg9
          iterate 1 (first | (apply seqH_skip; (focus (simp only [List.getElem?_toArray, List.getElem?_cons_succ, List.getElem?_cons_zero]; rfl)); (focus rfl); simp only [Act.put, List.setIfInBounds_toArray, List.set_cons_zero, List.set_cons_succ]) | (apply seqH_take; (focus (simp only [List.getElem?_toArray, List.getElem?_cons_succ, List.getElem?_cons_zero]; rfl)); (focus rfl); (focus (intro w' hS; skip; first | (go_simp; rfl) | (go_simp; done))); simp only [Act.put, List.setIfInBounds_toArray, List.set_cons_zero, List.set_cons_succ]) | (apply seqH_pass; (focus (simp only [List.getElem?_toArray, List.getElem?_cons_succ, List.getElem?_cons_zero]; rfl)); (focus rfl); (focus assumption); simp only [Act.put, List.setIfInBounds_toArray, List.set_cons_zero, List.set_cons_succ]))
          refine seqH_nil ?_
          go_wp2_with fail
          exact ⟨⟨k + 1, es', os.take j ++ os.drop (j + 1), by simp, by omega, HPU9.out, HO9.out, by simp; omega, HB9.out⟩, by simp only [intOf]; omega⟩
        · obtain rfl : os = [] := List.eq_nil_of_length_eq_zero (by omega)
          go_wp2_with fail
          exact ⟨⟨k + 1, es, [], by simp, by omega, HPU6.out, HO6.out, by simp, HB6.out⟩, by simp only [intOf]; omega⟩
    · obtain rfl : k = xs.length := by omega
      have HPU' := Lib.hid hpu
      clear hpu
      go_wp2_with fail
      go_ret2
      exact ⟨p, mb, _, es, os, rfl, HPU'.out, HO.out, hol, hbel⟩
end Go.Proofs.Ythhhlaoiampinaa
namespace Go.Proofs.Ythhhlaoiampinaa
set_option maxRecDepth 20000
open Go.RowKit Go.Shelf
theorem pick_es {es : List Pe} {cs : List ByteArray} (h : RepS es cs) : ∀ (ds : List ByteArray), (∀ t ∈ ds, t ∈ cs) → ∃ ys : List Pe, (∀ x ∈ ys, x ∈ es) ∧ ys.map (·.t) = ds ∧ ys.map (·.n) = ds.map hxn
  | [], _ => ⟨[], by simp, rfl, rfl⟩
  | t :: ds, hd => by
    obtain ⟨ys, h1, h2, h3⟩ := pick_es h ds (fun u hu => hd u (List.mem_cons_of_mem _ hu))
    obtain ⟨x, hx, e⟩ := h.mem t (hd t (by simp))
    refine ⟨x :: ys, fun y hy => (List.mem_cons.1 hy).elim (fun e => e ▸ hx) (h1 y), by rw [List.map_cons, h2, e], ?_⟩
    rw [List.map_cons, List.map_cons, h3, (h.ent x hx).1, e]
theorem mkS_flat (l : List (List UInt8)) : (l.map mkS).flatMap sl = l.flatten := by
  induction l with
  | nil => rfl
  | cons x l ih => rw [List.map_cons, List.flatMap_cons, ih, sl_mkS, List.flatten_cons]
theorem cutB_flat (s : ByteArray) : (cutB s).flatMap sl = sl s := by
  unfold cutB
  rw [mkS_flat, Pc.cut_flat]
theorem flatT_t (ys : List Pe) : flatT ys = (ys.map (·.t)).flatMap sl := by
  unfold flatT
  rw [List.flatMap_map]
theorem sumT_t (ys : List Pe) : sumT ys = ((ys.map (·.t)).map (·.size)).sum := by
  unfold sumT
  rw [List.map_map]
  rfl
/-- Get of one that was put. -/
theorem getP_pu (n0 p mb : Nat) (room : Int) (es : List Pe) (os : List Out) (x : Out) (w : World) (h : PU w n0 p mb room es os) (hx : x ∈ os) :
    Calls Try.prog 26 #[ptr p, x.1] w fun e w' => e = .returned (.tuple #[.string x.2, .int .i64 0]) ∧ Below w.heap.size w w' := by
  obtain ⟨ys, h1, h2, h3⟩ := pick_es h.rep (cutB x.2) (fun t ht => List.mem_flatMap.2 ⟨x, hx, ht⟩)
  have h5 := cutB_5000 (h.out.sz x hx)
  have hyl : ys.length = (cutB x.2).length := by rw [← h2, List.length_map]
  refine (getP_all n0 p mb room es ys x.1 w h.st h1 (by rw [h3]; exact SlR.of_owns (h.out.own x hx)) (by omega) h.rep.nz).mono ?_
  rintro e w' ⟨rfl, hb⟩
  rw [sumT_t, h2, cutB_sum, if_pos (h.out.sz x hx), flatT_t, h2, cutB_flat, mkS_sl]
  exact ⟨rfl, hb⟩
theorem used_le {es : List Pe} : ∀ {cs : List ByteArray}, (es.map (·.t)).Nodup → (∀ x ∈ es, x.t ∈ cs) → usedP es ≤ ((cs.map (·.size)).sum : Nat) := by
  induction es with
  | nil => intro cs _ _; simp [usedP]
  | cons x l ih =>
    intro cs hn hm
    rw [List.map_cons, List.nodup_cons] at hn
    obtain ⟨a, b, rfl⟩ := List.append_of_mem (hm x (by simp))
    have h1 := ih (cs := a ++ b) hn.2 (fun y hy => by
      have := hm y (List.mem_cons_of_mem _ hy)
      simp only [List.mem_append, List.mem_cons] at this ⊢
      rcases this with h | h | h
      · exact .inl h
      · exact absurd (List.mem_map.2 ⟨y, hy, h⟩) hn.1
      · exact .inr h)
    simp only [usedP, List.map_cons, List.sum_cons, List.map_append, List.sum_append] at h1 ⊢
    omega
def sumO (os : List Out) : Nat := (os.map fun x => x.2.size).sum
theorem sumO_all (os : List Out) : ((allT os).map (·.size)).sum = sumO os := by
  induction os with
  | nil => rfl
  | cons x l ih =>
    unfold allT sumO at ih ⊢
    rw [List.flatMap_cons, List.map_append, List.sum_append, ih, cutB_sum, List.map_cons, List.sum_cons]
theorem sumO_snoc (a : List Out) (x : Out) : sumO (a ++ [x]) = sumO a + x.2.size := by simp [sumO]
theorem sumO_le {os : List Out} (h : ∀ x ∈ os, x.2.size ≤ 5000) : sumO os ≤ 5000 * os.length := by
  induction os with
  | nil => simp [sumO]
  | cons x l ih =>
    have h1 := ih (fun y hy => h y (List.mem_cons_of_mem _ hy))
    have h2 := h x (by simp)
    simp only [sumO, List.map_cons, List.sum_cons, List.length_cons] at h1 ⊢
    omega
theorem PU.used_le {w : World} {n0 p mb : Nat} {room : Int} {es : List Pe} {os : List Out} (h : PU w n0 p mb room es os) : usedP es ≤ (sumO os : Nat) := by
  rw [← sumO_all]
  exact Go.Proofs.Ythhhlaoiampinaa.used_le (h.rep.tnd h.st.kd) fun x hx => cntK_pos.1 (by have := h.rep.ent x hx; omega)
theorem PU.empty {w : World} {n0 p mb : Nat} {room : Int} {es : List Pe} (h : PU w n0 p mb room es []) : es = [] := by
  cases es with
  | nil => rfl
  | cons x l =>
    have h1 := h.rep.ent x (by simp)
    have h2 := cntK_le (allT []) x.t
    have h3 : (allT []).length = 0 := rfl
    omega
end Go.Proofs.Ythhhlaoiampinaa
