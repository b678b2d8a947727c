import Derived.Test.YtgnblkmpoigejaaGreatDoorU11
import Derived.Test.YtgnblkmpoigejaaGreatDoorU10
import Derived.Test.YtgnblkmpoigejaaGreatDoorU1
import Derived.Test.YtgnblkmpoigejaaGreatDoorU2
import Derived.Test.YtgnblkmpoigejaaGreatDoorU3
import Derived.WalkSpells
import Derived.Test.YtgnblkmpoigejaaGreatDoorU9
import Derived.IntWalk
set_option linter.unusedVariables false
set_option linter.unusedSimpArgs false
namespace Go.Proofs.YtgnblkmpoigejaaGreatDoor
set_option maxRecDepth 20000
open Go.RowKit Go.Shelf
theorem gcell (w : World) (a : Addr) (v : Value) : w.grownBy (w.setCell a v) (some a.block) :=
 ⟨rfl, rfl, rfl, by simp [World.setCell], fun k _ hne => Below.heap_setCell _ _ _ _ (fun e => hne (by rw [e]))⟩
set_option maxHeartbeats 8000000 in
theorem dropP_okG (n0 : Lim) (p mb : Nat) (room : Int) (es : List Pe) (v : Value) (ks : List ByteArray) (w : World) (h : PileS w n0 p room mb es) (hv : SlR w Go.Proofs.YtgnblkmpoigejaaGreatDoor.es v ks) (hl : ks.length ≤ 1048576)
  (hz : ∀ k ∈ ks, k.size ≤ maxLen) (hc : ∀ x ∈ es, 1 ≤ x.c ∧ x.c ≤ 4611686018427387904) (hk : ∀ n ∈ ks, ∃ x ∈ es, x.n = n ∧ (cntK ks n : Int) ≤ x.c) :
  Calls Tryz.prog 38 #[ptr p, v] w fun e w' => e = .returned (.int .i64 0) ∧ RG RP mb n0 w w' ∧ PileS w' n0 p room mb (cutE (fun _ => true) ks es) := by
 have hmm := @run_makeMap Tryz.prog
 have hm0 := MapS.made w Tryz.prog 9
 have hA := (Below.refl _ w).alloc (Nat.le_refl _) (.map #[] 0)
 have HS := Lib.hid h
 have HC := Lib.hid hc
 have HK := Lib.hid hk
 have HZ := Lib.hid hz
 have HT := Lib.hid (fun hn => SlR.texts (xs := ks) hv hn)
 have hn0w : n0.lo ≤ w.heap.size := h.hz
 obtain ⟨Ak, ck, rfl, hck⟩ := SlR.form (xs := ks) hv
 clear h hc hk hz hv
 go_enter Tryz.func38, Tryz.ntmps38
 go_wp2_with fail
 have HL : Hid ((w.alloc (.map #[] 0)).heap.size = w.heap.size + 1) := by show _ = _; simp
 generalize w.alloc (.map #[] 0) = w1 at *
 obtain ⟨fb, hfb⟩ : ∃ fb, fb = w.heap.size := ⟨_, rfl⟩
 rw [← hfb] at hm0 ⊢
 have HFB := Lib.hid hfb
 have HA := Lib.hid hA
 clear hfb hA
 have hg1 : w1.grownBy w1 (some fb) := World.grownBy.refl _ _
 go_loopw [17] (fun iv wr => ∃ (k c : Nat), iv = .int .i64 (k : Int) ∧ k ≤ ks.length ∧ MapS Tryz.prog wr 9 fb (ocF (ks.take k)) c ∧ c ≤ k ∧ w1.grownBy wr (some fb)) (fun iv _ => ks.length - (intOf iv).toNat)
 case atStart => exact ⟨0, 0, rfl, Nat.zero_le _, hm0, Nat.le_refl _, hg1⟩
 case round =>
  obtain ⟨k, c, rfl, hk, hmp, hck2, hgr⟩ := hrel
  have HGR := Lib.hid hgr
  have HMP := Lib.hid hmp
  by_cases hlt : k < ks.length
  ·obtain ⟨bb, off, c3, hv2, hc3, hbb, hcell⟩ := HT.out (by omega)
   injection hv2 with g1 g2 g3
   subst g1 g3
   have c0 := hgr.cell ((HA.out.cell (p := ⟨bb, off + k, none⟩) hbb).trans (hcell k hlt)) (by intro e; injection e with e; have := HFB.out; change bb = fb at e; omega)
   have HTK : Hid (ks.take (k + 1) = ks.take k ++ [ks[k]]) := by show _ = _; rw [List.take_add_one, List.getElem?_eq_getElem hlt]; rfl
   have hsz := HZ.out ks[k] (List.getElem_mem hlt)
   clear hcell g2 hgr hmp hc3
   generalize ks[k] = n at *
   have hlk := HMP.out.look (t := 137) (e := 3) (k := n) Tryz.underlying9 Tryz.underlying137 (z := .int .i64 0) rfl hsz
   rw [ocF_getD] at hlk
   have hcl : cntK (ks.take k) n ≤ k := Nat.le_trans (cntK_le _ _) (by rw [List.length_take]; omega)
   have hadd : IntKind.i64.wrap ((cntK (ks.take k) n : Int) + 1) = (cntK (ks.take k) n : Int) + 1 := by rw [IntKind.wrap_i64]; omega
   have hmx : c < maxLen := by simp only [maxLen]; omega
   go_wp2_with (refine wpList_upd rfl (.tmp 21) (.tmp 22) (.tmp 24) rfl rfl HMP.out Tryz.underlying9 Tryz.underlying137 n (.int .i64 ((cntK (ks.take k) n : Int) + 1)) rfl rfl hsz hmx ?_; intro w2 hm2 hg2)
   refine ⟨⟨k + 1, _, by simp, by omega, hm2.congr (fun x => by rw [HTK.out]; exact ocF_put _ _ _) rfl, by split <;> omega, gr_row HGR.out hg2 (fun j hj => by cases hj; exact .inr rfl)⟩, by simp only [intOf]; omega⟩
  ·obtain rfl : k = ks.length := by omega
   have htk : ks.take ks.length = ks := List.take_of_length_le (Nat.le_refl _)
   rw [htk] at HMP
   have hb : Below w.heap.size w wr := HA.out.grown hgr HA.out.size (fun j hj => by cases hj; exact Nat.le_of_eq HFB.out.symm)
   have hwf : w.heap.size < wr.heap.size := by have := hgr.size; have := HL.out; omega
   have hps := HS.out.below hb
   have HB := Lib.hid hb
   clear hgr hmp hm0 hg1 htk hb hk hlt
   go_wp2_with (refine wpList_rangeS rfl (.tmp 26) rfl rfl HMP.out Tryz.underlying9 Tryz.underlying137 ?_; intro w6 hrg hg6 hz6)
   obtain ⟨rb, hrb⟩ : ∃ rb, rb = wr.heap.size := ⟨_, rfl⟩
   rw [← hrb] at hrg ⊢
   have hb6 : Below w.heap.size w w6 := HB.out.grown hg6 (by omega) (fun j hj => by cases hj)
   have HRB := Lib.hid hrb
   have HZ6 : Hid (w6.heap.size = rb + 1) := by show _ = _; rw [hz6, hrb]
   have hrw : w.heap.size < rb := by omega
   clear hrb hg6 hz6 hps HB
   simp only [Act.put, List.setIfInBounds_toArray, List.set_cons_zero, List.set_cons_succ]
   go_loopw [8] (fun _ wl => ∃ (left : ByteArray → Bool) (cnt : Nat), RngS Tryz.prog wl 9 fb rb (ocF ks) left cnt ∧ Below w.heap.size w wl ∧ rb < wl.heap.size) (fun _ wl => wl.rangeLeft fb rb)
   case atStart => exact ⟨_, _, hrg, hb6, by have := HZ6.out; omega⟩
   case round =>
    obtain ⟨left, cnt, hr, hb, hsz⟩ := hrel
    have HR := Lib.hid hr
    have HB := Lib.hid hb
    have hSS := HS.out.below hb
    have HSS := Lib.hid hSS
    have p2 := hSS.blk.cell 2
    clear hr hb hrg hb6 hSS
    obtain ⟨c2, hm2⟩ := HR.out.map
    go_wp2_with (first | (refine wpList_rangeS rfl (.tmp 49) rfl rfl hm2 Tryz.underlying9 Tryz.underlying137 ?_; intro w8 hrg hg8 hz8) | (refine wpList_nextS rfl (.tmp 27) rfl Tryz.underlying9 rfl HR.out (fun h0 hnone => ?hd) (fun x v w7 cnt7 hxz hlx hfx hr7 hlt7 hg7 hz7 hen => ?hm); case' hm => (obtain ⟨hxk, rfl⟩ := ocF_inv hfx; obtain ⟨e, he, hen2, hec⟩ := HK.out x hxk; have hS7 : PileS w7 n0 p room mb es := HS.out.below (HB.out.grown hg7 (by omega) (fun j hj => by cases hj; omega)); have p2 := hS7.blk.cell 2; have x1 := (hS7.node e he).cell 1; have hlk := hS7.mp.look (t := 127) (e := 126) (k := x) Tryz.underlying9 Tryz.underlying127 (z := .pointer none) rfl hxz; rw [← hen2, pF_some hS7.kd he, hen2] at hlk; have hcmp : decide (e.c < (cntK ks x : Int)) = false := by rw [decide_eq_false_iff_not]; omega)))
    ·refine ⟨⟨_, _, hr7, HB.out.grown hg7 (by omega) (fun j hj => by cases hj; omega), by rw [hz7]; omega⟩, ?_⟩
     show w7.rangeLeft fb rb < wr.rangeLeft fb rb
     rw [hr7.left_eq, HR.out.left_eq]
     exact hlt7
    ·obtain ⟨rd, hrd⟩ : ∃ rd, rd = wr.heap.size := ⟨_, rfl⟩
     rw [← hrd] at hrg ⊢
     have hb8 : Below w.heap.size w w8 := HB.out.grown hg8 (by omega) (fun j hj => by cases hj)
     have hrw : w.heap.size < rd := by omega
     have hsz8 : rd < w8.heap.size := by rw [hz8, hrd]; omega
     have hT8 := (HS.out.below hb8).toT
     have HP1 : Hid (∀ x ∈ es, 1 ≤ x.c) := fun x hx => (HC.out x hx).1
     have HRM := Lib.hid HS.out.rm
     have HSZ := Lib.hid HS.out.sz
     have HUS := Lib.hid HS.out.us
     have hst : cutE (wasD ks fun k => (ocF ks k).isSome) ks es = es := by
      have : (wasD ks fun k => (ocF ks k).isSome) = fun _ => false := by funext k; unfold wasD; cases hq : (ocF ks k).isSome <;> simp [hq]
      rw [this, cutE_start HP1.out]
     have hmbw : mb < w.heap.size := HS.out.mp.lt
     have hfbr : fb < rd := by have := HFB.out; omega
     clear hrd hg8 hz8 HB HR p2 h0 hnone HSS hm2
     simp only [Act.put, List.setIfInBounds_toArray, List.set_cons_zero, List.set_cons_succ]
     go_loopw [11] (fun _ wl => ∃ (left : ByteArray → Bool) (cnt : Nat), RngS Tryz.prog wl 9 fb rd (ocF ks) left cnt ∧ PileT wl n0 p room (usedP (cutE (wasD ks left) ks es)) mb (cutE (wasD ks left) ks es) ∧ RG RP mb n0 w wl ∧ rd < wl.heap.size) (fun _ wl => wl.rangeLeft fb rd)
     case atStart => exact ⟨_, _, hrg, by rw [hst]; exact hT8, RG.of_below hb8 hn0w, hsz8⟩
     case round =>
      obtain ⟨left, cnt, hr, hT, hRF, hsz⟩ := hrel
      have HR := Lib.hid hr
      have HTT := Lib.hid hT
      have HRF := Lib.hid hRF
      clear hr hT hRF hrg hT8 hst hsz8 hb8
      go_wp2_with (refine wpList_nextS rfl (.tmp 50) rfl Tryz.underlying9 rfl HR.out (fun h0 hnone => ?hd3) (fun x v w7 cnt7 hxz hlx hfx hr7 hlt7 hg7 hz7 hen => ?hm3); case' hm3 => (have HR7 := Lib.hid hr7; have HG7 := Lib.hid hg7; have hz7' := hz7; clear hr7 hg7; obtain hg7 := HG7.out; obtain ⟨hxk, rfl⟩ := ocF_inv hfx; obtain ⟨e, he, hen2, hec⟩ := HK.out x hxk; have HDX : Hid (wasD ks left e.n = false) := (by show _ = _; simp [wasD, hen2, hlx]); have HEM : Hid (e ∈ cutE (wasD ks left) ks es) := cutE_mem he HDX.out (HC.out e he).1; have hT7 := HTT.out.keptO hg7 (fun j hj => by cases hj; obtain ⟨m, s, se, c, hi⟩ := HR.out.iter; exact ⟨_, hi, rfl⟩); have HT7 := Lib.hid hT7; have p2 := hT7.blk.cell 2; have x1 := (hT7.node e HEM.out).cell 1; have f1 := (hT7.node e HEM.out).frozen 1; have hlk := hT7.mp.look (t := 127) (e := 126) (k := x) Tryz.underlying9 Tryz.underlying127 (z := .pointer none) rfl hxz; rw [← hen2, pF_some hT7.kd HEM.out, hen2] at hlk; clear hT7; obtain ⟨vv, hvv⟩ : ∃ vv, vv = e.c - (cntK ks x : Int) := ⟨_, rfl⟩; have hec1 := (HC.out e he).1; have hec2 := (HC.out e he).2; have hsub : IntKind.i64.wrap (e.c - (cntK ks x : Int)) = vv := (by rw [IntKind.wrap_i64]; omega); have HVV := Lib.hid hvv; have HEC := Lib.hid hec; clear hvv hec; by_cases hv0 : vv = 0))
      ·subst hv0
       have hsT := HT7.out.setc HEM.out 0
       have HST := Lib.hid hsT
       have hei : ({ e with c := 0 } : Pe) ∈ upC (cutE (wasD ks left) ks es) e.n 0 := List.mem_map.2 ⟨e, HEM.out, by rw [if_pos rfl]⟩
       have q1 := hsT.blk.cell 1
       have q2 := hsT.blk.cell 2
       have fq := hsT.blk.frozen 1
       have q0 := (hsT.node _ hei).cell 0
       have hU1 := usedP_cut (D := wasD ks left) (ks := ks) (es := es)
       have hU2 := usedP_mem HEM.out
       have hU3 := HUS.out
       have hU4 := HRM.out
       have heb : e.b < w.heap.size := (HS.out.node e he).lt
       have hR8 : Hid (RngS Tryz.prog (w7.setCell ⟨e.b, 1, none⟩ (.int .i64 0)) 9 fb rd (ocF ks) (fun k => left k && !decide (k = x)) cnt7) := HR7.out.kept (gcell w7 ⟨e.b, 1, none⟩ _) (fun h => by injection h with h; have := HFB.out; change fb = e.b at h; omega) (fun h => by injection h with h; change rd = e.b at h; omega)
       have hF7 : RG RP mb n0 w w7 := HRF.out.grownN hg7 (by omega) (fun j hj => by cases hj; exact ⟨.inl (by omega), .inl (by omega)⟩)
       have hF8 : Hid (RG RP mb n0 w (w7.setCell ⟨e.b, 1, none⟩ (.int .i64 0))) := hF7.set_ (HT7.out.node e HEM.out) (HS.out.b0.2.2 e he) rfl _
       have hSZ8 : Hid (rd < (w7.setCell ⟨e.b, 1, none⟩ (.int .i64 0)).heap.size) := by show _ < _; simp [World.setCell]; omega
       have HEI := Lib.hid hei
       clear hsT hei x1 p2 f1 hlk hsub
       obtain ⟨U, hU⟩ : ∃ U, U = usedP (cutE (wasD ks left) ks es) := ⟨_, rfl⟩
       rw [← hU] at q1 hU1 hU2 HST
       have hsb : IntKind.i64.wrap (U - (e.t.size : Int)) = U - (e.t.size : Int) := by rw [IntKind.wrap_i64]; omega
       have HU := Lib.hid hU
       clear hU hU1 hU2 hU3 hU4
       generalize w7.setCell ⟨e.b, 1, none⟩ (.int .i64 0) = ws at *
       refine wp_region_last [(true, 0), (true, 1), (true, 2), (true, 3), (true, 4), (true, 5), (true, 6), (true, 7), (true, 8), (true, 9), (true, 10), (true, 11), (false, 12)] 12 (fun w' => w' = ws.drew) (by kernel_rfl) (by kernel_rfl) (by kernel_rfl) (fun _ _ _ _ _ h => h) (by kernel_rfl) (by kernel_rfl) ?_ ?_
       ·rfl
       iterate 12 (first | (apply seqL_skip; (focus (simp only [List.getElem?_toArray, List.getElem?_cons_succ, List.getElem?_cons_zero]; rfl)); (focus rfl); simp only [Act.put, List.setIfInBounds_toArray, List.set_cons_zero, List.set_cons_succ]) | (apply seqL_take; (focus (simp only [List.getElem?_toArray, List.getElem?_cons_succ, List.getElem?_cons_zero]; rfl)); (focus rfl); (focus (intro w' hS; subst hS; first | (go_simp; rfl) | (go_simp; done))); simp only [Act.put, List.setIfInBounds_toArray, List.set_cons_zero, List.set_cons_succ]))
       apply seqL_eff
       (focus (simp only [List.getElem?_toArray, List.getElem?_cons_succ, List.getElem?_cons_zero]; rfl))
       (focus rfl)
       intro K hK
       go_simp
       refine hK _ _ ⟨fun h => absurd rfl h, ?_⟩
       clear hK K
       refine seqL_nil ?_
       have hT9 := (HST.out.use (V := U - (e.t.size : Int))).drew
       have hg9 : ws.grownBy (ws.setCell ⟨p, 1, none⟩ (.int .i64 (U - (e.t.size : Int)))).drew (some p) := ⟨rfl, rfl, rfl, by simp [World.setCell], fun k _ hne => Below.heap_setCell _ _ _ _ (fun e => hne (by rw [e]))⟩
       have hp9 : p < w.heap.size := HS.out.blk.lt
       have hR9 := hR8.out.kept hg9 (fun h => by injection h with h; have := HFB.out; omega) (fun h => by injection h with h; omega)
       have hF9 := (hF8.out.set_ (i := 1) HST.out.blk HS.out.b0.1 rfl (.int .i64 (U - (e.t.size : Int)))).drew
       have hS9 : rd < (ws.setCell ⟨p, 1, none⟩ (.int .i64 (U - (e.t.size : Int)))).drew.heap.size := by have := hSZ8.out; have := hg9.size; omega
       have q2' := hT9.blk.cell 2
       clear q0 q1 q2 fq hg9
       generalize (ws.setCell ⟨p, 1, none⟩ (.int .i64 (U - (e.t.size : Int)))).drew = w9 at *
       have HT9 := Lib.hid hT9
       have HR9 := Lib.hid hR9
       have HF9 := Lib.hid hF9
       have HS9 := Lib.hid hS9
       clear hT9 hR9 hF9 hS9
       go_wp2_with (refine wpList_del rfl (.tmp 90) (.tmp 91) rfl rfl HT9.out.mp Tryz.underlying9 Tryz.underlying127 x rfl hxz ?_; intro wa hma hga)
       have hkd1 : ((upC (cutE (wasD ks left) ks es) e.n 0).map (·.n)).Nodup := HT9.out.kd
       have hrm := rm_one hkd1 HEI.out
       have hpf9 := pF_some hkd1 HEI.out
       have hrm1 : (rmN (upC (cutE (wasD ks left) ks es) e.n 0) x).length + 1 = (upC (cutE (wasD ks left) ks es) e.n 0).length := by rw [← hen2]; exact hrm.1
       have hrm2 : usedP (rmN (upC (cutE (wasD ks left) ks es) e.n 0) x) + (e.t.size : Int) = U := by rw [HU.out, ← usedP_upC (es := cutE (wasD ks left) ks es) (t := e.n) (v := 0), ← hen2]; exact hrm.2
       have hse : ((pF (upC (cutE (wasD ks left) ks es) e.n 0)) x).isSome = true := by rw [← hen2]; rw [hpf9]; rfl
       rw [if_pos hse] at hma
       have hTa := HT9.out.del hma (by omega) hga
       have hce : rmN (upC (cutE (wasD ks left) ks es) e.n 0) x = cutE (wasD ks fun k => left k && !decide (k = x)) ks es := by
        rw [hen2, cutE_rm (by have := HDX.out; rwa [hen2] at this) (fun y hy hyx => ?_) (fun y hy => HP1.out y hy)]
        ·exact cutE_congr fun y _ => .inl (wasD_step (by rw [hfx]; rfl) y.n).symm
        ·have hye : y = e := nodup_inj HS.out.kd hy he (hyx.trans hen2.symm)
         rw [hye]
         exact HVV.out.symm
       have hue : U - (e.t.size : Int) = usedP (cutE (wasD ks fun k => left k && !decide (k = x)) ks es) := by rw [← hce]; omega
       rw [hue, hce] at hTa
       have hRa := HR9.out.kept hga (fun h => by injection h with h; have := HFB.out; omega) (fun h => by injection h with h; omega)
       have hFa := HF9.out.grown hga (by have := HF9.out.size; omega) (fun j hj => by cases hj; exact ⟨HS.out.b0.2.1, by obtain ⟨e1, c1, hi⟩ := HT9.out.mp.isMapObj; exact ⟨_, hi, by simp [okG]⟩⟩)
       have hSa : rd < wa.heap.size := by have := HS9.out; have := hga.size; omega
       have hlt : wa.rangeLeft fb rd < wr.rangeLeft fb rd := by rw [hRa.left_eq, HR.out.left_eq]; exact hlt7
       exact ⟨⟨_, _, _, _, _, _, _, _, _, _, _, _, _, _, _, _, _, _, _, _, _, _, _, _, _, _, _, _, _, _, _, _, _, _, _, _, _, _, _, _, _, _, _, _, ⟨_, cnt7, hRa, hTa, hFa, hSa⟩, rfl⟩, hlt⟩
      ·have heb : e.b < w.heap.size := (HS.out.node e he).lt
       have hRa : RngS Tryz.prog (w7.setCell ⟨e.b, 1, none⟩ (.int .i64 vv)) 9 fb rd (ocF ks) (fun k => left k && !decide (k = x)) cnt7 := HR7.out.kept (gcell w7 ⟨e.b, 1, none⟩ _) (fun h => by injection h with h; have := HFB.out; change fb = e.b at h; omega) (fun h => by injection h with h; change rd = e.b at h; omega)
       have hF7 : RG RP mb n0 w w7 := HRF.out.grownN hg7 (by omega) (fun j hj => by cases hj; exact ⟨.inl (by omega), .inl (by omega)⟩)
       have hFa : RG RP mb n0 w (w7.setCell ⟨e.b, 1, none⟩ (.int .i64 vv)) := hF7.set_ (HT7.out.node e HEM.out) (HS.out.b0.2.2 e he) rfl _
       have hSa : rd < (w7.setCell ⟨e.b, 1, none⟩ (.int .i64 vv)).heap.size := by simp [World.setCell]; omega
       have hTa := HT7.out.setc HEM.out vv
       have hce : upC (cutE (wasD ks left) ks es) e.n vv = cutE (wasD ks fun k => left k && !decide (k = x)) ks es := by
        rw [hen2, cutE_set (by have := HDX.out; rwa [hen2] at this) (fun y hy hyx => ?_) (fun y hy => HP1.out y hy) hv0]
        ·exact cutE_congr fun y _ => .inl (wasD_step (by rw [hfx]; rfl) y.n).symm
        ·have hye : y = e := nodup_inj HS.out.kd hy he (hyx.trans hen2.symm)
         rw [hye]
         exact HVV.out.symm
       have hue : usedP (cutE (wasD ks left) ks es) = usedP (cutE (wasD ks fun k => left k && !decide (k = x)) ks es) := by rw [← hce, usedP_upC]
       rw [hue, hce] at hTa
       refine ⟨⟨_, cnt7, hRa, hTa, hFa, hSa⟩, ?_⟩
       rw [hRa.left_eq, HR.out.left_eq]
       exact hlt7
      ·go_ret
       have hce : cutE (wasD ks left) ks es = cutE (fun _ => true) ks es := by
        refine cutE_congr fun y _ => ?_
        by_cases h : cntK ks y.n = 0
        ·exact .inr h
        ·exact .inl (by unfold wasD; rw [hnone, ocF_some]; simp [h])
       refine ⟨rfl, HRF.out, ?_⟩
       have hT := HTT.out
       rw [hce] at hT
       have hu := usedP_cut (D := fun _ => true) (ks := ks) (es := es)
       exact hT.toS HRM.out (cutE_sz HSZ.out) (by have := HUS.out; omega)
set_option maxRecDepth 20000
structure RepS (es : List Pe) (cs : List ByteArray) : Prop where
 ent : ∀ x ∈ es, x.n = hxn x.t ∧ x.c = (cntK cs x.t : Int) ∧ 1 ≤ x.c
 mem : ∀ t ∈ cs, ∃ x ∈ es, x.t = t
theorem cntK_app (a b : List ByteArray) (n : ByteArray) : cntK (a ++ b) n = cntK a n + cntK b n := by
 unfold cntK; rw [List.filter_append, List.length_append]
theorem cntK_perm {a b : List ByteArray} (h : a.Perm b) (n : ByteArray) : cntK a n = cntK b n := by
 unfold cntK; exact (h.filter _).length_eq
section
variable {es es' : List Pe} {cs cs' ds : List ByteArray}
theorem RepS.nil : RepS [] [] := ⟨by simp, by simp⟩
theorem RepS.perm (h : RepS es cs) (hp : cs.Perm cs') : RepS es cs' :=
 ⟨fun x hx => by rw [← cntK_perm hp]; exact h.ent x hx, fun t ht => h.mem t (hp.mem_iff.2 ht)⟩
theorem cntN_of {x : Pe} (h1 : x.n = hxn x.t) (h2 : ∀ t ∈ ds, hxn t = x.n → t = x.t) : cntN ds x.n = cntK ds x.t := by
 unfold cntN cntK
 congr 1
 refine List.filter_congr fun t ht => ?_
 by_cases h : t = x.t
 ·subst h; simp [h1]
 ·have : ¬ hxn t = x.n := fun e => h (h2 t ht e)
  simp [h, this]
theorem RepS.nz (h : RepS es cs) : ∀ x ∈ es, x.n.size ≤ maxLen := fun x hx => by rw [(h.ent x hx).1, hxn_size]; decide
theorem RepS.cb (h : RepS es cs) : ∀ x ∈ es, 1 ≤ x.c ∧ x.c ≤ (cs.length : Int) := fun x hx => ⟨(h.ent x hx).2.2, by rw [(h.ent x hx).2.1]; have := cntK_le cs x.t; omega⟩
theorem RepS.put (h : RepS es cs) (hk : (es.map (·.n)).Nodup) (hp : PutRes es ds es') : RepS es' (cs ++ ds) := by
 obtain ⟨new, fs, hf, hperm, hnew, rfl⟩ := hp
 have hnf : ∀ x ∈ new, x.t ∈ fs := fun x hx => hperm.mem_iff.1 (List.mem_map.2 ⟨x, hx, rfl⟩)
 constructor
 ·intro y hy
  obtain ⟨x, hx, rfl⟩ := List.mem_map.1 hy
  show x.n = hxn x.t ∧ x.c + (cntN ds x.n : Int) = (cntK (cs ++ ds) x.t : Int) ∧ _
  rcases List.mem_append.1 hx with hx | hx
  ·obtain ⟨h1, h2, h3⟩ := h.ent x hx
   have hc : cntN ds x.n = cntK ds x.t := cntN_of h1 fun t ht e => by
    rcases hf.all t ht with g | ⟨z, hz, g1, g2⟩
    ·exact absurd e.symm (hf.new t g x hx)
    ·rw [← g2, nodup_inj hk hz hx (g1.trans e)]
   refine ⟨h1, ?_, ?_⟩
   ·rw [cntK_app, hc, h2]; omega
   ·show 1 ≤ x.c + (cntN ds x.n : Int); omega
  ·obtain ⟨h1, h2⟩ := hnew x hx
   have hc : cntN ds x.n = cntK ds x.t := cntN_of h1 fun t ht e => by
    rcases hf.all t ht with g | ⟨z, hz, g1, g2⟩
    ·exact nodup_inj hf.nd g (hnf x hx) (e.trans h1)
    ·exact absurd (g1.trans (e.trans h1)) (hf.new x.t (hnf x hx) z hz)
   have h0 : cntK cs x.t = 0 := by
    false_or_by_contra
    rename_i hn
    obtain ⟨z, hz, e⟩ := h.mem _ (cntK_pos.1 hn)
    exact hf.new x.t (hnf x hx) z hz (by rw [(h.ent z hz).1, e])
   have h9 : cntK ds x.t ≠ 0 := cntK_pos.2 (hf.sub.subset (hnf x hx))
   refine ⟨h1, ?_, ?_⟩
   ·rw [cntK_app, hc, h2, h0]; omega
   ·show 1 ≤ x.c + (cntN ds x.n : Int); omega
 ·intro t ht
  have hin : ∀ x ∈ es ++ new, x.t = t → ∃ y ∈ inc ds (es ++ new), y.t = t := fun x hx e => ⟨_, List.mem_map.2 ⟨x, hx, rfl⟩, e⟩
  rcases List.mem_append.1 ht with ht | ht
  ·obtain ⟨x, hx, e⟩ := h.mem t ht
   exact hin x (List.mem_append_left _ hx) e
  ·rcases hf.all t ht with g | ⟨z, hz, _, g2⟩
   ·obtain ⟨x, hx, e⟩ := List.mem_map.1 (hperm.mem_iff.2 g)
    exact hin x (List.mem_append_right _ hx) e
   ·exact hin z (List.mem_append_left _ hz) g2
theorem RepS.cnt (h : RepS es (ds ++ cs)) (hk : (es.map (·.n)).Nodup) {x : Pe} (hx : x ∈ es) : cntK (ds.map hxn) x.n = cntK ds x.t := by
 rw [cntK_hxn]
 exact cntN_of (h.ent x hx).1 fun t ht e => by
  obtain ⟨z, hz, g⟩ := h.mem t (List.mem_append_left _ ht)
  rw [← g, nodup_inj hk hz hx (((h.ent z hz).1.trans (by rw [g])).trans e)]
theorem RepS.drop (h : RepS es (ds ++ cs)) (hk : (es.map (·.n)).Nodup) : RepS (cutE (fun _ => true) (ds.map hxn) es) cs := by
 constructor
 ·intro y hy
  obtain ⟨hy1, hy2⟩ := List.mem_filter.1 hy
  obtain ⟨x, hx, rfl⟩ := List.mem_map.1 hy1
  obtain ⟨h1, h2, h3⟩ := h.ent x hx
  rw [if_pos rfl] at hy2 ⊢
  have hc := h.cnt hk hx
  rw [cntK_app] at h2
  simp only [hc] at hy2 ⊢
  refine ⟨h1, by omega, ?_⟩
  have : ¬ x.c - (cntK ds x.t : Int) = 0 := by simpa using hy2
  omega
 ·intro t ht
  obtain ⟨x, hx, e⟩ := h.mem t (List.mem_append_right _ ht)
  obtain ⟨h1, h2, h3⟩ := h.ent x hx
  have hc := h.cnt hk hx
  have hp : cntK cs x.t ≠ 0 := cntK_pos.2 (by rw [e]; exact ht)
  rw [cntK_app] at h2
  refine ⟨{ x with c := x.c - (cntK (ds.map hxn) x.n : Int) }, List.mem_filter.2 ⟨List.mem_map.2 ⟨x, hx, by rw [if_pos rfl]⟩, ?_⟩, e⟩
  have : ¬ x.c - (cntK (ds.map hxn) x.n : Int) = 0 := by rw [hc]; omega
  simpa using this
theorem RepS.can (h : RepS es (ds ++ cs)) (hk : (es.map (·.n)).Nodup) : ∀ n ∈ ds.map hxn, ∃ x ∈ es, x.n = n ∧ (cntK (ds.map hxn) n : Int) ≤ x.c := by
 intro n hn
 obtain ⟨t, ht, rfl⟩ := List.mem_map.1 hn
 obtain ⟨x, hx, e⟩ := h.mem t (List.mem_append_left _ ht)
 obtain ⟨h1, h2, h3⟩ := h.ent x hx
 have hxn' : x.n = hxn t := by rw [h1, e]
 have hc := h.cnt hk hx
 rw [cntK_app] at h2
 refine ⟨x, hx, hxn', ?_⟩
 rw [← hxn', hc]
 omega
theorem tnd_of (h : ∀ x ∈ es, x.n = hxn x.t) (hk : (es.map (·.n)).Nodup) : (es.map (·.t)).Nodup := by
 induction es with
 | nil => simp
 | cons x l ih =>
  rw [List.map_cons, List.nodup_cons] at hk ⊢
  refine ⟨fun hm => hk.1 ?_, ih (fun y hy => h y (List.mem_cons_of_mem _ hy)) hk.2⟩
  obtain ⟨y, hy, e⟩ := List.mem_map.1 hm
  exact List.mem_map.2 ⟨y, hy, by rw [h y (List.mem_cons_of_mem _ hy), h x (by simp), e]⟩
theorem RepS.tnd (h : RepS es cs) (hk : (es.map (·.n)).Nodup) : (es.map (·.t)).Nodup := tnd_of (fun x hx => (h.ent x hx).1) hk
end
set_option maxRecDepth 20000
abbrev Out := Value × ByteArray
def allT (os : List Out) : List ByteArray := os.flatMap fun x => cutB x.2
structure Outs (w : World) (n0 : Lim) (os : List Out) : Prop where
 own : ∀ x ∈ os, Owns w n0.lo 9 1 Go.Proofs.YtgnblkmpoigejaaGreatDoor.es x.1 ((cutB x.2).map hxn)
 sz : ∀ x ∈ os, x.2.size ≤ 5000
structure PU (w : World) (n0 : Lim) (p mb : Nat) (room : Int) (es : List Pe) (os : List Out) : Prop where
 st : PileS w n0 p room mb es
 rep : RepS es (allT os)
 many : es.length ≤ 10000
 out : Outs w n0 os
theorem cutB_5000 {s : ByteArray} (h : s.size ≤ 5000) : (cutB s).length ≤ 5000 := Nat.le_trans (cutB_len s) h
section
variable {w w' : World} {n0 : Lim} {p mb : Nat} {room : Int} {es : List Pe} {os : List Out}
end
set_option maxRecDepth 20000
theorem pick_es {es : List Pe} {cs : List ByteArray} (h : RepS es cs) : ∀ (ds : List ByteArray), (∀ t ∈ ds, t ∈ cs) → ∃ ys : List Pe, (∀ x ∈ ys, x ∈ es) ∧ ys.map (·.t) = ds ∧ ys.map (·.n) = ds.map hxn
 | [], _ => ⟨[], by simp, rfl, rfl⟩
 | t :: ds, hd => by
  obtain ⟨ys, h1, h2, h3⟩ := pick_es h ds (fun u hu => hd u (List.mem_cons_of_mem _ hu))
  obtain ⟨x, hx, e⟩ := h.mem t (hd t (by simp))
  refine ⟨x :: ys, fun y hy => (List.mem_cons.1 hy).elim (fun e => e ▸ hx) (h1 y), by rw [List.map_cons, h2, e], ?_⟩
  rw [List.map_cons, List.map_cons, h3, (h.ent x hx).1, e]
theorem mkS_flat (l : List (List UInt8)) : (l.map mkS).flatMap sl = l.flatten := by
 induction l with
 | nil => rfl
 | cons x l ih => rw [List.map_cons, List.flatMap_cons, ih, sl_mkS, List.flatten_cons]
theorem cutB_flat (s : ByteArray) : (cutB s).flatMap sl = sl s := by
 unfold cutB
 rw [mkS_flat, Pc.cut_flat]
theorem flatT_t (ys : List Pe) : flatT ys = (ys.map (·.t)).flatMap sl := by
 unfold flatT
 rw [List.flatMap_map]
theorem sumT_t (ys : List Pe) : sumT ys = ((ys.map (·.t)).map (·.size)).sum := by
 unfold sumT
 rw [List.map_map]
 rfl
theorem used_le {es : List Pe} : ∀ {cs : List ByteArray}, (es.map (·.t)).Nodup → (∀ x ∈ es, x.t ∈ cs) → usedP es ≤ ((cs.map (·.size)).sum : Nat) := by
 induction es with
 | nil => intro cs _ _; simp [usedP]
 | cons x l ih =>
  intro cs hn hm
  rw [List.map_cons, List.nodup_cons] at hn
  obtain ⟨a, b, rfl⟩ := List.append_of_mem (hm x (by simp))
  have h1 := ih (cs := a ++ b) hn.2 (fun y hy => by
   have := hm y (List.mem_cons_of_mem _ hy)
   simp only [List.mem_append, List.mem_cons] at this ⊢
   rcases this with h | h | h
   ·exact .inl h
   ·exact absurd (List.mem_map.2 ⟨y, hy, h⟩) hn.1
   ·exact .inr h)
  simp only [usedP, List.map_cons, List.sum_cons, List.map_append, List.sum_append] at h1 ⊢
  omega
set_option maxRecDepth 20000
namespace Bk
theorem Blk.rg {mq : Nat} {n0 : Lim} {w w' : World} {g : Nat} {t : TypeId} {cs : Array Value} (hb : Blk w g t cs) (hr : RG RP mq n0 w w') (ht : RP.contains t = false) : Blk w' g t cs := hr.fr g _ hb (by simp only [okG, ht]; rfl)
theorem Chn.rg {mq : Nat} {h0 : Lim} {w w' : World} {n0 : Lim} {c mb : Nat} {ns : List Nd} (h : Chn w n0 c mb ns) (hr : RG RP mq h0 w w') (hm : mb ≠ mq) : Chn w' n0 c mb ns := by
 have hroot : RootB w' c mb := by
  obtain ⟨pv, nx, hb⟩ := h.root
  exact ⟨pv, nx, Blk.rg hb hr rfl⟩
 have hnode : ∀ x ∈ ns, NodeB w' x := fun x hx => by
  obtain ⟨pv, nx, hb⟩ := h.node x hx
  exact ⟨pv, nx, Blk.rg hb hr rfl⟩
 have hcell : ∀ (i : Nat) (a : Nat), (a = c ∨ ∃ x ∈ ns, x.1 = a) → w'.cell? ⟨a, i, none⟩ = w.cell? ⟨a, i, none⟩ := by
  intro i a ha
  rcases ha with rfl | ⟨x, hx, rfl⟩
  ·obtain ⟨pv, nx, hb⟩ := h.root
   rw [hb.cell i, (Blk.rg hb hr rfl).cell i]
  ·obtain ⟨pv, nx, hb⟩ := h.node x hx
   rw [hb.cell i, (Blk.rg hb hr rfl).cell i]
 refine ⟨hroot, hnode, ?_, h.nd, h.kd, ?_, h.b0, Nat.le_trans h.hz hr.size⟩
 ·refine h.ring.keep (fun a ha => ?_) (fun a ha => ?_)
  ·refine hcell 3 a ?_
   have := List.dropLast_subset _ ha
   simp only [List.mem_cons, List.mem_append, List.mem_map, List.not_mem_nil, or_false] at this
   rcases this with h | ⟨x, hx, h⟩ | h
   ·exact .inl h
   ·exact .inr ⟨x, hx, h⟩
   ·exact .inl h
  ·refine hcell 2 a ?_
   simp only [List.tail_cons, List.mem_append, List.mem_map, List.mem_cons, List.not_mem_nil, or_false] at ha
   rcases ha with ⟨x, hx, h⟩ | h
   ·exact .inr ⟨x, hx, h⟩
   ·exact .inl h
 ·obtain ⟨D, ⟨es, clock, hh, F, hs, hD⟩, r⟩ := h.mp
  exact ⟨D, ⟨es, clock, hr.fr _ _ hh (by simp [okG, hm]), F, hs, hD⟩, r⟩
theorem RowS.rg {mq : Nat} {h0 : Lim} {w w' : World} {n0 : Lim} {p c mb : Nat} {room : Int} {ns : List Nd} (h : RowS w n0 p room c mb ns) (hr : RG RP mq h0 w w') (hm : mb ≠ mq) : RowS w' n0 p room c mb ns :=
 ⟨Blk.rg h.blk hr rfl, h.p0, Chn.rg h.ch hr hm, h.rm, h.sz, h.us, h.ks⟩
structure PV (w : World) (n0 : Lim) (p mb : Nat) (room : Int) (es : List Pe) (cs : List ByteArray) : Prop where
 st : PileS w n0 p room mb es
 rep : RepS es cs
theorem PV.below {w w' : World} {n0 : Lim} {p mb : Nat} {room : Int} {es : List Pe} {cs : List ByteArray} (h : PV w n0 p mb room es cs) (hb : Below w.heap.size w w') : PV w' n0 p mb room es cs := ⟨h.st.below hb, h.rep⟩
end Bk
set_option maxRecDepth 20000
namespace Bk
theorem Blk.rgX {ex : List TypeId} {mq : Nat} {n0 : Lim} {w w' : World} {g : Nat} {t : TypeId} {cs : Array Value} (hb : Blk w g t cs) (hr : RG ex mq n0 w w') (ht : ex.contains t = false) : Blk w' g t cs := hr.fr g _ hb (by simp only [okG, ht]; rfl)
theorem MapS.rgX {ex : List TypeId} {mq : Nat} {n0 : Lim} {w w' : World} {P : Program} {kt : TypeId} {b c : Nat} {f : ByteArray → Option Value} (h : MapS P w kt b f c) (hr : RG ex mq n0 w w') (hm : b ≠ mq) : MapS P w' kt b f c := by
 obtain ⟨D, ⟨es, clock, hh, F, hs, hD⟩, r⟩ := h
 exact ⟨D, ⟨es, clock, hr.fr _ _ hh (by simp [okG, hm]), F, hs, hD⟩, r⟩
theorem Owns.rgX {α : Type} {ex : List TypeId} {mq : Nat} {n0 : Lim} {w w' : World} {base : Nat} {e : TypeId} {size : Nat} {enc : α → List Value} {v : Value} {xs : List α} (ho : Owns w base e size enc v xs) (hr : RG ex mq n0 w w') (ht : ex.contains e = false) : Owns w' base e size enc v xs := ho.rf hr.toRF ht
theorem PileS.rgX {ex : List TypeId} {mq : Nat} {h0 : Lim} {w w' : World} {n0 : Lim} {p mb : Nat} {room : Int} {es : List Pe} (h : PileS w n0 p room mb es) (hr : RG ex mq h0 w w') (h1 : ex.contains 129 = false) (h2 : ex.contains 131 = false) (hm : mb ≠ mq) : PileS w' n0 p room mb es :=
 ⟨Blk.rgX h.blk hr h1, fun x hx => Blk.rgX (h.node x hx) hr h2, MapS.rgX h.mp hr hm, h.nd, h.kd, h.b0, Nat.le_trans h.hz hr.size, h.rm, h.sz, h.us⟩
theorem PV.rgX {ex : List TypeId} {mq : Nat} {h0 : Lim} {w w' : World} {n0 : Lim} {p mb : Nat} {room : Int} {es : List Pe} {cs : List ByteArray} (h : PV w n0 p mb room es cs) (hr : RG ex mq h0 w w') (h1 : ex.contains 129 = false) (h2 : ex.contains 131 = false) (hm : mb ≠ mq) : PV w' n0 p mb room es cs := ⟨PileS.rgX h.st hr h1 h2 hm, h.rep⟩
theorem dropR_kv (n0 : Lim) (p c mb : Nat) (room : Int) (ns : List Nd) (k : ByteArray) (w : World) (h : RowS w n0 p room c mb ns) (hks : k.size ≤ maxLen) :
  Calls Tryz.prog 72 #[ptr p, .string k] w fun e w' => (∃ q, e = .returned (.int .i64 q)) ∧ ∃ ns', RowS w' n0 p room c mb ns' ∧ kv ns' = withoutK (kv ns) k ∧ RG RY mb n0 w w' := by
 refine (dropRow_any n0 p c mb room ns k w h hks).mono ?_
 rintro e w' ⟨hq, h1, h2⟩
 exact ⟨hq, _, h1, (withoutK_kv ns k).symm, h2⟩
def goneK (room s : Int) : List Kv → List ByteArray
 | [] => []
 | x :: r => if usedK (x :: r) + s ≤ room then [] else x.1 :: goneK room s r
theorem goneK_left (room s : Int) : ∀ l : List Kv, goneK room s l ++ (leftK room s l).map (·.1) = l.map (·.1)
 | [] => rfl
 | x :: r => by
  unfold goneK leftK
  split
  ·rfl
  ·simp [goneK_left room s r]
theorem putR_kv (n0 : Lim) (p c mb : Nat) (room : Int) (ns : List Nd) (k : ByteArray) (s : Int) (w : World) (h : RowS w n0 p room c mb ns) (hs0 : 1 ≤ s) (hs : s ≤ room) (hks : k.size ≤ maxLen) :
  Calls Tryz.prog 37 #[ptr p, .string k, .int .i64 s] w fun e w' => ∃ v ns', e = .returned (.tuple #[v, .int .i64 0]) ∧ Owns w' w.heap.size 9 1 Go.Proofs.YtgnblkmpoigejaaGreatDoor.es v (goneK room s (withoutK (kv ns) k)) ∧ RowS w' n0 p room c mb ns' ∧ kv ns' = leftK room s (withoutK (kv ns) k) ++ [(k, s)] ∧ RG RY mb n0 w w' := by
 refine (putR_okD n0 p c mb room ns k s w h hs0 hs hks).mono ?_
 rintro e w' ⟨v, b, gone, left, rfl, ⟨h1, h2⟩, h3, h4, h5⟩
 have hl : leftK room s (withoutK (kv ns) k) = kv left := by rw [withoutK_kv, leftK_kv, ← h2]
 have hg : gone.map (·.2.1) = goneK room s (withoutK (kv ns) k) := by
  have e1 := goneK_left room s (withoutK (kv ns) k)
  rw [hl, withoutK_kv, h1, kv_app, List.map_append] at e1
  have e2 : gone.map (·.2.1) = (kv gone).map (·.1) := by unfold kv; rw [List.map_map]; rfl
  rw [e2, withoutK_kv, h1, kv_app]
  exact (List.append_cancel_right e1).symm
 refine ⟨v, _, rfl, hg ▸ h3, h4, ?_, h5⟩
 rw [hl, kv_app]
 rfl
theorem getP_pv (n0 : Lim) (p mb : Nat) (room : Int) (es : List Pe) (cs : List ByteArray) (s : ByteArray) (v : Value) (w : World) (h : PV w n0 p mb room es cs) (hs : s.size ≤ 5000) (hin : ∀ t ∈ cutB s, t ∈ cs) (hv : SlR w Go.Proofs.YtgnblkmpoigejaaGreatDoor.es v ((cutB s).map hxn)) :
  Calls Tryz.prog 81 #[ptr p, v] w fun e w' => e = .returned (.tuple #[.string s, .int .i64 0]) ∧ Below w.heap.size w w' := by
 obtain ⟨ys, h1, h2, h3⟩ := pick_es h.rep (cutB s) hin
 have h5 := cutB_5000 hs
 have hyl : ys.length = (cutB s).length := by rw [← h2, List.length_map]
 refine (getP_all n0 p mb room es ys v w h.st h1 (by rw [h3]; exact hv) (by omega) h.rep.nz).mono ?_
 rintro e w' ⟨rfl, hb⟩
 rw [sumT_t, h2, cutB_sum, if_pos hs, flatT_t, h2, cutB_flat, mkS_sl]
 exact ⟨rfl, hb⟩
theorem dropP_pv (n0 : Lim) (p mb : Nat) (room : Int) (es : List Pe) (cs rest : List ByteArray) (s : ByteArray) (v : Value) (w : World) (h : PV w n0 p mb room es cs) (hs : s.size ≤ 5000) (hp : cs.Perm (cutB s ++ rest)) (hl : cs.length ≤ 4611686018427387904) (hv : SlR w Go.Proofs.YtgnblkmpoigejaaGreatDoor.es v ((cutB s).map hxn)) :
  Calls Tryz.prog 38 #[ptr p, v] w fun e w' => e = .returned (.int .i64 0) ∧ RG RP mb n0 w w' ∧ ∃ es', PV w' n0 p mb room es' rest := by
 have hrep : RepS es (cutB s ++ rest) := h.rep.perm hp
 have h5 := cutB_5000 hs
 refine (dropP_okG n0 p mb room es v ((cutB s).map hxn) w h.st hv (by rw [List.length_map]; omega) ?_ (fun x hx => by have := h.rep.cb x hx; omega) (hrep.can h.st.kd)).mono ?_
 ·intro k hk
  obtain ⟨t, _, rfl⟩ := List.mem_map.1 hk
  rw [hxn_size]; decide
 ·rintro e w' ⟨rfl, hrg, hst⟩
  exact ⟨rfl, hrg, _, hst, hrep.drop h.st.kd⟩
end Bk
end Go.Proofs.YtgnblkmpoigejaaGreatDoor
namespace Go.Proofs.YtgnblkmpoigejaaGreatDoor
open Go.RowKit
namespace Tok
def lowB (c : UInt8) : UInt8 := if 65 ≤ c ∧ c ≤ 90 then c + 32 else c
def low (l : List UInt8) : List UInt8 := l.map lowB
theorem lowB_up {c : UInt8} (h0 : 65 ≤ (c.toNat : Int)) (h1 : (c.toNat : Int) ≤ 90) : ((lowB c).toNat : Int) = (c.toNat : Int) + 32 := by
 unfold lowB
 rw [if_pos ⟨by rw [u8_le]; exact h0, by rw [u8_le]; exact h1⟩, UInt8.toNat_add]
 have : (32 : UInt8).toNat = 32 := rfl
 rw [this]; omega
theorem lowB_no {c : UInt8} (h : (c.toNat : Int) < 65 ∨ 90 < (c.toNat : Int)) : lowB c = c := by
 unfold lowB
 rw [if_neg]
 rw [u8_le, u8_le]
 have : ((65 : UInt8).toNat : Int) = 65 := rfl
 have : ((90 : UInt8).toNat : Int) = 90 := rfl
 omega
theorem low_len (l : List UInt8) : (low l).length = l.length := List.length_map ..
def lowTo (l : List UInt8) (k : Nat) : List UInt8 := low (l.take k) ++ l.drop k
theorem lowTo_len (l : List UInt8) (k : Nat) : (lowTo l k).length = l.length := by simp [lowTo, low]; omega
theorem lowTo_at {l : List UInt8} {k : Nat} (h : k < l.length) : (lowTo l k)[k]'(by rw [lowTo_len]; exact h) = l[k] := by
 unfold lowTo
 rw [List.getElem_append_right (by simp [low]; omega)]
 simp only [List.getElem_drop]
 congr 1
 simp [low]; omega
theorem lowTo_set {l : List UInt8} {k : Nat} (h : k < l.length) : (lowTo l k).set k (lowB l[k]) = lowTo l (k + 1) := by
 unfold lowTo
 have hl : (low (l.take k)).length = k := by simp [low]; omega
 rw [List.set_append_right _ _ (by omega), hl, Nat.sub_self, List.drop_eq_getElem_cons h, List.set_cons_zero, List.take_add_one, List.getElem?_eq_getElem h]
 unfold low
 rw [List.map_append, List.append_assoc]
 rfl
theorem lowTo_keep {l : List UInt8} {k : Nat} (h : k < l.length) (he : lowB l[k] = l[k]) : lowTo l (k + 1) = lowTo l k := by
 rw [← lowTo_set h, he]
 have := lowTo_at h
 rw [← this, List.set_getElem_self]
end Tok
set_option maxHeartbeats 800000 in
theorem lower_any (s : ByteArray) (w : World) (hs : s.size ≤ 140737488351232) :
  Calls Tryz.prog 62 #[.string s] w fun e w' => e = .returned (.string (mkS (Tok.low (sl s)))) ∧ Below w.heap.size w w' := by
 go_enter Tryz.func62, Tryz.ntmps62
 go_wp2_with ((refine wpList_to_bytes rfl (.tmp 6) 9 106 5 rfl Tryz.underlying9 Tryz.underlying106 Tryz.underlying5 s rfl ?_); intro cp w2 hcp hbuf b2 hsz2)
 go_loopw [10] (fun i wr => ∃ k : Nat, k ≤ s.size ∧ i = .int .i64 k ∧ Buf wr w.heap.size (Tok.lowTo (sl s) k) ∧ Below w.heap.size w wr) (fun i _ => s.size - (intOf i).toNat)
 case atStart => exact ⟨0, by omega, rfl, hbuf, b2⟩
 case round =>
  obtain ⟨k, hk, rfl, hb, hbel⟩ := hrel
  have hgl := hb.1
  by_cases hlt : k < s.size
  ·have hkl : k < (sl s).length := by rw [sl_len]; exact hlt
   have hkl' : k < (Tok.lowTo (sl s) k).length := by rw [Tok.lowTo_len]; exact hkl
   have c0 := hb.cell k hkl'
   have f0 := hb.free k hkl'
   rw [Tok.lowTo_at hkl] at c0
   have HP := Lib.hid (hb.put k hkl' (Tok.lowB (sl s)[k]))
   have HS : Hid ((Tok.lowTo (sl s) k).set k (Tok.lowB (sl s)[k]) = Tok.lowTo (sl s) (k + 1)) := Tok.lowTo_set hkl
   have HK : Hid (Tok.lowB (sl s)[k] = (sl s)[k] → Tok.lowTo (sl s) (k + 1) = Tok.lowTo (sl s) k) := fun h => Tok.lowTo_keep hkl h
   generalize (sl s)[k] = c at c0 HP HS HK
   have HB := Lib.hid hb
   have hcb := c.toNat_lt
   simp only [bv] at c0
   clear hb hkl hkl'
   by_cases hup : 65 ≤ (c.toNat : Int) ∧ (c.toNat : Int) ≤ 90
   ·obtain ⟨u1, u2⟩ := hup
    have HL := Lib.hid (Tok.lowB_up u1 u2)
    go_wp2
    go_roundw
    case rel =>
     refine ⟨k + 1, by omega, by go_num, ?_, hbel.setCell (p := ⟨w.heap.size, k, none⟩) (Nat.le_refl _) _⟩
     rw [← HS.out, show Value.int IntKind.u8 ((c.toNat : Int) + 97 - 65) = bv (Tok.lowB c) from by unfold bv; rw [HL.out]; congr 1; omega]
     exact HP.out
    case measure => simp [intOf]; omega
   ·have HN := Lib.hid (Tok.lowB_no (c := c) (by omega))
    go_wp2
    all_goals
     go_roundw
     case rel => exact ⟨k + 1, by omega, by go_num, by rw [HK.out HN.out]; exact HB.out, hbel⟩
     case measure => simp [intOf]; omega
  ·obtain rfl : k = s.size := by omega
   have hE : Tok.lowTo (sl s) s.size = Tok.low (sl s) := by
    unfold Tok.lowTo; rw [List.take_of_length_le (by rw [sl_len]; omega), List.drop_eq_nil_of_le (by rw [sl_len]; omega), List.append_nil]
   rw [hE] at hb
   have hrs := run_string_buf (dst := 9) Tryz.underlying106 Tryz.underlying5 Tryz.underlying9 hb cp
   rw [Tok.low_len, sl_len] at hrs
   clear hE hb
   go_wp2
   go_ret
   exact ⟨rfl, hbel⟩
abbrev Fld := ByteArray × ByteArray
def lowS (s : ByteArray) : ByteArray := mkS (Tok.low (sl s))
theorem lowS_size (s : ByteArray) : (lowS s).size = s.size := by unfold lowS; rw [mkS_size, Tok.low_len, sl_len]
def isN (n : ByteArray) (f : Fld) : Bool := (lowS f.1).toList == n.toList
theorem toList_inj {a b : ByteArray} : (a.toList == b.toList) = decide (a = b) := by
 rw [ba_toList, ba_toList, Bool.eq_iff_iff, beq_iff_eq, decide_eq_true_iff]
 exact ⟨sl_inj, fun h => by rw [h]⟩
def nfn (g : Nat) : Value := .func (.func 133) #[] #[.pointer (some ⟨g, 0, none⟩)]
set_option maxHeartbeats 800000 in
theorem named_any (n : ByteArray) (w : World) (hs : n.size ≤ 140737488351232) :
  Calls Tryz.prog 103 #[.string n] w fun e w' => e = .returned (nfn w.heap.size) ∧ w.heap.size < w'.heap.size ∧ w'.cell? ⟨w.heap.size, 0, none⟩ = some (.string (lowS n)) ∧ Below w.heap.size w w' := by
 go_enter Tryz.func103, Tryz.ntmps103
 go_wp2_with fail
 refine (lower_any n _ hs).mono ?_
 rintro e w1 ⟨rfl, b1⟩
 have hz : w.heap.size < w1.heap.size := by have := b1.size; simp at this; omega
 have c0 : w1.cell? ⟨w.heap.size, 0, none⟩ = some (.string n) := (b1.cell (by simp)).trans (by go_simp)
 have f0 : w1.frozen? ⟨w.heap.size, 0, none⟩ = false := (b1.frozen (by simp)).trans (by go_simp)
 go_wp2_with fail
 go_ret
 refine ⟨rfl, by simpa using hz, ?_, (((Below.refl _ _).alloc (Nat.le_refl _) _).trans (b1.mono (by simp))).setCell (p := ⟨w.heap.size, 0, none⟩) (Nat.le_refl _) _⟩
 exact World.cell?_setCell_same _ _ _ c0
set_option maxHeartbeats 1600000 in
theorem named1_any (f : Fld) (g : Nat) (n : ByteArray) (w : World) (hg : g < w.heap.size) (hc : w.cell? ⟨g, 0, none⟩ = some (.string n)) (hs : f.1.size ≤ 140737488351232) :
  Calls Tryz.prog 133 #[.agg #[.string f.1, .string f.2], .pointer (some ⟨g, 0, none⟩)] w fun e w' => e = .returned (.bool (isN n f)) ∧ Below w.heap.size w w' := by
 obtain ⟨a, b⟩ := f
 go_enter Tryz.func133, Tryz.ntmps133
 go_wp2_with fail
 have b0 : Below w.heap.size w (w.alloc (.cells #[.string a, .string b] 57)) := (Below.refl _ _).alloc (Nat.le_refl _) _
 have c0 : (w.alloc (.cells #[.string a, .string b] 57)).cell? ⟨w.heap.size, 0, none⟩ = some (.string a) := by go_simp
 have c1 : (w.alloc (.cells #[.string a, .string b] 57)).cell? ⟨g, 0, none⟩ = some (.string n) := (b0.cell hg).trans hc
 have hz : w.heap.size < (w.alloc (.cells #[.string a, .string b] 57)).heap.size := by simp
 generalize w.alloc (.cells #[.string a, .string b] 57) = w0 at *
 have HC := Lib.hid (fun w' (hb : Below w0.heap.size w0 w') => show w'.cell? ⟨w.heap.size, 0, none⟩ = some (.string a) ∧ w'.cell? ⟨g, 0, none⟩ = some (.string n) from ⟨(hb.cell hz).trans c0, (hb.cell (Nat.lt_trans hg hz)).trans c1⟩)
 clear c0 c1 hc
 refine wp_region_seq [(true, 0), (true, 1), (true, 3), (false, 2), (true, 4), (true, 5)] (fun w' => Below w0.heap.size w0 w') (by kernel_rfl) (by kernel_rfl) (fun _ _ _ _ _ h => h) (by kernel_rfl) (by kernel_rfl) (by first | exact (Below.refl _ _).drew | exact Below.drew (by assumption)) ?_
 have bS : Below w0.heap.size w0 _ := (by first | exact Below.drew (by assumption) | exact (Below.refl _ w0).drew)
 iterate 6 (first
  | (apply seqH_skip; (focus (simp only [List.getElem?_toArray, List.getElem?_cons_succ, List.getElem?_cons_zero]; rfl)); (focus rfl); simp only [Act.put, List.setIfInBounds_toArray, List.set_cons_zero, List.set_cons_succ])
  | (apply seqH_take; (focus (simp only [List.getElem?_toArray, List.getElem?_cons_succ, List.getElem?_cons_zero]; rfl)); (focus rfl); (focus (intro w' hS; obtain ⟨c0, c1⟩ := HC.out _ hS; first | (go_simp; rfl) | (go_simp; done))); simp only [Act.put, List.setIfInBounds_toArray, List.set_cons_zero, List.set_cons_succ])
  | (apply seqH_pass; (focus (simp only [List.getElem?_toArray, List.getElem?_cons_succ, List.getElem?_cons_zero]; rfl)); (focus rfl); (focus assumption); simp only [Act.put, List.setIfInBounds_toArray, List.set_cons_zero, List.set_cons_succ])
  | (apply seqH_eff; (focus (simp only [List.getElem?_toArray, List.getElem?_cons_succ, List.getElem?_cons_zero]; rfl)); (focus rfl); intro K hK; go_simp; (go_at_call 62; (with_reducible refine (lower_any a _ hs).mono ?_)); rintro e wN ⟨rfl, bN⟩; refine hK _ _ (seq_next (by assumption) bN (fun bS' => ?_)); clear hK K))
 refine seqH_nil ?_
 go_wp2_with fail
 go_ret
 exact ⟨rfl, b0.trans (Below.mono (by assumption) (by omega))⟩
def idxI (p : Fld → Bool) (l : List Fld) : Int := match l.findIdx? p with | some k => (k : Int) | none => -1
theorem idx_no {p : Fld → Bool} {l : List Fld} (h : l.any p = false) : idxI p l = -1 := by
 unfold idxI
 rw [List.findIdx?_eq_none_iff.2]
 intro x hx
 rw [List.any_eq_false] at h
 simpa using h x hx
theorem idx_yes {p : Fld → Bool} {l : List Fld} {k : Nat} (hk : k < l.length) (h : (l.take k).any p = false) (hp : p l[k] = true) : idxI p l = k := by
 have e : l.findIdx? p = some k := List.findIdx?_eq_some_iff_getElem.2 ⟨hk, hp, fun j hj => by
  rw [List.any_eq_false] at h
  simpa using h _ (by rw [List.mem_take_iff_getElem]; exact ⟨j, by omega, rfl⟩)⟩
 unfold idxI
 rw [e]
def Cap (w : World) (g : Nat) (n : ByteArray) : Prop := g < w.heap.size ∧ w.cell? ⟨g, 0, none⟩ = some (.string n)
theorem Cap.below {w w' : World} {g : Nat} {n : ByteArray} (h : Cap w g n) (hb : Below w.heap.size w w') : Cap w' g n :=
 ⟨Nat.lt_of_lt_of_le h.1 hb.size, (hb.cell h.1).trans h.2⟩
theorem fld_two {w : World} {v : Value} {l : List Fld} (h : SlR w e_ss v l) (hn : 0 < l.length) :
  ∃ b off c, v = .slice (some ⟨b, off, none⟩) l.length c ∧ b < w.heap.size ∧ ∀ k (hk : k < l.length), w.cell? ⟨b, off + k * 2, none⟩ = some (.string l[k].1) ∧ w.cell? ⟨b, off + k * 2 + 1, none⟩ = some (.string l[k].2) := by
 obtain ⟨b, off, c, h1, h2, h3⟩ := h.two (fun _ => rfl) hn
 exact ⟨b, off, c, h1, h2, fun k hk => h3 k hk _ _ rfl rfl⟩
def Lims (l : List Fld) : Prop := ∀ f ∈ l, f.1.size ≤ 140737488351232
theorem fldInfoB : ElemInfo Tryz.prog 57 (.agg #[.string ByteArray.empty, .string ByteArray.empty]) 2 32 := by unfold ElemInfo; kernel_rfl
theorem ss_oneB (l : List Fld) : ∀ u ∈ l.flatMap e_ss, u.oneCell' = true := by
 intro u hu
 obtain ⟨d, _, hd⟩ := List.mem_flatMap.1 hu
 simp only [e_ss, List.mem_cons, List.not_mem_nil, or_false] at hd
 rcases hd with rfl | rfl <;> rfl
def RetFlds (base : Nat) (l : List Fld) (e : Ending) (w' : World) : Prop := ∃ u, e = .returned u ∧ Owns w' base 57 2 e_ss u l
set_option maxHeartbeats 800000 in
theorem cloneFld_any (v : Value) (l : List Fld) (w : World) (h : SlR w e_ss v l) (hl : l.length * 32 ≤ 140737488355328) :
  Calls Tryz.prog 76 #[v] w fun e w' => RetFlds w.heap.size l e w' ∧ Below w.heap.size w w' := by
 have HS := Lib.hid h
 obtain ⟨A, c, rfl, hcc, -⟩ := h
 have hen := Lib.run_eql_slice_nil (P := Tryz.prog)
 cases A with
 | none =>
  have hl0 : l = [] := by
   obtain ⟨A, c, hv, hc, hx⟩ := HS.out
   cases l with
   | nil => rfl
   | cons y ys =>
    obtain ⟨b, off, hA, _⟩ := hx (by simp)
    subst hA
    injection hv with h1
    cases h1
  subst hl0
  go_enter Tryz.func76, Tryz.ntmps76
  go_wp2_with fail
  go_ret
  exact ⟨⟨_, rfl, Owns.nil ..⟩, Below.refl _ _⟩
 | some a =>
  have hb0 : Below w.heap.size w (w.alloc (.cells #[] 57)) := (Below.refl _ _).alloc (Nat.le_refl _) _
  have HO := Lib.hid (Owns.lit (size := 2) (enc := e_ss) (e := 57) w w.heap.size #[] [] (Nat.le_refl _) (by simp) rfl rfl)
  have HS' := Lib.hid (HS.out.alloc (.cells #[] 57))
  go_enter Tryz.func76, Tryz.ntmps76
  go_wp2_with (at_builtin; go_must (refine wpList_append_slr rfl (.tmp 5) (.tmp 6) _ rfl w.heap.size 57 (.agg #[.string ByteArray.empty, .string ByteArray.empty]) 2 32 e_ss Tryz.underlying23 fldInfoB rfl (by decide) (fun _ => rfl) _ [] rfl HO.out _ l rfl HS'.out (ss_oneB l) (by simp [maxLen]; omega) (by simp; omega) (by simp) ?_); intro v' w2 hown' hgrow)
  go_ret
  exact ⟨⟨_, rfl, hown'⟩, hb0.grown hgrow (by simp) (fun k hk => (HO.out.lt k hk).1)⟩
section
variable {w w1 w2 : World} {row : Option Nat} {g : Nat}
theorem gr_below (h : w.grownBy w1 row) (hb : Below w1.heap.size w1 w2) : w.grownBy w2 row :=
 ⟨hb.os.trans h.os, hb.tape.trans h.tape, hb.output.trans h.output, Nat.le_trans h.size hb.size, fun k hk hr => (hb.block k (Nat.lt_of_lt_of_le hk h.size)).trans (h.block k hk hr)⟩
theorem gr_of (hb : Below w.heap.size w w1) : w.grownBy w1 row := gr_below (World.grownBy.refl w _) hb
theorem gr_set (h : w.grownBy w1 (some g)) (i : Nat) (u : Value) : w.grownBy (w1.setCell ⟨g, i, none⟩ u) (some g) :=
 ⟨h.os, h.tape, h.output, by simpa using h.size, fun k hk hr => (Below.heap_setCell w1 _ u k (fun e => hr (by simpa using e))).trans (h.block k hk hr)⟩
theorem gr_trans (h : w.grownBy w1 row) (k : w1.grownBy w2 row) : w.grownBy w2 row :=
 ⟨k.os.trans h.os, k.tape.trans h.tape, k.output.trans h.output, Nat.le_trans h.size k.size, fun j hj hr => (k.block j (Nat.lt_of_lt_of_le hj h.size) hr).trans (h.block j hj hr)⟩
end
theorem Owns.cells2 {α : Type} {w : World} {base : Nat} {e : TypeId} {en : α → List Value} {g cap n : Nat} {xs : List α} (hen : ∀ x, (en x).length = 2) (h : Owns w base e 2 en (.slice (some ⟨g, 0, none⟩) n cap) xs) (k : Nat) (hk : k < xs.length) (u0 u1 : Value) (h0 : (en xs[k])[0]? = some u0) (h1 : (en xs[k])[1]? = some u1) :
  w.cell? ⟨g, k * 2, none⟩ = some u0 ∧ w.cell? ⟨g, k * 2 + 1, none⟩ = some u1 ∧ w.frozen? ⟨g, k * 2, none⟩ = false ∧ w.frozen? ⟨g, k * 2 + 1, none⟩ = false := by
 obtain ⟨hb, rfl, hn, hm, cur, hh, hs, ht⟩ := h.row
 have key : ∀ j u, (xs.flatMap en)[j]? = some u → w.cell? ⟨g, j, none⟩ = some u := by
  intro j u hu
  rw [hh.cell j]
  rw [← ht, List.getElem?_take] at hu
  split at hu
  ·simpa using hu
  ·cases hu
 exact ⟨key _ _ (flat2 hen xs k 0 _ u0 (List.getElem?_eq_getElem hk) (by omega) h0), key _ _ (flat2 hen xs k 1 _ u1 (List.getElem?_eq_getElem hk) (by omega) h1), hh.frozen _, hh.frozen _⟩
theorem idx_some {p : Fld → Bool} {l : List Fld} (h : l.any p = true) : ∃ k, ∃ hk : k < l.length, idxI p l = (k : Int) ∧ (l.take k).any p = false ∧ p l[k] = true := by
 cases hf : l.findIdx? p with
 | none =>
  rw [List.findIdx?_eq_none_iff] at hf
  rw [List.any_eq_true] at h
  obtain ⟨x, hx, hp⟩ := h
  rw [hf x hx] at hp; cases hp
 | some k =>
  obtain ⟨hk, hp, hj⟩ := List.findIdx?_eq_some_iff_getElem.1 hf
  refine ⟨k, hk, by unfold idxI; rw [hf], ?_, hp⟩
  rw [List.any_eq_false]
  intro x hx
  rw [List.mem_take_iff_getElem] at hx
  obtain ⟨j, hj', rfl⟩ := hx
  exact hj j (by omega)
theorem fld_z : ∀ v ∈ (Value.agg #[Value.string { data := #[] }, Value.string { data := #[] }]).cells.toList, v.oneCell' = true := by simp [Value.cells, Value.oneCell']
def selF (l : List Fld) (n : ByteArray) : List ByteArray := (l.filter (isN (lowS n))).map Prod.snd
def sep2 : ByteArray := ⟨#[44, 32]⟩
theorem selF_take {l : List Fld} {n : ByteArray} {k : Nat} (h : k < l.length) : selF (l.take (k + 1)) n = selF (l.take k) n ++ (if isN (lowS n) l[k] = true then [l[k].2] else []) := by
 unfold selF
 rw [List.take_add_one, List.getElem?_eq_getElem h, List.filter_append, List.map_append]
 congr 1
 cases hq : isN (lowS n) l[k] <;> simp [hq]
theorem selF_len (l : List Fld) (n : ByteArray) : (selF l n).length ≤ l.length := by unfold selF; rw [List.length_map]; exact List.length_filter_le ..
set_option maxHeartbeats 1600000 in
theorem get_any (v : Value) (l : List Fld) (n : ByteArray) (w : World) (h : SlR w e_ss v l) (hl : l.length * 32 ≤ 140737488355328) (hz : Lims l) (hn : n.size ≤ 140737488351232) (hj : (joinL (selF l n) sep2).length ≤ 140737488351232) :
  Calls Tryz.prog 61 #[v, .string n] w fun e w' => e = .returned (.tuple #[.string (joinS (selF l n) sep2), .bool (decide (0 < (selF l n).length))]) ∧ Below w.heap.size w w' := by
 have HS := Lib.hid h
 obtain ⟨A, c, rfl, hcc, -⟩ := h
 go_enter Tryz.func61, Tryz.ntmps61
 go_wp2_with fail
 refine (named_any n _ hn).mono ?_
 rintro e w1 ⟨rfl, hz1, hc1, b1⟩
 have HC := Lib.hid (show Cap w1 w.heap.size (lowS n) from ⟨hz1, hc1⟩)
 have h2 := Lib.hid (fun hn => fld_two (HS.out.below b1) hn)
 clear hc1
 unfold nfn
 go_wp2_with fail
 go_loopw [6, 14] (fun u i wr => ∃ k : Nat, k ≤ l.length ∧ i = .int .i64 k ∧ Owns wr w1.heap.size 9 1 es u (selF (l.take k) n) ∧ Below w1.heap.size w1 wr) (fun _ i _ => l.length - (intOf i).toNat)
 case atStart => exact ⟨0, by omega, rfl, Owns.nil .., Below.refl _ _⟩
 case round =>
  obtain ⟨k, hk, rfl, hown, hbel⟩ := hrel
  have HO := Lib.hid hown
  clear hown
  by_cases hlt : k < l.length
  ·obtain ⟨b, o, c', he, hb, hcell⟩ := h2.out (by omega)
   obtain ⟨rfl, rfl⟩ : A = some ⟨b, o, none⟩ ∧ c = c' := by injection he with h1 h2 h3; exact ⟨h1, h3⟩
   obtain ⟨q0, q1⟩ := hcell k hlt
   have c0 := (hbel.cell (p := ⟨b, o + k * 2, none⟩) hb).trans q0
   have c1 := (hbel.cell (p := ⟨b, o + k * 2 + 1, none⟩) hb).trans q1
   clear hcell h2 q0 q1 he
   have HT := Lib.hid (selF_take (n := n) hlt)
   have hsl : (selF (l.take k) n).length ≤ l.length := Nat.le_trans (selF_len _ _) (by simp; omega)
   have hf := hz _ (List.getElem_mem hlt)
   generalize l[k] = f at c0 c1 HT hf
   have b0 : Below wr.heap.size wr (wr.alloc (.cells #[.string f.1, .string f.2] 57)) := (Below.refl _ _).alloc (Nat.le_refl _) _
   have HCr := Lib.hid ((HC.out.below hbel).below b0)
   cases hq : isN (lowS n) f
   all_goals
    have HQ := Lib.hid hq
    clear hq
    go_wp2_with fail
    refine (named1_any f w.heap.size (lowS n) _ HCr.out.1 HCr.out.2 hf).mono ?_
    rintro e w2 ⟨rfl, b2⟩
    rw [HQ.out]
    have bw := b0.trans (b2.mono (by simp))
    have hbb := hbel.trans (bw.mono hbel.size)
    have HO2 := Lib.hid (HO.out.below bw)
    have HT2 := HT.out
    rw [HQ.out] at HT2
    have HT3 := Lib.hid HT2
    clear HT2
   ·go_wp2_with fail
    go_roundw
    case rel => exact ⟨k + 1, by omega, by go_num, by rw [HT3.out, if_neg (by decide), List.append_nil]; exact HO2.out, hbb⟩
    case measure => simp [intOf]; omega
   ·have e1 : w2.cell? ⟨wr.heap.size, 1, none⟩ = some (.string f.2) := (b2.cell (by simp)).trans (by go_simp)
    go_wp2_with (at_builtin; go_must (refine wpList_append_owns rfl (.tmp 21) (.tmp 24) _ rfl w1.heap.size 9 (.string ByteArray.empty) 1 16 es Tryz.underlying59 stringInfo rfl (by decide) _ _ rfl (HO2.out.alloc _) ⟨w2.heap.size, 0, none⟩ 1 1 [f.2] rfl rfl rfl (new_cells _ [.string f.2] _) (es_one [f.2]) (by simp only [maxLen]; omega) (by omega) (bel_size hbb (Nat.le_refl _) _) ?_); intro v5 w5 hown5 hg5)
    go_roundw
    case rel => exact ⟨k + 1, by omega, by go_num, by rw [HT3.out, if_pos trivial]; exact hown5, bel_append hbb (Nat.le_refl _) HO2.out hg5⟩
    case measure => simp [intOf]; omega
  ·have hE : l.take k = l := List.take_of_length_le (by omega)
   rw [hE] at HO
   have hsl : (selF l n).length ≤ l.length := selF_len _ _
   have HF := Lib.hid (SlR.of_owns HO.out)
   obtain ⟨A2, c2, hv, -⟩ := HF.out
   subst hv
   clear hE
   go_wp2_with fail
   refine (join_any _ (selF l n) sep2 _ HF.out (by omega) hj).mono ?_
   rintro e w2 ⟨rfl, b2⟩
   go_wp2_with fail
   go_ret2
   exact ⟨by rfl, (b1.trans (hbel.mono b1.size)).trans (b2.mono (Nat.le_trans b1.size hbel.size))⟩
end Go.Proofs.YtgnblkmpoigejaaGreatDoor
namespace Go.Proofs.YtgnblkmpoigejaaGreatDoor
open Go.RowKit
theorem selF_append (l m : List Fld) (n : ByteArray) : selF (l ++ m) n = selF l n ++ selF m n := by
 unfold selF; rw [List.filter_append, List.map_append]
end Go.Proofs.YtgnblkmpoigejaaGreatDoor
