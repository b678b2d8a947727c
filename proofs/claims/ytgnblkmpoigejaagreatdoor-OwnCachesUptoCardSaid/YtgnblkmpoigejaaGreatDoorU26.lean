import Derived.Test.YtgnblkmpoigejaaGreatDoorU25
import Derived.Test.YtgnblkmpoigejaaGreatDoorU13
set_option linter.unusedVariables false
set_option linter.unusedSimpArgs false
namespace Go.Proofs.YtgnblkmpoigejaaGreatDoor
set_option maxRecDepth 20000
open Go.RowKit Go.Shelf
namespace Ca
open Bk
set_option maxHeartbeats 4000000 in
theorem sameHeld_true (X : Fr.Hd) (u1 u2 v1 v2 : Value) (l k : List Fld) (w : World) (h1 : SlR w e_ss u1 l) (h2 : SlR w e_ss u2 l) (g1 : SlR w e_ss v1 k) (g2 : SlR w e_ss v2 k) (hl : l.length ≤ 140737488351232) (hk : k.length ≤ 140737488351232) :
  Calls Tryz.prog 14 #[Fr.hv { X with rf := u1 } v1, Fr.hv { X with rf := u2 } v2] w fun e w' => e = .returned (.bool true) ∧ Below w.heap.size w w' := by
 obtain ⟨rm, rt, rf, rb, code, rs, bd, asked, came, mark⟩ := X
 obtain ⟨A1, c1, rfl, -⟩ := h1.form
 obtain ⟨A2, c2, rfl, -⟩ := h2.form
 obtain ⟨B1, d1, rfl, -⟩ := g1.form
 obtain ⟨B2, d2, rfl, -⟩ := g2.form
 unfold Fr.hv
 dsimp only
 have hb := ((Below.refl w.heap.size w).alloc (Nat.le_refl _) (.cells #[.string rm, .string rt, .slice A1 l.length c1, .string rb, .int .i64 code, .string rs, .slice B1 k.length d1, .string bd, .int .i64 asked, .int .i64 came, .int .i64 mark] 29)).alloc (by simp) (.cells #[.string rm, .string rt, .slice A2 l.length c2, .string rb, .int .i64 code, .string rs, .slice B2 k.length d2, .string bd, .int .i64 asked, .int .i64 came, .int .i64 mark] 29)
 have hX := (Blk.new w 29 #[.string rm, .string rt, .slice A1 l.length c1, .string rb, .int .i64 code, .string rs, .slice B1 k.length d1, .string bd, .int .i64 asked, .int .i64 came, .int .i64 mark]).alloc (.cells #[.string rm, .string rt, .slice A2 l.length c2, .string rb, .int .i64 code, .string rs, .slice B2 k.length d2, .string bd, .int .i64 asked, .int .i64 came, .int .i64 mark] 29)
 have hY : Blk ((w.alloc (.cells #[.string rm, .string rt, .slice A1 l.length c1, .string rb, .int .i64 code, .string rs, .slice B1 k.length d1, .string bd, .int .i64 asked, .int .i64 came, .int .i64 mark] 29)).alloc (.cells #[.string rm, .string rt, .slice A2 l.length c2, .string rb, .int .i64 code, .string rs, .slice B2 k.length d2, .string bd, .int .i64 asked, .int .i64 came, .int .i64 mark] 29)) (w.heap.size + 1) 29 #[.string rm, .string rt, .slice A2 l.length c2, .string rb, .int .i64 code, .string rs, .slice B2 k.length d2, .string bd, .int .i64 asked, .int .i64 came, .int .i64 mark] := by
  have := Blk.new (w.alloc (.cells #[.string rm, .string rt, .slice A1 l.length c1, .string rb, .int .i64 code, .string rs, .slice B1 k.length d1, .string bd, .int .i64 asked, .int .i64 came, .int .i64 mark] 29)) 29 #[.string rm, .string rt, .slice A2 l.length c2, .string rb, .int .i64 code, .string rs, .slice B2 k.length d2, .string bd, .int .i64 asked, .int .i64 came, .int .i64 mark]
  rwa [World.size_alloc] at this
 have H1 := Lib.hid (h1.below hb)
 have H2 := Lib.hid (h2.below hb)
 have G1 := Lib.hid (g1.below hb)
 have G2 := Lib.hid (g2.below hb)
 have HB := Lib.hid hb
 clear h1 h2 g1 g2 hb
 go_enter Tryz.func14, Tryz.ntmps14
 go_wp2_with fail
 generalize (w.alloc _).alloc _ = w2 at *
 have r1 : w2.rangeAt w.heap.size 0 [.string rm, .string rt, .slice A1 l.length c1, .string rb] := World.rangeAt_of_block hX 0 4
 have r2 : w2.rangeAt (w.heap.size + 1) 0 [.string rm, .string rt, .slice A2 l.length c2, .string rb] := World.rangeAt_of_block hY 0 4
 go_wp2_with (first
  | refine wpList_load_mid rfl 25 (.tmp 5) rfl w.heap.size 0 rfl _ _ r1 Tryz.underlying25 rfl (by kernel_rfl) ?_
  | refine wpList_load_mid rfl 25 (.tmp 7) rfl (w.heap.size + 1) 0 rfl _ _ r2 Tryz.underlying25 rfl (by kernel_rfl) ?_)
 refine (sameReq_true rm rt rb _ _ l w2 H1.out H2.out hl).mono ?_
 rintro e w3 ⟨rfl, b3⟩
 have hX3 := hX.below b3 hX.lt
 have hY3 := hY.below b3 hY.lt
 have x4 := hX3.cell 4
 have x5 := hX3.cell 5
 have x6 := hX3.cell 6
 have x7 := hX3.cell 7
 have y4 := hY3.cell 4
 have y5 := hY3.cell 5
 have y6 := hY3.cell 6
 have y7 := hY3.cell 7
 clear r1 r2 hX hY
 go_wp2_with fail
 refine (sameResp_true code rs bd _ _ k w3 (G1.out.below b3) (G2.out.below b3) hk).mono ?_
 rintro e w4 ⟨rfl, b4⟩
 have hX4 := hX3.below b4 hX3.lt
 have hY4 := hY3.below b4 hY3.lt
 have x8 := hX4.cell 8
 have x9 := hX4.cell 9
 have x10 := hX4.cell 10
 have y8 := hY4.cell 8
 have y9 := hY4.cell 9
 have y10 := hY4.cell 10
 clear x4 x5 x6 x7 y4 y5 y6 y7 hX3 hY3
 go_wp2_with fail
 go_ret
 exact ⟨by simp, HB.out.trans ((b3.trans (b4.mono b3.size)).mono HB.out.size)⟩
end Ca
set_option maxRecDepth 20000
abbrev HasMax := HasMaxL
namespace Ca
open Bk
end Ca
set_option maxRecDepth 20000
namespace Ca
open Bk
theorem ho_at {w W : World} {n : Nat} {vv : Value} {ys : List Ho} (h : Owns w n 29 11 e_ho vv ys) (hn : 0 < ys.length) :
  ∃ b off c, vv = .slice (some ⟨b, off, none⟩) ys.length c ∧ b < w.heap.size ∧ ∀ k (hk : k < ys.length) W, Below w.heap.size w W → W.rangeAt b (off + k * 11) (e_ho ys[k]) := by
 obtain ⟨b, off, c, hv, -, hb, hc⟩ := SlR.rowN (size := 11) (fun _ => rfl) (SlR.of_owns h) hn
 exact ⟨b, off, c, hv, hb, fun k hk W hW j u hu => (hW.cell (p := ⟨b, off + k * 11 + j, none⟩) hb).trans (by rw [Nat.add_assoc]; exact hc k hk j u hu)⟩
theorem ho_store (w : World) (x : Ce) (A1 A2 : Option Addr) (n1 c1 n2 c2 : Nat) : (storeCells ⟨w.heap.size, 0, none⟩ (hdC x (.slice A1 n1 c1) (.slice A2 n2 c2)).toList).run Tryz.prog (w.alloc (.cells hZ 29)) = .ok () (w.alloc (.cells (hdC x (.slice A1 n1 c1) (.slice A2 n2 c2)) 29)) :=
 run_storeCells_new (P := Tryz.prog) w 29 hZ _ (by kernel_rfl) (by simp [hZ, hdC]) (by simp [hdC, Value.oneCell'])
end Ca
set_option maxRecDepth 20000
namespace Ca
open Bk
def shF : Value := .func (.func 14) #[] #[]
theorem exec_load_mid {P : Program} {op : Oper} {a : Act} {w : World} (_ : op.guard = none) (t : TypeId) (x : Operand) (ho : op.op = .load t x)
  (b o : Nat) (hx : a.eval x = .pointer (some ⟨b, o, none⟩)) (cs : List Value) (d : TypeDesc) (hc : w.rangeAt b o cs)
  (hu : P.underlying t = some d) (hd : d.isRow = true) (hi : (P.info? t).map (·.size) = some cs.length) : (execOp a.eval op).run P w = .ok (.value (.agg cs.toArray)) w := by
 unfold execOp
 simp only [ho, hx, Instr.loadAt, Instr.sureAddr, Sem.run_bind, Sem.run_pure, Result.andThen_ok, run_loadVar_mid w b o t cs d hc hu hd hi]
set_option maxHeartbeats 4000000 in
theorem sameAll_pl (v1 v2 : Value) (ys zs : List Ho) (n1 n2 b1 b2 : Nat) (w : World) (h1 : Owns w n1 29 11 e_ho v1 ys) (h2 : Owns w n2 29 11 e_ho v2 zs) (hy : ∀ y ∈ ys, HoOk w b1 y) (hz : ∀ y ∈ zs, HoOk w b2 y) (he : ys.map (fun y => y.1.pl) = zs.map (fun y => y.1.pl)) (hlen : ys.length ≤ 1048576) (hl : ∀ y ∈ ys, y.1.l.length ≤ 140737488351232 ∧ y.1.k.length ≤ 140737488351232) :
  Calls Tryz.prog 24 #[v1, v2, shF] w fun e w' => e = .returned (.bool true) ∧ Below w.heap.size w w' := by
 have hll : ys.length = zs.length := by have := congrArg List.length he; simpa using this
 have H1 := Lib.hid (fun hn => ho_at (w := w) (W := w) h1 hn)
 have H2 := Lib.hid (fun hn => ho_at (w := w) (W := w) h2 hn)
 have HY := Lib.hid hy
 have HZ := Lib.hid hz
 have HE := Lib.hid he
 have HL := Lib.hid hl
 obtain ⟨A, c, rfl, -⟩ := (SlR.of_owns h1).form
 obtain ⟨B, d, rfl, -⟩ := (SlR.of_owns h2).form
 have hneq : (((ys.length : Nat) : Int) != ((zs.length : Nat) : Int)) = false := by simp [hll]
 have HLL := Lib.hid hll
 clear hll
 clear h1 h2 hy hz he hl
 unfold shF
 go_enter Tryz.func24, Tryz.ntmps24
 go_wp2_with fail
 go_loopw [15] (fun i wr => ∃ k : Nat, k ≤ ys.length ∧ i = .int .i64 k ∧ Below w.heap.size w wr) (fun i _ => ys.length - (intOf i).toNat)
 case atStart => exact ⟨0, by omega, rfl, Below.refl _ _⟩
 case round =>
  obtain ⟨k, hk, rfl, hb⟩ := hrel
  by_cases hlt : k < ys.length
  ·have hlt' : k < zs.length := by rw [← HLL.out]; exact hlt
   obtain ⟨bb, off, c', he, hbb, hcell⟩ := H1.out (by omega)
   injection he with g1 g2 g3
   subst g1 g3
   obtain ⟨bd, ofd, d', he', hbd, hcell'⟩ := H2.out (by omega)
   injection he' with g1' g2' g3'
   subst g1' g3'
   have HC1 := Lib.hid (hcell k hlt)
   have HC2 := Lib.hid (hcell' k hlt')
   have hyo := HY.out _ (List.getElem_mem hlt)
   have hzo := HZ.out _ (List.getElem_mem hlt')
   have hll' := HL.out _ (List.getElem_mem hlt)
   have hee : ys[k].1.pl = zs[k].1.pl := by
    have h1 : (ys.map (fun y => y.1.pl))[k]? = (zs.map (fun y => y.1.pl))[k]? := by rw [HE.out]
    rw [List.getElem?_map, List.getElem?_map, List.getElem?_eq_getElem hlt, List.getElem?_eq_getElem hlt'] at h1
    simpa using h1
   clear hcell hcell' g2 g2'
   generalize ys[k] = y at *
   generalize zs[k] = z at *
   obtain ⟨x, u1, v1⟩ := y
   obtain ⟨x', u2, v2⟩ := z
   dsimp only at hee hll'
   have q0 : x'.h.rm = x.h.rm := (congrArg (fun e : En => e.x.rm) hee).symm
   have q1 : x'.h.rt = x.h.rt := (congrArg (fun e : En => e.x.rt) hee).symm
   have q2 : x'.h.rb = x.h.rb := (congrArg (fun e : En => e.x.rb) hee).symm
   have q3 : x'.h.code = x.h.code := (congrArg (fun e : En => e.x.code) hee).symm
   have q4 : x'.h.rs = x.h.rs := (congrArg (fun e : En => e.x.rs) hee).symm
   have q5 : x'.h.bd = x.h.bd := (congrArg (fun e : En => e.x.bd) hee).symm
   have q6 : x'.h.asked = x.h.asked := (congrArg (fun e : En => e.x.asked) hee).symm
   have q7 : x'.h.came = x.h.came := (congrArg (fun e : En => e.x.came) hee).symm
   have q8 : x'.h.mark = x.h.mark := (congrArg (fun e : En => e.x.mark) hee).symm
   have ql : x'.l = x.l := (congrArg (fun e : En => e.x.l) hee).symm
   have qk : x'.k = x.k := (congrArg (fun e : En => e.x.k) hee).symm
   have hzo : Owns w b2 57 2 e_ss u2 x.l ∧ Owns w b2 57 2 e_ss v2 x.k := ⟨by rw [← ql]; exact hzo.1, by rw [← qk]; exact hzo.2⟩
   clear hee
   obtain ⟨A1, c1, hA1, -⟩ := (SlR.of_owns hyo.1).form
   obtain ⟨A2, c2, hA2, -⟩ := (SlR.of_owns hyo.2).form
   obtain ⟨A3, c3, hA3, -⟩ := (SlR.of_owns hzo.1).form
   obtain ⟨A4, c4, hA4, -⟩ := (SlR.of_owns hzo.2).form
   dsimp only at hA1 hA2 hA3 hA4
   subst hA1 hA2 hA3 hA4
   unfold e_ho hdC at HC1 HC2
   dsimp only at HC1 HC2
   simp only [q0, q1, q2, q3, q4, q5, q6, q7, q8] at HC2
   clear q0 q1 q2 q3 q4 q5 q6 q7 q8 ql qk
   have HSm : Hid (∀ wc, Below wr.heap.size wr wc → Calls Tryz.prog 14 #[.agg #[.string x.h.rm, .string x.h.rt, .slice A1 x.l.length c1, .string x.h.rb, .int .i64 x.h.code, .string x.h.rs, .slice A2 x.k.length c2, .string x.h.bd, .int .i64 x.h.asked, .int .i64 x.h.came, .int .i64 x.h.mark], .agg #[.string x.h.rm, .string x.h.rt, .slice A3 x.l.length c3, .string x.h.rb, .int .i64 x.h.code, .string x.h.rs, .slice A4 x.k.length c4, .string x.h.bd, .int .i64 x.h.asked, .int .i64 x.h.came, .int .i64 x.h.mark]] wc fun e w' => e = .returned (.bool true) ∧ Below wc.heap.size wc w') := by
    intro wc hwc
    have hbw := hb.trans (hwc.mono hb.size)
    have := sameHeld_true x.h (.slice A1 x.l.length c1) (.slice A3 x.l.length c3) (.slice A2 x.k.length c2) (.slice A4 x.k.length c4) x.l x.k wc (SlR.of_owns (hyo.1.below hbw)) (SlR.of_owns (hzo.1.below hbw)) (SlR.of_owns (hyo.2.below hbw)) (SlR.of_owns (hzo.2.below hbw)) hll'.1 hll'.2
    unfold Fr.hv at this
    dsimp only at this
    exact this
   have HB := Lib.hid hb
   clear hyo hzo hll' HY HZ HE HL H1 H2 hb
   go_wp2_with fail
   refine wp_region_seq [(true, 0), (true, 1), (true, 2), (true, 3), (true, 4), (true, 5), (true, 6), (true, 7), (true, 8), (false, 9), (true, 10)] (fun w' => Below wr.heap.size wr w') (by kernel_rfl) (by kernel_rfl) (fun _ _ _ _ _ h => h) (by kernel_rfl) (by kernel_rfl) (by first | exact (Below.refl _ _).drew | exact Below.drew (by assumption)) ?_
   have bS : Below wr.heap.size wr _ := (by first | exact Below.drew (by assumption) | exact (Below.refl _ wr).drew)
   iterate 11 (first
    | (apply seqH_skip; (focus (simp only [List.getElem?_toArray, List.getElem?_cons_succ, List.getElem?_cons_zero]; rfl)); (focus rfl); simp only [Act.put, List.setIfInBounds_toArray, List.set_cons_zero, List.set_cons_succ])
    | (apply seqH_take; (focus (simp only [List.getElem?_toArray, List.getElem?_cons_succ, List.getElem?_cons_zero]; rfl)); (focus rfl); (focus (intro w' hS; (first|(refine (exec_load_mid rfl 29 (.tmp 21) rfl bb (off + k * 11) rfl _ _ (HC1.out w' (HB.out.trans (Below.mono hS HB.out.size))) Tryz.underlying29 rfl (by kernel_rfl)).trans ?_)|(refine (exec_load_mid rfl 29 (.tmp 25) rfl bd (ofd + k * 11) rfl _ _ (HC2.out w' (HB.out.trans (Below.mono hS HB.out.size))) Tryz.underlying29 rfl (by kernel_rfl)).trans ?_)|skip); first | (go_simp; rfl) | (go_simp; done))); simp only [Act.put, List.setIfInBounds_toArray, List.set_cons_zero, List.set_cons_succ])
    | (apply seqH_pass; (focus (simp only [List.getElem?_toArray, List.getElem?_cons_succ, List.getElem?_cons_zero]; rfl)); (focus rfl); (focus assumption); simp only [Act.put, List.setIfInBounds_toArray, List.set_cons_zero, List.set_cons_succ])
    | (apply seqH_eff; (focus (simp only [List.getElem?_toArray, List.getElem?_cons_succ, List.getElem?_cons_zero]; rfl)); (focus rfl); intro K hK; go_simp; (go_at_call 14; (with_reducible refine (HSm.out _ (by assumption)).mono ?_)); rintro e wN ⟨rfl, bN⟩; refine hK _ _ (seq_next (by assumption) bN (fun bS' => ?_)); clear hK K))
   refine seqH_nil ?_
   go_wp2_with fail
   go_roundw
   case rel => exact ⟨k + 1, by omega, by go_num, HB.out.trans (Below.mono (by assumption) HB.out.size)⟩
   case measure => simp [intOf]; omega
  ·obtain rfl : k = ys.length := by omega
   go_wp2_with fail
   go_ret
   exact ⟨rfl, hb⟩
end Ca
set_option maxRecDepth 20000
namespace Ca
open Bk
def nC (n1 n2 n3 : Nat) : Lim := ⟨n3, fun k => n1 ≤ k ∧ k < n2⟩
def nD (n2 n3 : Nat) (w : World) : Lim := ⟨w.heap.size, fun k => n2 ≤ k ∧ k < n3⟩
def nK (n1 n2 n3 s : Nat) (w : World) : Lim := ⟨w.heap.size, fun k => k < s ∧ (nC n1 n2 n3).ok k⟩
structure Both (w : World) (n2 n3 : Nat) (A A' : Ad) (M M' : Nat) (xs xs' : List Ce) (made made' : Nat) (wr : World) : Prop where
 c : CaS wr (nC w.heap.size n2 n3) A 100000 M xs made
 d : CaS wr (nD n2 n3 wr) A' 100000 M' xs' made'
 e : EnvK (lim w.heap.size) wr
 b : Below w.heap.size w wr
 h2 : w.heap.size ≤ n2
 h3 : n2 ≤ n3
 hz : n3 ≤ wr.heap.size
section
variable {w wr w' : World} {n2 n3 : Nat} {A A' : Ad} {M M' : Nat} {xs xs' : List Ce} {made made' : Nat}
theorem Both.below (h : Both w n2 n3 A A' M M' xs xs' made made' wr) (hb : Below wr.heap.size wr w') : Both w n2 n3 A A' M M' xs xs' made made' w' :=
 ⟨h.c.below hb, h.d.mv ⟨fun k hk ok => ⟨hb.block k hk, .inr (ok.elim (fun e => absurd hk (Nat.not_lt.2 e)) id)⟩, hb.size, Nat.le_refl _⟩, h.e.below hb, h.b.trans (hb.mono h.b.size), h.h2, h.h3, Nat.le_trans h.hz hb.size⟩
theorem Both.mono {M2 : Nat} (h : Both w n2 n3 A A' M M' xs xs' made made' wr) (hm : M ≤ M2) : Both w n2 n3 A A' M2 M' xs xs' made made' wr := ⟨h.c.mono hm, h.d, h.e, h.b, h.h2, h.h3, h.hz⟩
theorem Both.toK (h : Both w n2 n3 A A' M M' xs xs' made made' wr) (hb : Below wr.heap.size wr w') : CaS w' (nK w.heap.size n2 n3 wr.heap.size w') A 100000 M xs made :=
 h.c.mv ⟨fun k hk ok => ⟨hb.block k hk, .inr ⟨hk, ok⟩⟩, hb.size, Nat.le_refl _⟩
theorem Both.le_ok (h : Both w n2 n3 A A' M M' xs xs' made made' wr) {s k : Nat} (hk : (nK w.heap.size n2 n3 s wr).ok k) : w.heap.size ≤ k := by
 have h2 := h.h2
 have h3 := h.h3
 have h4 := h.hz
 rcases hk with e | ⟨_, e | ⟨e, _⟩⟩
 ·have e : wr.heap.size ≤ k := e
  omega
 ·have e : n3 ≤ k := e
  omega
 ·exact e
theorem Both.envK (h : Both w n2 n3 A A' M M' xs xs' made made' wr) (s : Nat) : EnvK (nK w.heap.size n2 n3 s wr) wr := h.e.sub fun _ hk => lim_ok.2 (h.le_ok hk)
theorem Both.back (h : Both w n2 n3 A A' M M' xs xs' made made' wr) {s M2 made2 : Nat} {ys : List Ce} (hc : CaS w' (nK w.heap.size n2 n3 s wr) A 100000 M2 ys made2) (hb : Bel (nK w.heap.size n2 n3 s wr) wr w') : Both w n2 n3 A A' M2 M' ys xs' made2 made' w' := by
 have h3 := h.h3
 have h4 := h.hz
 have hs := hb.size
 refine ⟨hc.mv ⟨fun k _ ok => ⟨rfl, ?_⟩, Nat.le_refl _, Nat.le_trans h.hz hb.size⟩, h.d.mv ⟨fun k hk ok => ?_, hb.size, Nat.le_refl _⟩, h.e.bel (hb.lower fun k ok => lim_ok.2 (h.le_ok ok)), h.b.trans (hb.lower (m := lim w.heap.size) fun k ok => lim_ok.2 (h.le_ok ok)).to, h.h2, h.h3, Nat.le_trans h.hz hb.size⟩
 ·rcases ok with e | ⟨_, e⟩
  ·exact .inl (Nat.le_trans h.hz e)
  ·exact e
 ·have hn : n2 ≤ k ∧ k < n3 := ok.elim (fun e => absurd hk (Nat.not_lt.2 e)) id
  refine ⟨hb.block k ?_, .inr hn⟩
  rintro (e | ⟨_, e | ⟨_, e⟩⟩)
  ·exact absurd hk (Nat.not_lt.2 e)
  ·have e : n3 ≤ k := e
   omega
  ·omega
theorem Both.spoil (h : Both w n2 n3 A A' M M' xs xs' made made' wr) {u v : Value} {n k : Nat} (hu : FB wr u n) (hv : FB wr v k) (hs : Spl u v wr w') (hg : ∀ g, u.ownBlock = some g ∨ v.ownBlock = some g → n3 ≤ g)
  (he : ∀ x ∈ xs, ∀ g, (u.ownBlock = some g ∨ v.ownBlock = some g) → x.h.rf.ownBlock ≠ some g ∧ x.u.ownBlock ≠ some g) : Both w n2 n3 A A' M M' xs xs' made made' w' := by
 have h2 := h.h2
 have h3 := h.h3
 have h4 := h.hz
 have hsz := hs.2.2.2.1
 have hF : ∀ g, (u.ownBlock = some g ∨ v.ownBlock = some g) → ∃ cs, Blk wr g 57 cs := fun g e => e.elim (fun e => hu.own e) (fun e => hv.own e)
 have hb : Bel (lim w.heap.size) wr w' := ⟨hs.1, hs.2.1, hs.2.2.1, hsz, fun k hk => by
  have hk' : k < w.heap.size := Nat.lt_of_not_le fun e => hk (lim_ok.2 e)
  refine hs.2.2.2.2 k (by omega) (fun e => ?_) (fun e => ?_)
  ·have := hg k (.inl e); omega
  ·have := hg k (.inr e); omega⟩
 refine ⟨(h.c.avoid (fun g => u.ownBlock = some g ∨ v.ownBlock = some g) hF he).mv ⟨fun k hk ok => ?_, hsz, Nat.le_trans h.hz hsz⟩, h.d.mv ⟨fun k hk ok => ?_, hsz, Nat.le_refl _⟩, h.e.bel hb, h.b.trans hb.to, h.h2, h.h3, Nat.le_trans h.hz hsz⟩
 ·rcases ok with e | ⟨e, np⟩
  ·exact absurd hk (Nat.not_lt.2 e)
  ·exact ⟨hs.2.2.2.2 k hk (fun e => np (.inl e)) (fun e => np (.inr e)), e⟩
 ·have hn : n2 ≤ k ∧ k < n3 := ok.elim (fun e => absurd hk (Nat.not_lt.2 e)) id
  refine ⟨hs.2.2.2.2 k hk (fun e => ?_) (fun e => ?_), .inr hn⟩
  ·have := hg k (.inl e); omega
  ·have := hg k (.inr e); omega
theorem CaS.low {n : Lim} {room : Int} (h : CaS wr n A room M xs made) : ∀ x ∈ xs, ∀ g, x.h.rf.ownBlock = some g ∨ x.u.ownBlock = some g → g < wr.heap.size := fun x hx g e =>
 e.elim (fun e => ((h.t.ent x hx).rf.lt g e).2) (fun e => ((h.t.ent x hx).u.lt g e).2)
theorem CaS.ows {n : Lim} {room : Int} (h : CaS wr n A room M xs made) : ∀ x ∈ xs, ∀ g, x.h.rf.ownBlock = some g ∨ x.u.ownBlock = some g → n.ok g := fun x hx g e =>
 (h.t.ent x hx).ow g (e.elim .inl (fun e => .inr (.inl e)))
end
theorem Owns.spl {wr w' : World} {n k b : Nat} {u v vv : Value} {zs : List Ho} (ho : Owns wr b 29 11 e_ho vv zs) (hu : FB wr u n) (hv : FB wr v k) (hs : Spl u v wr w') : Owns w' b 29 11 e_ho vv zs := by
 refine ⟨ho.1, ho.2.imp id ?_⟩
 rintro ⟨g, cap, cur, h1, h2, h3, h4⟩
 refine ⟨g, cap, cur, h1, h2, (hs.2.2.2.2 g (heap_lt' h3) (fun e => ?_) (fun e => ?_)).trans h3, h4⟩
 ·obtain ⟨_, hb⟩ := hu.own e
  exact absurd (Blk.ty (show Blk wr g 29 cur from h3) hb) (by decide)
 ·obtain ⟨_, hb⟩ := hv.own e
  exact absurd (Blk.ty (show Blk wr g 29 cur from h3) hb) (by decide)
theorem touchC_mem {xs : List Ce} {o : Option Ce} (ho : ∀ x, o = some x → x ∈ xs) : ∀ y ∈ touchC xs o, y ∈ xs := by
 intro y hy
 unfold touchC at hy
 split at hy
 ·exact hy
 ·rename_i x
  rcases List.mem_append.1 hy with hy | hy
  ·exact (List.mem_filter.1 hy).1
  ·rw [List.mem_singleton.1 hy]; exact ho x rfl
end Ca
end Go.Proofs.YtgnblkmpoigejaaGreatDoor
