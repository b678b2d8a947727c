import Derived.Test.YtgnblkmpoigejaaGreatDoorV26
import Derived.Test.YtgnblkmpoigejaaGreatDoorZCaO
set_option linter.unusedVariables false
set_option linter.unusedSimpArgs false
namespace Go.Proofs.YtgnblkmpoigejaaGreatDoor
set_option maxRecDepth 20000
open Go.RowKit Go.Shelf
namespace Ca
open Bk
def shF : Value := .func (.func 14) #[] #[]
theorem exec_load_mid {P : Program} {op : Oper} {a : Act} {w : World} (_ : op.guard = none) (t : TypeId) (x : Operand) (ho : op.op = .load t x)
    (b o : Nat) (hx : a.eval x = .pointer (some ⟨b, o, none⟩)) (cs : List Value) (d : TypeDesc) (hc : w.rangeAt b o cs)
    (hu : P.underlying t = some d) (hd : d.isRow = true) (hi : (P.info? t).map (·.size) = some cs.length) : (execOp a.eval op).run P w = .ok (.value (.agg cs.toArray)) w := by
  unfold execOp
  simp only [ho, hx, Instr.loadAt, Instr.sureAddr, Sem.run_bind, Sem.run_pure, Result.andThen_ok, run_loadVar_mid w b o t cs d hc hu hd hi]
set_option maxHeartbeats 4000000 in
theorem sameAll_true (v1 v2 : Value) (ys zs : List Ho) (n1 n2 b1 b2 : Nat) (w : World) (h1 : Owns w n1 29 11 e_ho v1 ys) (h2 : Owns w n2 29 11 e_ho v2 zs) (hy : ∀ y ∈ ys, HoOk w b1 y) (hz : ∀ y ∈ zs, HoOk w b2 y) (he : ys.map (·.1) = zs.map (·.1)) (hlen : ys.length ≤ 1048576) (hl : ∀ y ∈ ys, y.1.l.length ≤ 140737488351232 ∧ y.1.k.length ≤ 140737488351232) :
    Calls Tryz.prog 24 #[v1, v2, shF] w fun e w' => e = .returned (.bool true) ∧ Below w.heap.size w w' := by
  have hll : ys.length = zs.length := by have := congrArg List.length he; simpa using this
  have H1 := Lib.hid (fun hn => ho_at (w := w) (W := w) h1 hn)
  have H2 := Lib.hid (fun hn => ho_at (w := w) (W := w) h2 hn)
  have HY := Lib.hid hy
  have HZ := Lib.hid hz
  have HE := Lib.hid he
  have HL := Lib.hid hl
  obtain ⟨A, c, rfl, -⟩ := (SlR.of_owns h1).form
  obtain ⟨B, d, rfl, -⟩ := (SlR.of_owns h2).form
  have hneq : (((ys.length : Nat) : Int) != ((zs.length : Nat) : Int)) = false := by simp [hll]
  have HLL := Lib.hid hll
  clear hll
  clear h1 h2 hy hz he hl
  unfold shF
  go_enter Tryz.func24, Tryz.ntmps24
  go_wp2_with fail
  go_loopw [15] (fun i wr => ∃ k : Nat, k ≤ ys.length ∧ i = .int .i64 k ∧ Below w.heap.size w wr) (fun i _ => ys.length - (intOf i).toNat)
  case atStart => exact ⟨0, by omega, rfl, Below.refl _ _⟩
  case round =>
    obtain ⟨k, hk, rfl, hb⟩ := hrel
    by_cases hlt : k < ys.length
    · have hlt' : k < zs.length := by rw [← HLL.out]; exact hlt
      obtain ⟨bb, off, c', he, hbb, hcell⟩ := H1.out (by omega)
      injection he with g1 g2 g3
      subst g1 g3
      obtain ⟨bd, ofd, d', he', hbd, hcell'⟩ := H2.out (by omega)
      injection he' with g1' g2' g3'
      subst g1' g3'
      have HC1 := Lib.hid (hcell k hlt)
      have HC2 := Lib.hid (hcell' k hlt')
      have hyo := HY.out _ (List.getElem_mem hlt)
      have hzo := HZ.out _ (List.getElem_mem hlt')
      have hll' := HL.out _ (List.getElem_mem hlt)
      have hee : ys[k].1 = zs[k].1 := by
        have h1 : (ys.map (·.1))[k]? = (zs.map (·.1))[k]? := by rw [HE.out]
        rw [List.getElem?_map, List.getElem?_map, List.getElem?_eq_getElem hlt, List.getElem?_eq_getElem hlt'] at h1
        simpa using h1
      clear hcell hcell' g2 g2'
      generalize ys[k] = y at *
      generalize zs[k] = z at *
      obtain ⟨x, u1, v1⟩ := y
      obtain ⟨x', u2, v2⟩ := z
      dsimp only at hee hll'
      subst hee
      obtain ⟨A1, c1, hA1, -⟩ := (SlR.of_owns hyo.1).form
      obtain ⟨A2, c2, hA2, -⟩ := (SlR.of_owns hyo.2).form
      obtain ⟨A3, c3, hA3, -⟩ := (SlR.of_owns hzo.1).form
      obtain ⟨A4, c4, hA4, -⟩ := (SlR.of_owns hzo.2).form
      dsimp only at hA1 hA2 hA3 hA4
      subst hA1 hA2 hA3 hA4
      unfold e_ho hdC at HC1 HC2
      dsimp only at HC1 HC2
      have HSm : Hid (∀ wc, Below wr.heap.size wr wc → Calls Tryz.prog 14 #[.agg #[.string x.h.rm, .string x.h.rt, .slice A1 x.l.length c1, .string x.h.rb, .int .i64 x.h.code, .string x.h.rs, .slice A2 x.k.length c2, .string x.h.bd, .int .i64 x.h.asked, .int .i64 x.h.came, .int .i64 x.h.mark], .agg #[.string x.h.rm, .string x.h.rt, .slice A3 x.l.length c3, .string x.h.rb, .int .i64 x.h.code, .string x.h.rs, .slice A4 x.k.length c4, .string x.h.bd, .int .i64 x.h.asked, .int .i64 x.h.came, .int .i64 x.h.mark]] wc fun e w' => e = .returned (.bool true) ∧ Below wc.heap.size wc w') := by
        intro wc hwc
        have hbw := hb.trans (hwc.mono hb.size)
        have := sameHeld_true x.h (.slice A1 x.l.length c1) (.slice A3 x.l.length c3) (.slice A2 x.k.length c2) (.slice A4 x.k.length c4) x.l x.k wc (SlR.of_owns (hyo.1.below hbw)) (SlR.of_owns (hzo.1.below hbw)) (SlR.of_owns (hyo.2.below hbw)) (SlR.of_owns (hzo.2.below hbw)) hll'.1 hll'.2
        unfold Fr.hv at this
        dsimp only at this
        exact this
      have HB := Lib.hid hb
      clear hyo hzo hll' HY HZ HE HL H1 H2 hb
      go_wp2_with fail
      refine wp_region_seq [(true, 0), (true, 1), (true, 2), (true, 3), (true, 4), (true, 5), (true, 6), (true, 7), (true, 8), (false, 9), (true, 10)] (fun w' => Below wr.heap.size wr w') (by kernel_rfl) (by kernel_rfl) (fun _ _ _ _ _ h => h) (by kernel_rfl) (by kernel_rfl) (by first | exact (Below.refl _ _).drew | exact Below.drew (by assumption)) ?_
      have bS : Below wr.heap.size wr _ := (by first | exact Below.drew (by assumption) | exact (Below.refl _ wr).drew)
      iterate 11 (first
        | (apply seqH_skip; (focus (simp only [List.getElem?_toArray, List.getElem?_cons_succ, List.getElem?_cons_zero]; rfl)); (focus rfl); simp only [Act.put, List.setIfInBounds_toArray, List.set_cons_zero, List.set_cons_succ])
        | (apply seqH_take; (focus (simp only [List.getElem?_toArray, List.getElem?_cons_succ, List.getElem?_cons_zero]; rfl)); (focus rfl); (focus (intro w' hS; (first|(refine (exec_load_mid rfl 29 (.tmp 21) rfl bb (off + k * 11) rfl _ _ (HC1.out w' (HB.out.trans (Below.mono hS HB.out.size))) Tryz.underlying29 rfl (by kernel_rfl)).trans ?_)|(refine (exec_load_mid rfl 29 (.tmp 25) rfl bd (ofd + k * 11) rfl _ _ (HC2.out w' (HB.out.trans (Below.mono hS HB.out.size))) Tryz.underlying29 rfl (by kernel_rfl)).trans ?_)|skip); first | (go_simp; rfl) | (go_simp; done))); simp only [Act.put, List.setIfInBounds_toArray, List.set_cons_zero, List.set_cons_succ])
        | (apply seqH_pass; (focus (simp only [List.getElem?_toArray, List.getElem?_cons_succ, List.getElem?_cons_zero]; rfl)); (focus rfl); (focus assumption); simp only [Act.put, List.setIfInBounds_toArray, List.set_cons_zero, List.set_cons_succ])
        | (apply seqH_eff; (focus (simp only [List.getElem?_toArray, List.getElem?_cons_succ, List.getElem?_cons_zero]; rfl)); (focus rfl); intro K hK; go_simp; (go_at_call 14; (with_reducible refine (HSm.out _ (by assumption)).mono ?_)); rintro e wN ⟨rfl, bN⟩; refine hK _ _ (seq_next (by assumption) bN (fun bS' => ?_)); clear hK K))
      refine seqH_nil ?_
      go_wp2_with fail
      go_roundw
      case rel => exact ⟨k + 1, by omega, by go_num, HB.out.trans (Below.mono (by assumption) HB.out.size)⟩
      case measure => simp [intOf]; omega
    · obtain rfl : k = ys.length := by omega
      go_wp2_with fail
      go_ret
      exact ⟨rfl, hb⟩
end Ca
end Go.Proofs.YtgnblkmpoigejaaGreatDoor
