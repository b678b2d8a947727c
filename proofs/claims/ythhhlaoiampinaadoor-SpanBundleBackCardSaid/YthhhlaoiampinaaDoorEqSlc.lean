/- Eq over lists of api.Slice. -/
import Derived.Test.YthhhlaoiampinaaDoorRows2
import Derived.Test.YthhhlaoiampinaaDoorRegion
import Derived.Laws.StructEq
namespace Go.Proofs.YthhhlaoiampinaaDoor
open Go.RowKit
theorem eqGuardSlc : (Tryd.prog).eqGuardType (Tryd.prog).depth 31 = false := by kernel_rfl
theorem neqSlc (a0 b0 : Int) (a1 b1 : Int) (w : World) : (binOp .neq 31 (.agg #[.int .i64 a0, .int .i64 a1]) (.agg #[.int .i64 b0, .int .i64 b1])).run Tryd.prog w = .ok (.bool (!((a0 == b0) && (a1 == b1)))) w := by
  rw [run_neq_struct, run_equalIn_agg w 9999 31 _ _ (by kernel_rfl) (by kernel_rfl)]
  simp only [Program.fieldsOf, Tryd.underlying31]
  have hui := Tryd.underlying3
  cases h0 : (a0 == b0) <;> cases h1 : (a1 == b1) <;> go_simp
abbrev ElSlc := Int × Int
def sameSlc (x y : ElSlc) : Bool := (x.1 == y.1) && (x.2 == y.2)
theorem sameSlc_eq (x y : ElSlc) : sameSlc x y = decide (x = y) := by
  rw [Bool.eq_iff_iff, decide_eq_true_iff]
  obtain ⟨a0, a1⟩ := x
  obtain ⟨b0, b1⟩ := y
  simp only [sameSlc, Bool.and_eq_true, beq_iff_eq, Prod.mk.injEq]
  try simp only [and_assoc]
set_option maxRecDepth 8000 in
set_option maxHeartbeats 1600000 in
theorem eqSlc_any (v1 v2 : Value) (xs ys : List (ElSlc)) (w : World) (h1 : SlR w e_ii v1 xs) (h2 : SlR w e_ii v2 ys) (hx : xs.length ≤ 140737488351232) (hy : ys.length ≤ 140737488351232) :
    Calls Tryd.prog 8 #[v1, v2] w fun e w' => e = .returned (.bool (decide (xs = ys))) ∧ Below w.heap.size w w' := by
  have H1 := Lib.hid (fun hn => h1.two (fun _ => rfl) hn)
  have H2 := Lib.hid (fun hn => h2.two (fun _ => rfl) hn)
  obtain ⟨A, c, rfl, hc, -⟩ := h1
  obtain ⟨B, d, rfl, hd, -⟩ := h2
  by_cases hl : xs.length = ys.length
  · have hL := Lib.hid hl
    have hb : (((xs.length : Nat) : Int) != ((ys.length : Nat) : Int)) = false := by simp [hl]
    clear hl
    go_enter Tryd.func8, Tryd.ntmps8
    go_wp2_with fail
    go_loopw [14] (fun i wr => ∃ k : Nat, k ≤ xs.length ∧ i = .int .i64 k ∧ xs.take k = ys.take k ∧ Below w.heap.size w wr) (fun i _ => xs.length - (intOf i).toNat)
    case atStart => exact ⟨0, by omega, rfl, rfl, Below.refl _ _⟩
    case round =>
      obtain ⟨k, hk, rfl, hEq, hbel⟩ := hrel
      have HE := Lib.hid hEq
      clear hEq
      by_cases hlt : k < xs.length
      · have hlt' : k < ys.length := by rw [← hL.out]; exact hlt
        obtain ⟨b1, o1, c1', he1, hb1, hc1⟩ := H1.out (by omega)
        obtain ⟨b2, o2, c2', he2, hb2, hc2⟩ := H2.out (by omega)
        obtain ⟨rfl, rfl⟩ : A = some ⟨b1, o1, none⟩ ∧ c = c1' := by injection he1 with h1 h2 h3; exact ⟨h1, h3⟩
        obtain ⟨rfl, rfl⟩ : B = some ⟨b2, o2, none⟩ ∧ d = c2' := by injection he2 with h1 h2 h3; exact ⟨h1, h3⟩
        obtain ⟨q0, q1⟩ := hc1 k hlt (.int .i64 xs[k].1) (.int .i64 xs[k].2) rfl rfl
        obtain ⟨p0, p1⟩ := hc2 k hlt' (.int .i64 ys[k].1) (.int .i64 ys[k].2) rfl rfl
        have c0 := (hbel.cell (p := ⟨b1, o1 + k * 2, none⟩) hb1).trans q0
        have c1 := (hbel.cell (p := ⟨b1, o1 + k * 2 + 1, none⟩) hb1).trans q1
        have d0 := (hbel.cell (p := ⟨b2, o2 + k * 2, none⟩) hb2).trans p0
        have d1 := (hbel.cell (p := ⟨b2, o2 + k * 2 + 1, none⟩) hb2).trans p1
        clear hc1 hc2 q0 q1 p0 p1 he1 he2 H1 H2
        have hb2' : b2 < wr.heap.size := Nat.lt_of_lt_of_le hb2 hbel.size
        have HTK : Hid (xs.take (k + 1) = ys.take (k + 1) ↔ xs[k] = ys[k]) := by
          show _ ↔ _
          rw [List.take_succ_eq_append_getElem hlt, List.take_succ_eq_append_getElem hlt', HE.out]
          exact ⟨fun h => by have := List.append_cancel_left h; injection this, fun h => by rw [h]⟩
        have HNE : Hid (xs[k] ≠ ys[k] → decide (xs = ys) = false) := fun h => by
          rw [decide_eq_false_iff_not]; rintro rfl; exact h rfl
        generalize xs[k] = x at *
        generalize ys[k] = y at *
        have HSM := Lib.hid (sameSlc_eq x y)
        have b0 : Below wr.heap.size wr (wr.alloc (Obj.cells #[.int .i64 x.1, .int .i64 x.2] 31)) := (Below.refl _ _).alloc (Nat.le_refl _) _
        have HC := Lib.hid (fun w' (hb : Below (wr.alloc (Obj.cells #[.int .i64 x.1, .int .i64 x.2] 31)).heap.size (wr.alloc (Obj.cells #[.int .i64 x.1, .int .i64 x.2] 31)) w') => show w'.cell? ⟨wr.heap.size, 0, none⟩ = some (.int .i64 x.1) ∧ w'.cell? ⟨wr.heap.size, 1, none⟩ = some (.int .i64 x.2) ∧ w'.cell? ⟨b2, o2 + k * 2, none⟩ = some (.int .i64 y.1) ∧ w'.cell? ⟨b2, o2 + k * 2 + 1, none⟩ = some (.int .i64 y.2) from ⟨(hb.cell (by simp)).trans (by go_simp), (hb.cell (by simp)).trans (by go_simp), (hb.cell (by simp; omega)).trans ((b0.cell hb2').trans d0), (hb.cell (by simp; omega)).trans ((b0.cell hb2').trans d1)⟩)
        clear d0 d1
        go_wp2_with fail
        have g1 := eqGuardSlc
        have g2 := neqSlc
        clear c0 c1
        cases hs : sameSlc x y
        all_goals
          have hs' := hs
          unfold sameSlc at hs'
          have hsm := HSM.out
          rw [hs] at hsm
          have HS := Lib.hid hsm
          have hnn : (!((x.1 == y.1) && (x.2 == y.2))) = !(sameSlc x y) := rfl
          rw [hs] at hnn
          clear hs hs' hsm
          refine wp_region_seq [(true, 0), (true, 1), (true, 2), (true, 3), (true, 4), (true, 5)] (fun w' => Below (wr.alloc (Obj.cells #[.int .i64 x.1, .int .i64 x.2] 31)).heap.size (wr.alloc (Obj.cells #[.int .i64 x.1, .int .i64 x.2] 31)) w') (by kernel_rfl) (by kernel_rfl) (fun _ _ _ _ _ h => h) (by kernel_rfl) (by kernel_rfl) (by first | exact (Below.refl _ _).drew | exact Below.drew (by assumption)) ?_
          have bS : Below (wr.alloc (Obj.cells #[.int .i64 x.1, .int .i64 x.2] 31)).heap.size (wr.alloc (Obj.cells #[.int .i64 x.1, .int .i64 x.2] 31)) _ := (by first | exact Below.drew (by assumption) | exact (Below.refl _ (wr.alloc (Obj.cells #[.int .i64 x.1, .int .i64 x.2] 31))).drew)
          iterate 6 (first
            | (apply seqH_skip; (focus (simp only [List.getElem?_toArray, List.getElem?_cons_succ, List.getElem?_cons_zero]; rfl)); (focus rfl); simp only [Act.put, List.setIfInBounds_toArray, List.set_cons_zero, List.set_cons_succ])
            | (apply seqH_take; (focus (simp only [List.getElem?_toArray, List.getElem?_cons_succ, List.getElem?_cons_zero]; rfl)); (focus rfl); (focus (intro w' hS; obtain ⟨e0, e1, e2, e3⟩ := HC.out _ hS; have e99 := g2 x.1 y.1 x.2 y.2 w'; rw [hnn] at e99; first | (go_simp; rfl) | (go_simp; done))); simp only [Act.put, List.setIfInBounds_toArray, List.set_cons_zero, List.set_cons_succ])
            | (apply seqH_pass; (focus (simp only [List.getElem?_toArray, List.getElem?_cons_succ, List.getElem?_cons_zero]; rfl)); (focus rfl); (focus assumption); simp only [Act.put, List.setIfInBounds_toArray, List.set_cons_zero, List.set_cons_succ])
            | (apply seqH_eff; (focus (simp only [List.getElem?_toArray, List.getElem?_cons_succ, List.getElem?_cons_zero]; rfl)); (focus rfl); intro K hK; go_simp; fail; rintro e wN ⟨rfl, bN⟩; refine hK _ _ (seq_next (by assumption) bN (fun bS' => ?_)); clear hK K))
          refine seqH_nil ?_
          go_wp2_with fail
        · go_ret
          exact ⟨ret_bool (HNE.out (fun h => by have := HS.out; rw [decide_eq_true h] at this; cases this)).symm, (hbel.trans (b0.mono hbel.size)).trans (Below.mono (by assumption) (by simp; exact Nat.le_trans hbel.size (Nat.le_succ _)))⟩
        · go_roundw
          case rel => exact ⟨k + 1, by omega, by go_num, HTK.out.2 (of_decide_eq_true HS.out.symm), (hbel.trans (b0.mono hbel.size)).trans (Below.mono (by assumption) (by simp; exact Nat.le_trans hbel.size (Nat.le_succ _)))⟩
          case measure => simp [intOf]; omega
      · have HF : Hid (decide (xs = ys) = true) := by
          show _ = _
          rw [decide_eq_true_iff]
          have := HE.out
          rw [List.take_of_length_le (by omega), List.take_of_length_le (by rw [← hL.out]; omega)] at this
          exact this
        go_wp2_with fail
        go_ret
        exact ⟨ret_bool HF.out.symm, hbel⟩
  · have hb : (((xs.length : Nat) : Int) != ((ys.length : Nat) : Int)) = true := by simp; omega
    have HF : Hid (decide (xs = ys) = false) := by
      show _ = _
      rw [decide_eq_false_iff_not]; rintro rfl; exact hl rfl
    clear hl
    go_enter Tryd.func8, Tryd.ntmps8
    go_wp2_with fail
    go_ret
    exact ⟨ret_bool HF.out.symm, Below.refl _ _⟩
end Go.Proofs.YthhhlaoiampinaaDoor
