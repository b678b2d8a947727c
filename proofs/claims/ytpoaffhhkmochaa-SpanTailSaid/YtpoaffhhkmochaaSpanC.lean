/- Eq over slices of api.Slice. -/
import Derived.Test.YtpoaffhhkmochaaSpanA
import Derived.Test.YtpoaffhhkmochaaRegion
import Derived.Deep.QuietTactic
import Derived.BigQuiet
import Derived.Laws.StructEq
namespace Go.Proofs.Ytpoaffhhkmochaa
open Go.RowKit
theorem Blk.keep {w : World} {o : Obj} {p : Addr} {u : Value} (h : w.cell? p = some u) : (w.alloc o).cell? p = some u :=
  ((Below.refl w.heap.size w).alloc (Nat.le_refl _) o).cell (World.block_lt_of_cell? _ _ h) |>.trans h
theorem eqGuardSlice : (Try.prog).eqGuardType (Try.prog).depth 51 = false := by kernel_rfl
theorem neqSlice (a b c d : Int) (w : World) : (binOp .neq 51 (.agg #[.int .i64 a, .int .i64 b]) (.agg #[.int .i64 c, .int .i64 d])).run Try.prog w = .ok (.bool (!((a == c) && (b == d)))) w := by
  rw [run_neq_struct, run_equalIn_agg w 9999 51 _ _ (by kernel_rfl) (by kernel_rfl)]
  simp only [Program.fieldsOf, Try.underlying51]
  have hu := Try.underlying3
  cases h0 : (a == c) <;> cases h1 : (b == d) <;> go_simp
set_option maxRecDepth 8000 in
set_option maxHeartbeats 1600000 in
theorem eqSlice_any (v1 v2 : Value) (xs ys : List (Int × Int)) (w : World) (h1 : SlR w e_ii v1 xs) (h2 : SlR w e_ii v2 ys) (hx : xs.length ≤ 140737488351232) :
    Calls Try.prog 26 #[v1, v2] w fun e w' => e = .returned (.bool (decide (xs = ys))) ∧ Below w.heap.size w w' := by
  have H1 := Lib.hid (fun hn => h1.two (fun _ => rfl) hn)
  have H2 := Lib.hid (fun hn => h2.two (fun _ => rfl) hn)
  obtain ⟨A, c, rfl, hc, -⟩ := h1
  obtain ⟨B, d, rfl, hd, -⟩ := h2
  by_cases hl : xs.length = ys.length
  · have hL := Lib.hid hl
    have hb : (((xs.length : Nat) : Int) != ((ys.length : Nat) : Int)) = false := by simp [hl]
    clear hl
    go_enter Try.func26, Try.ntmps26
    go_wp2_with fail
    go_loopw [14] (fun i wr => ∃ k : Nat, k ≤ xs.length ∧ i = .int .i64 k ∧ xs.take k = ys.take k ∧ Below w.heap.size w wr) (fun i _ => xs.length - (intOf i).toNat)
    case atStart => exact ⟨0, by omega, rfl, rfl, Below.refl _ _⟩
    case round =>
      obtain ⟨k, hk, rfl, hEq, hbel⟩ := hrel
      have HE := Lib.hid hEq
      clear hEq
      have hsz0 := hbel.size
      by_cases hlt : k < xs.length
      · have hlt' : k < ys.length := by rw [← hL.out]; exact hlt
        obtain ⟨b1, o1, c1', he1, hb1, hc1⟩ := H1.out (by omega)
        obtain ⟨b2, o2, c2', he2, hb2, hc2⟩ := H2.out (by omega)
        obtain ⟨rfl, rfl⟩ : A = some ⟨b1, o1, none⟩ ∧ c = c1' := by injection he1 with h1 h2 h3; exact ⟨h1, h3⟩
        obtain ⟨rfl, rfl⟩ : B = some ⟨b2, o2, none⟩ ∧ d = c2' := by injection he2 with h1 h2 h3; exact ⟨h1, h3⟩
        obtain ⟨q0, q1⟩ := hc1 k hlt (.int .i64 xs[k].1) (.int .i64 xs[k].2) rfl rfl
        obtain ⟨q2, q3⟩ := hc2 k hlt' (.int .i64 ys[k].1) (.int .i64 ys[k].2) rfl rfl
        have c0 := (hbel.cell (p := ⟨b1, o1 + k * 2, none⟩) hb1).trans q0
        have c1 := (hbel.cell (p := ⟨b1, o1 + k * 2 + 1, none⟩) hb1).trans q1
        have c2 := (hbel.cell (p := ⟨b2, o2 + k * 2, none⟩) hb2).trans q2
        have c3 := (hbel.cell (p := ⟨b2, o2 + k * 2 + 1, none⟩) hb2).trans q3
        clear hc1 hc2 q0 q1 q2 q3 he1 he2 H1 H2
        have hb2' : b2 < wr.heap.size := Nat.lt_of_lt_of_le hb2 hbel.size
        have hne : wr.heap.size ≠ b2 := by omega
        have hne' : b2 ≠ wr.heap.size := by omega
        have e0 : (wr.alloc (Obj.cells #[.int .i64 xs[k].1, .int .i64 xs[k].2] 51)).cell? ⟨b2, o2 + k * 2, none⟩ = some (.int .i64 ys[k].1) := (Blk.keep c2)
        have e1 : (wr.alloc (Obj.cells #[.int .i64 xs[k].1, .int .i64 xs[k].2] 51)).cell? ⟨b2, o2 + k * 2 + 1, none⟩ = some (.int .i64 ys[k].2) := (Blk.keep c3)
        go_wp2_with fail
        have g1 := eqGuardSlice
        have g2 := neqSlice
        have HC : Hid (∀ w', Below (wr.alloc (Obj.cells #[.int .i64 xs[k].1, .int .i64 xs[k].2] 51)).heap.size (wr.alloc (Obj.cells #[.int .i64 xs[k].1, .int .i64 xs[k].2] 51)) w' → w'.cell? ⟨wr.heap.size, 0, none⟩ = some (.int .i64 xs[k].1) ∧ w'.cell? ⟨wr.heap.size, 1, none⟩ = some (.int .i64 xs[k].2) ∧ w'.cell? ⟨b2, o2 + k * 2, none⟩ = some (.int .i64 ys[k].1) ∧ w'.cell? ⟨b2, o2 + k * 2 + 1, none⟩ = some (.int .i64 ys[k].2)) := by
          intro w' hb
          refine ⟨(hb.cell (by simp)).trans (by go_simp), (hb.cell (by simp)).trans (by go_simp), (hb.cell (by simp; omega)).trans e0, (hb.cell (by simp; omega)).trans e1⟩
        clear c0 c1 c2 c3 e0 e1
        refine wp_region_seq [(true, 0), (true, 1), (true, 2), (true, 3), (true, 4), (true, 5)] (fun w' => Below (wr.alloc (Obj.cells #[.int .i64 xs[k].1, .int .i64 xs[k].2] 51)).heap.size (wr.alloc (Obj.cells #[.int .i64 xs[k].1, .int .i64 xs[k].2] 51)) w') (by kernel_rfl) (by kernel_rfl) (fun _ _ _ _ _ h => h) (by kernel_rfl) (by kernel_rfl) (by first | exact (Below.refl _ _).drew | exact Below.drew (by assumption)) ?_
        have bS : Below (wr.alloc (Obj.cells #[.int .i64 xs[k].1, .int .i64 xs[k].2] 51)).heap.size (wr.alloc (Obj.cells #[.int .i64 xs[k].1, .int .i64 xs[k].2] 51)) _ := (by first | exact (Below.refl _ _).drew | exact Below.drew (by assumption))
        iterate 6 (first
          | (apply seqH_skip; (focus (simp only [List.getElem?_toArray, List.getElem?_cons_succ, List.getElem?_cons_zero]; rfl)); (focus rfl); simp only [Act.put, List.setIfInBounds_toArray, List.set_cons_zero, List.set_cons_succ])
          | (apply seqH_take; (focus (simp only [List.getElem?_toArray, List.getElem?_cons_succ, List.getElem?_cons_zero]; rfl)); (focus rfl); (focus (intro w' hS; obtain ⟨c0, c1, c2, c3⟩ := HC.out _ hS; first | (go_simp; rfl) | (go_simp; done) | (trace_state; sorry))); simp only [Act.put, List.setIfInBounds_toArray, List.set_cons_zero, List.set_cons_succ]))
        refine seqH_nil ?_
        go_wp2_with fail
        · have HF : Hid (decide (xs = ys) = false) := by
            show _ = _
            rw [decide_eq_false_iff_not]; rintro rfl; simp_all
          go_ret
          exact ⟨ret_bool HF.out.symm, ((hbel.alloc hbel.size _).drew)⟩
        · go_roundw
          case rel => exact ⟨k + 1, by omega, by go_num, by rw [List.take_add_one, List.take_add_one, HE.out, List.getElem?_eq_getElem hlt, List.getElem?_eq_getElem hlt', show xs[k] = ys[k] from Prod.ext (by simp_all) (by simp_all)], (hbel.alloc hbel.size _).drew⟩
          case measure => simp [intOf]; omega
      · have HF : Hid (decide (xs = ys) = true) := by
          show _ = _
          rw [decide_eq_true_iff]
          have := HE.out
          rw [List.take_of_length_le (by omega), List.take_of_length_le (by rw [← hL.out]; omega)] at this
          exact this
        go_wp2_with fail
        go_ret
        exact ⟨ret_bool HF.out.symm, hbel⟩
  · have hb : (((xs.length : Nat) : Int) != ((ys.length : Nat) : Int)) = true := by simp; omega
    have HF : Hid (decide (xs = ys) = false) := by
      show _ = _
      rw [decide_eq_false_iff_not]; rintro rfl; exact hl rfl
    clear hl
    go_enter Try.func26, Try.ntmps26
    go_wp2_with fail
    go_ret
    exact ⟨ret_bool HF.out.symm, Below.refl _ _⟩
end Go.Proofs.Ytpoaffhhkmochaa
