/- Merge's order: its closure's walk. -/
import Derived.Test.YthhhlaoiampinaaMrgA
import Derived.Test.YthhhlaoiampinaaShelf
import Derived.Shelf.SlSortCmp.InsertionK
import Derived.Test.YthhhlaoiampinaaRegion
namespace Go.Proofs.Ythhhlaoiampinaa
set_option maxRecDepth 20000
open Go.RowKit
namespace Mrg
open Go.Sort (grow)
/-- Which of two slices comes first. -/
def cfM (x y : Int × Int) : Int := if Lib.compareInt x.1 y.1 = 0 then Lib.compareInt x.2 y.2 else Lib.compareInt x.1 y.1
theorem ltM (x y : Int × Int) : ltOf cfM x y = decide (x.1 < y.1 ∨ (x.1 = y.1 ∧ x.2 < y.2)) := by
  unfold ltOf cfM Lib.compareInt
  by_cases h1 : x.1 < y.1
  · simp [h1]
  · by_cases h2 : y.1 < x.1
    · have : ¬ x.1 = y.1 := by omega
      simp [h1, h2, this]
    · have : x.1 = y.1 := by omega
      by_cases h3 : x.2 < y.2
      · simp [this, h3]
      · by_cases h4 : y.2 < x.2 <;> simp [this, h3, h4]
theorem swoM : Go.Sort.SWO (ltOf cfM) where
  irrefl x := by rw [ltM]; simp
  trans x y z h1 h2 := by rw [ltM] at *; simp at *; omega
  ntrans x y z h1 h2 := by rw [ltM] at *; simp at *; omega
theorem or2_any (g : Nat) (a b : Int) (w : World) (h0 : w.cell? ⟨g, 0, none⟩ = some (.int .i64 a)) (h1 : w.cell? ⟨g, 1, none⟩ = some (.int .i64 b)) :
    Calls Try.prog 34 #[.slice (some ⟨g, 0, none⟩) 2 2] w fun e w' => e = .returned (.int .i64 (if a = 0 then b else a)) ∧ w' = w := by
  obtain ⟨r, hr⟩ : ∃ r, (if a = 0 then b else a) = r := ⟨_, rfl⟩
  rw [hr]
  have HR := Lib.hid hr
  clear hr
  go_enter Try.func34, Try.ntmps34
  go_wp2_with fail
  go_loopw [8] (fun i wr => wr = w ∧ ∃ k : Nat, k ≤ 2 ∧ i = .int .i64 k ∧ (0 < k → a = 0) ∧ (k = 2 → b = 0)) (fun i _ => 2 - (intOf i).toNat)
  case atStart => exact ⟨rfl, 0, by omega, rfl, by omega, by omega⟩
  case round =>
    obtain ⟨hw, k, hk, rfl, ha, hb⟩ := hrel
    subst hw
    have hc : k = 0 ∨ k = 1 ∨ k = 2 := by omega
    rcases hc with rfl | rfl | rfl
    · by_cases h : a = 0
      · subst h
        go_wp2_with fail
        go_roundw
        case rel => exact ⟨by simp, 1, by omega, rfl, fun _ => by simp, by omega⟩
        case measure => simp [intOf]
      · have hq : (a != 0) = true := by simpa using h
        have hR : Hid (r = a) := by have := HR.out; rw [if_neg h] at this; exact this.symm
        clear h
        go_wp2_with fail
        go_ret
        exact ⟨by rw [hR.out]; rfl, rfl⟩
    · have ha0 := ha (by omega)
      subst ha0
      by_cases h : b = 0
      · subst h
        go_wp2_with fail
        go_roundw
        case rel => exact ⟨by simp, 2, by omega, rfl, fun _ => by simp, fun _ => by simp⟩
        case measure => simp [intOf]
      · have hq : (b != 0) = true := by simpa using h
        have hR : Hid (r = b) := by have := HR.out; rw [if_pos rfl] at this; exact this.symm
        clear h
        go_wp2_with fail
        go_ret
        exact ⟨by rw [hR.out]; rfl, rfl⟩
    · have ha0 := ha (by omega)
      have hb0 := hb rfl
      subst ha0 hb0
      have hR : Hid (r = 0) := by have := HR.out; rw [if_pos rfl] at this; exact this.symm
      go_wp2_with fail
      go_ret
      exact ⟨by rw [hR.out]; rfl, rfl⟩
/-- Draws on, and blocks behind. -/
def GrowOf (w w' : World) : Prop := ∃ q os, w' = grow (w.drewN q) os
theorem grow_twice (w : World) (q1 q2 : Nat) (o1 o2 : Array Obj) : grow ((grow (w.drewN q1) o1).drewN q2) o2 = grow (w.drewN (q1 + q2)) (o1 ++ o2) := by
  simp [grow, World.drewN, Array.append_assoc, Nat.add_assoc]
theorem growCell {w w' : World} {a : Addr} {v : Value} (h : GrowOf w w') (hb : a.block < w.heap.size) (hc : w.cell? a = some v) : w'.cell? a = some v := by
  obtain ⟨q, os, rfl⟩ := h
  exact cell_grown hb hc q os
set_option maxHeartbeats 1000000 in
theorem merge2_any (x y : Int × Int) (w : World) :
    Calls Try.prog 33 #[.agg #[.int .i64 x.1, .int .i64 x.2], .agg #[.int .i64 y.1, .int .i64 y.2]] w fun e w' => e = .returned (.int .i64 (cfM x y)) ∧ GrowOf w w' := by
  obtain ⟨a, b⟩ := x
  obtain ⟨c, d⟩ := y
  have HC := Lib.hid (fun m n W => Try.cmp_Compare_int m n W)
  have HR : Hid (cfM (a, b) (c, d) = if Lib.compareInt a c = 0 then Lib.compareInt b d else Lib.compareInt a c) := rfl
  go_enter Try.func33, Try.ntmps33
  have h0 := (Blk.new w 26 #[.int .i64 a, .int .i64 b]).alloc (.cells #[.int .i64 c, .int .i64 d] 26)
  have h1 := Blk.new (w.alloc (.cells #[.int .i64 a, .int .i64 b] 26)) 26 #[.int .i64 c, .int .i64 d]
  rw [World.size_alloc] at h1
  have hG0 : GrowOf w ((w.alloc (.cells #[.int .i64 a, .int .i64 b] 26)).alloc (.cells #[.int .i64 c, .int .i64 d] 26)) := ⟨0, _, by rw [Go.Sort.alloc_eq_grow, Go.Sort.alloc_eq_grow, Go.Sort.grow_grow]; rfl⟩
  go_wp2_with fail
  generalize (w.alloc (.cells #[.int .i64 a, .int .i64 b] 26)).alloc (.cells #[.int .i64 c, .int .i64 d] 26) = W1 at *
  have c0 := h0.cell 0
  have c1 := h0.cell 1
  have d0 := h1.cell 0
  have d1 := h1.cell 1
  have l0 := h0.lt
  have l1 := h1.lt
  clear h0 h1
  have hD : GrowOf W1 W1.drew := ⟨1, #[], by simp; rfl⟩
  refine wp_region_seq [(true, 0), (true, 1), (true, 2), (true, 3), (true, 5), (true, 6), (true, 7), (true, 8), (false, 4), (false, 9), (false, 10), (false, 11), (true, 12)] (fun w' => GrowOf W1 w') (by kernel_rfl) (by kernel_rfl) (fun _ _ _ _ _ h => h) (by kernel_rfl) (by kernel_rfl) ?_ ?_
  · exact hD
  iterate 8 (first | (apply seqH_skip; (focus (simp only [List.getElem?_toArray, List.getElem?_cons_succ, List.getElem?_cons_zero]; rfl)); (focus rfl); simp only [Act.put, List.setIfInBounds_toArray, List.set_cons_zero, List.set_cons_succ]) | (apply seqH_take; (focus (simp only [List.getElem?_toArray, List.getElem?_cons_succ, List.getElem?_cons_zero]; rfl)); (focus rfl); (focus (intro w' hS; have c0 := growCell hS l0 c0; have c1 := growCell hS l0 c1; have d0 := growCell hS l1 d0; have d1 := growCell hS l1 d1; first | (go_simp; rfl) | (go_simp; done))); simp only [Act.put, List.setIfInBounds_toArray, List.set_cons_zero, List.set_cons_succ]) | (apply seqH_pass; (focus (simp only [List.getElem?_toArray, List.getElem?_cons_succ, List.getElem?_cons_zero]; rfl)); (focus rfl); (focus assumption); simp only [Act.put, List.setIfInBounds_toArray, List.set_cons_zero, List.set_cons_succ]))
  apply seqH_eff
  (focus (simp only [List.getElem?_toArray, List.getElem?_cons_succ, List.getElem?_cons_zero]; rfl))
  (focus rfl)
  intro K hK
  go_simp
  refine (HC.out _ _ _).mono ?_
  rintro e w2 ⟨rfl, rfl⟩
  refine hK _ _ ⟨hD, ?_⟩
  clear hK K
  apply seqH_eff
  (focus (simp only [List.getElem?_toArray, List.getElem?_cons_succ, List.getElem?_cons_zero]; rfl))
  (focus rfl)
  intro K hK
  go_simp
  refine (HC.out _ _ _).mono ?_
  rintro e w3 ⟨rfl, rfl⟩
  refine hK _ _ ⟨hD, ?_⟩
  clear hK K
  generalize Lib.compareInt a c = p at *
  generalize Lib.compareInt b d = q at *
  have hD2 : GrowOf W1 (W1.alloc (.cells #[.int .i64 p, .int .i64 q] 3)).drew := ⟨1, #[.cells #[.int .i64 p, .int .i64 q] 3], by rw [Go.Sort.alloc_eq_grow]; rfl⟩
  have hB := Blk.new W1 3 #[.int .i64 p, .int .i64 q]
  have HO := or2_any W1.heap.size p q (W1.alloc (.cells #[.int .i64 p, .int .i64 q] 3)).drew (hB.drew.cell 0) (hB.drew.cell 1)
  obtain ⟨r, hr⟩ : ∃ r, (if p = 0 then q else p) = r := ⟨_, rfl⟩
  rw [hr] at HR HO
  clear hr
  apply seqH_eff
  (focus (simp only [List.getElem?_toArray, List.getElem?_cons_succ, List.getElem?_cons_zero]; rfl))
  (focus rfl)
  intro K hK
  go_simp
  refine hK _ _ ⟨hD2, ?_⟩
  clear hK K
  apply seqH_eff
  (focus (simp only [List.getElem?_toArray, List.getElem?_cons_succ, List.getElem?_cons_zero]; rfl))
  (focus rfl)
  intro K hK
  go_simp
  refine HO.mono ?_
  rintro e w5 ⟨rfl, rfl⟩
  refine hK _ _ ⟨hD2, ?_⟩
  clear hK K
  iterate 1 (first | (apply seqH_skip; (focus (simp only [List.getElem?_toArray, List.getElem?_cons_succ, List.getElem?_cons_zero]; rfl)); (focus rfl); simp only [Act.put, List.setIfInBounds_toArray, List.set_cons_zero, List.set_cons_succ]) | (apply seqH_take; (focus (simp only [List.getElem?_toArray, List.getElem?_cons_succ, List.getElem?_cons_zero]; rfl)); (focus rfl); (focus (intro w' hS; skip; first | (go_simp; rfl) | (go_simp; done))); simp only [Act.put, List.setIfInBounds_toArray, List.set_cons_zero, List.set_cons_succ]) | (apply seqH_pass; (focus (simp only [List.getElem?_toArray, List.getElem?_cons_succ, List.getElem?_cons_zero]; rfl)); (focus rfl); (focus assumption); simp only [Act.put, List.setIfInBounds_toArray, List.set_cons_zero, List.set_cons_succ]))
  refine seqH_nil ?_
  go_wp2_with fail
  go_ret
  obtain ⟨q1, o1, hw1⟩ := hG0
  obtain ⟨q2, o2, hw2⟩ := hD2
  refine ⟨by rw [HR.out]; rfl, q1 + q2, o1 ++ o2, ?_⟩
  rw [hw2, hw1]
  exact grow_twice w q1 q2 o1 o2
end Mrg
end Go.Proofs.Ythhhlaoiampinaa
