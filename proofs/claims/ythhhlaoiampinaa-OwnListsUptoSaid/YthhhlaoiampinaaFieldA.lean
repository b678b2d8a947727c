/- What field's named and its closure compute. -/
import Derived.Test.YthhhlaoiampinaaLower
import Derived.Test.YthhhlaoiampinaaRegion
namespace Go.Proofs.Ythhhlaoiampinaa
open Go.RowKit
/-- A field: its name, its value. -/
abbrev Fld := ByteArray × ByteArray
def lowS (s : ByteArray) : ByteArray := mkS (Tok.low (sl s))
theorem lowS_size (s : ByteArray) : (lowS s).size = s.size := by unfold lowS; rw [mkS_size, Tok.low_len, sl_len]
theorem lowS_lowS (s : ByteArray) : lowS (lowS s) = lowS s := by unfold lowS; rw [sl_mkS, Tok.low_low]
def isN (n : ByteArray) (f : Fld) : Bool := (lowS f.1).toList == n.toList
theorem toList_inj {a b : ByteArray} : (a.toList == b.toList) = decide (a = b) := by
  rw [ba_toList, ba_toList, Bool.eq_iff_iff, beq_iff_eq, decide_eq_true_iff]
  exact ⟨sl_inj, fun h => by rw [h]⟩
/-- The function value that 'named' answers, its name in block g. -/
def nfn (g : Nat) : Value := .func (.func 70) #[] #[.pointer (some ⟨g, 0, none⟩)]
set_option maxHeartbeats 800000 in
theorem named_any (n : ByteArray) (w : World) (hs : n.size ≤ 140737488351232) :
    Calls Try.prog 37 #[.string n] w fun e w' => e = .returned (nfn w.heap.size) ∧ w.heap.size < w'.heap.size ∧ w'.cell? ⟨w.heap.size, 0, none⟩ = some (.string (lowS n)) ∧ Below w.heap.size w w' := by
  go_enter Try.func37, Try.ntmps37
  go_wp2_with fail
  refine (lower_any n _ hs).mono ?_
  rintro e w1 ⟨rfl, b1⟩
  have hz : w.heap.size < w1.heap.size := by have := b1.size; simp at this; omega
  have c0 : w1.cell? ⟨w.heap.size, 0, none⟩ = some (.string n) := (b1.cell (by simp)).trans (by go_simp)
  have f0 : w1.frozen? ⟨w.heap.size, 0, none⟩ = false := (b1.frozen (by simp)).trans (by go_simp)
  go_wp2_with fail
  go_ret
  refine ⟨rfl, by simpa using hz, ?_, (((Below.refl _ _).alloc (Nat.le_refl _) _).trans (b1.mono (by simp))).setCell (p := ⟨w.heap.size, 0, none⟩) (Nat.le_refl _) _⟩
  exact World.cell?_setCell_same _ _ _ c0
set_option maxHeartbeats 1600000 in
theorem named1_any (f : Fld) (g : Nat) (n : ByteArray) (w : World) (hg : g < w.heap.size) (hc : w.cell? ⟨g, 0, none⟩ = some (.string n)) (hs : f.1.size ≤ 140737488351232) :
    Calls Try.prog 70 #[.agg #[.string f.1, .string f.2], .pointer (some ⟨g, 0, none⟩)] w fun e w' => e = .returned (.bool (isN n f)) ∧ Below w.heap.size w w' := by
  obtain ⟨a, b⟩ := f
  go_enter Try.func70, Try.ntmps70
  go_wp2_with fail
  have b0 : Below w.heap.size w (w.alloc (.cells #[.string a, .string b] 31)) := (Below.refl _ _).alloc (Nat.le_refl _) _
  have c0 : (w.alloc (.cells #[.string a, .string b] 31)).cell? ⟨w.heap.size, 0, none⟩ = some (.string a) := by go_simp
  have c1 : (w.alloc (.cells #[.string a, .string b] 31)).cell? ⟨g, 0, none⟩ = some (.string n) := (b0.cell hg).trans hc
  have hz : w.heap.size < (w.alloc (.cells #[.string a, .string b] 31)).heap.size := by simp
  generalize w.alloc (.cells #[.string a, .string b] 31) = w0 at *
  have HC := Lib.hid (fun w' (hb : Below w0.heap.size w0 w') => show w'.cell? ⟨w.heap.size, 0, none⟩ = some (.string a) ∧ w'.cell? ⟨g, 0, none⟩ = some (.string n) from ⟨(hb.cell hz).trans c0, (hb.cell (Nat.lt_trans hg hz)).trans c1⟩)
  clear c0 c1 hc
  refine wp_region_seq [(true, 0), (true, 1), (true, 3), (false, 2), (true, 4), (true, 5)] (fun w' => Below w0.heap.size w0 w') (by kernel_rfl) (by kernel_rfl) (fun _ _ _ _ _ h => h) (by kernel_rfl) (by kernel_rfl) (by first | exact (Below.refl _ _).drew | exact Below.drew (by assumption)) ?_
  have bS : Below w0.heap.size w0 _ := (by first | exact Below.drew (by assumption) | exact (Below.refl _ w0).drew)
  iterate 6 (first
    | (apply seqH_skip; (focus (simp only [List.getElem?_toArray, List.getElem?_cons_succ, List.getElem?_cons_zero]; rfl)); (focus rfl); simp only [Act.put, List.setIfInBounds_toArray, List.set_cons_zero, List.set_cons_succ])
    | (apply seqH_take; (focus (simp only [List.getElem?_toArray, List.getElem?_cons_succ, List.getElem?_cons_zero]; rfl)); (focus rfl); (focus (intro w' hS; obtain ⟨c0, c1⟩ := HC.out _ hS; first | (go_simp; rfl) | (go_simp; done))); simp only [Act.put, List.setIfInBounds_toArray, List.set_cons_zero, List.set_cons_succ])
    | (apply seqH_pass; (focus (simp only [List.getElem?_toArray, List.getElem?_cons_succ, List.getElem?_cons_zero]; rfl)); (focus rfl); (focus assumption); simp only [Act.put, List.setIfInBounds_toArray, List.set_cons_zero, List.set_cons_succ])
    | (apply seqH_eff; (focus (simp only [List.getElem?_toArray, List.getElem?_cons_succ, List.getElem?_cons_zero]; rfl)); (focus rfl); intro K hK; go_simp; (go_at_call 42; (with_reducible refine (lower_any a _ hs).mono ?_)); rintro e wN ⟨rfl, bN⟩; refine hK _ _ (seq_next (by assumption) bN (fun bS' => ?_)); clear hK K))
  refine seqH_nil ?_
  go_wp2_with fail
  go_ret
  exact ⟨rfl, b0.trans (Below.mono (by assumption) (by omega))⟩
end Go.Proofs.Ythhhlaoiampinaa
