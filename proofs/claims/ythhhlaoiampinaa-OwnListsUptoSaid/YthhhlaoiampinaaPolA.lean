/- policy.without's closure: what it answers. -/
import Derived.Test.YthhhlaoiampinaaFieldG
import Derived.Test.YthhhlaoiampinaaTagA
import Derived.Test.YthhhlaoiampinaaTokJ
namespace Go.Proofs.Ythhhlaoiampinaa
set_option maxRecDepth 20000
open Go.RowKit
namespace Pol
def isW (ns : List ByteArray) (f : Fld) : Bool := hasB ns (lowS f.1)
def wfn (g : Nat) : Value := .func (.func 71) #[] #[.pointer (some ⟨g, 0, none⟩)]
/-- The names that the closure has captured: complete in the world w0. -/
structure CapW (w w0 : World) (g : Nat) (ns : List ByteArray) : Prop where
  lt : g < w.heap.size
  cell : ∃ v, w.cell? ⟨g, 0, none⟩ = some v ∧ SlR w0 es v ns
  sz : w0.heap.size ≤ w.heap.size
  kept : ∀ p : Addr, p.block < w0.heap.size → w.cell? p = w0.cell? p
theorem CapW.below {w w' w0 : World} {g : Nat} {ns : List ByteArray} (h : CapW w w0 g ns) (hb : Below w.heap.size w w') : CapW w' w0 g ns :=
  ⟨Nat.lt_of_lt_of_le h.lt hb.size, by obtain ⟨v, h1, h2⟩ := h.cell; exact ⟨v, (hb.cell h.lt).trans h1, h2⟩, Nat.le_trans h.sz hb.size, fun p hp => (hb.cell (Nat.lt_of_lt_of_le hp h.sz)).trans (h.kept p hp)⟩
theorem grown_cell {w w1 : World} {g : Nat} (hg : w.grownBy w1 (some g)) {p : Addr} (hp : p.block < w.heap.size) (hne : p.block ≠ g) : w1.cell? p = w.cell? p := by
  have h := hg.block p.block hp (by intro e; injection e with e; exact hne e)
  unfold World.cell?
  rw [h]
theorem CapW.grown {w w1 w0 : World} {g gn : Nat} {ns : List ByteArray} (h : CapW w w0 gn ns) (hg : w.grownBy w1 (some g)) (hne : gn ≠ g) (hgb : w0.heap.size ≤ g) : CapW w1 w0 gn ns :=
  ⟨Nat.lt_of_lt_of_le h.lt hg.size, by obtain ⟨v, h1, h2⟩ := h.cell; exact ⟨v, (grown_cell hg h.lt hne).trans h1, h2⟩, Nat.le_trans h.sz hg.size, fun p hp => (grown_cell hg (Nat.lt_of_lt_of_le hp h.sz) (by have := hp; omega)).trans (h.kept p hp)⟩
theorem CapW.sl {w w0 : World} {g : Nat} {ns : List ByteArray} (h : CapW w w0 g ns) : ∃ v, w.cell? ⟨g, 0, none⟩ = some v ∧ SlR w es v ns := by
  obtain ⟨v, h1, h2⟩ := h.cell
  exact ⟨v, h1, h2.keep h.sz h.kept⟩
theorem containsB_any (v : Value) (xs : List ByteArray) (t : ByteArray) (w : World) (h : SlR w es v xs) (hx : xs.length ≤ 140737488351232) :
    Calls Try.prog 43 #[v, .string t] w fun e w' => e = .returned (.bool (hasB xs t)) ∧ Below w.heap.size w w' := by
  refine (containsStr_any v xs t w h hx).mono ?_
  rintro e w' ⟨he, rfl⟩
  exact ⟨he, Below.refl _ _⟩
set_option maxHeartbeats 1600000 in
theorem without1_any (f : Fld) (g : Nat) (ns : List ByteArray) (w w00 : World) (h : CapW w w00 g ns) (hs : f.1.size ≤ 140737488351232) (hns : ns.length ≤ 140737488351232) :
    Calls Try.prog 71 #[.agg #[.string f.1, .string f.2], .pointer (some ⟨g, 0, none⟩)] w fun e w' => e = .returned (.bool (isW ns f)) ∧ Below w.heap.size w w' := by
  obtain ⟨a, b⟩ := f
  have hg := h.lt
  obtain ⟨v, hc, hv⟩ := h.sl
  clear h
  go_enter Try.func71, Try.ntmps71
  go_wp2_with fail
  have b0 : Below w.heap.size w (w.alloc (.cells #[.string a, .string b] 31)) := (Below.refl _ _).alloc (Nat.le_refl _) _
  have c0 : (w.alloc (.cells #[.string a, .string b] 31)).cell? ⟨w.heap.size, 0, none⟩ = some (.string a) := by go_simp
  have c1 : (w.alloc (.cells #[.string a, .string b] 31)).cell? ⟨g, 0, none⟩ = some v := (b0.cell hg).trans hc
  have hz : w.heap.size < (w.alloc (.cells #[.string a, .string b] 31)).heap.size := by simp
  have HV := Lib.hid (hv.below b0)
  generalize w.alloc (.cells #[.string a, .string b] 31) = w0 at *
  have HC := Lib.hid (fun w' (hb : Below w0.heap.size w0 w') => show w'.cell? ⟨w.heap.size, 0, none⟩ = some (.string a) ∧ w'.cell? ⟨g, 0, none⟩ = some v from ⟨(hb.cell hz).trans c0, (hb.cell (Nat.lt_trans hg hz)).trans c1⟩)
  have HK := Lib.hid (fun w' (hb : Below w0.heap.size w0 w') => containsB_any v ns (mkS (Tok.low (sl a))) w' (HV.out.below hb) hns)
  clear c0 c1 hc hv
  refine wp_region_seq [(true, 0), (true, 1), (true, 2), (false, 3), (false, 4), (true, 5)] (fun w' => Below w0.heap.size w0 w') (by kernel_rfl) (by kernel_rfl) (fun _ _ _ _ _ h => h) (by kernel_rfl) (by kernel_rfl) (by first | exact (Below.refl _ _).drew | exact Below.drew (by assumption)) ?_
  have bS : Below w0.heap.size w0 _ := (by first | exact Below.drew (by assumption) | exact (Below.refl _ w0).drew)
  iterate 6 (first
    | (apply seqH_skip; (focus (simp only [List.getElem?_toArray, List.getElem?_cons_succ, List.getElem?_cons_zero]; rfl)); (focus rfl); simp only [Act.put, List.setIfInBounds_toArray, List.set_cons_zero, List.set_cons_succ])
    | (apply seqH_take; (focus (simp only [List.getElem?_toArray, List.getElem?_cons_succ, List.getElem?_cons_zero]; rfl)); (focus rfl); (focus (intro w' hS; obtain ⟨c0, c1⟩ := HC.out _ hS; first | (go_simp; rfl) | (go_simp; done))); simp only [Act.put, List.setIfInBounds_toArray, List.set_cons_zero, List.set_cons_succ])
    | (apply seqH_pass; (focus (simp only [List.getElem?_toArray, List.getElem?_cons_succ, List.getElem?_cons_zero]; rfl)); (focus rfl); (focus assumption); simp only [Act.put, List.setIfInBounds_toArray, List.set_cons_zero, List.set_cons_succ])
    | (apply seqH_eff; (focus (simp only [List.getElem?_toArray, List.getElem?_cons_succ, List.getElem?_cons_zero]; rfl)); (focus rfl); intro K hK; go_simp; (first | (go_at_call 42; (with_reducible refine (lower_any a _ hs).mono ?_)) | (go_at_call 43; (with_reducible refine (HK.out _ (by assumption)).mono ?_))); rintro e wN ⟨rfl, bN⟩; refine hK _ _ (seq_next (by assumption) bN (fun bS' => ?_)); clear hK K))
  refine seqH_nil ?_
  go_wp2_with fail
  go_ret
  exact ⟨rfl, b0.trans (Below.mono (by assumption) (by omega))⟩
end Pol
end Go.Proofs.Ythhhlaoiampinaa
