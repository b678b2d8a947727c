/- field's Print and Parse: what they answer. -/
import Derived.Test.YtoalfjkbgeiggaaGreatDoorZFldW
import Derived.Test.YtoalfjkbgeiggaaGreatDoorZCut2
import Derived.Test.YtoalfjkbgeiggaaGreatDoorZBuilder
namespace Go.Proofs.YtoalfjkbgeiggaaGreatDoor
set_option maxRecDepth 20000
open Go.RowKit
theorem linesF_snoc (l : List Fp) (f : Fp) : linesF (l ++ [f]) = linesF l ++ (lineF f ++ [13, 10]) := by simp [linesF]
theorem linesF_take (l : List Fp) (k : Nat) (h : k < l.length) : linesF (l.take (k + 1)) = linesF (l.take k) ++ (lineF l[k] ++ [13, 10]) := by
  rw [List.take_add_one, List.getElem?_eq_getElem h]; exact linesF_snoc _ _
theorem linesF_len : ∀ (l : List Fp), (∀ f ∈ l, GoodF f) → (linesF l).length ≤ 1034 * l.length
  | [], _ => by simp [linesF]
  | f :: l, h => by
    have h1 := lineF_len (h f (by simp))
    have h2 := linesF_len l (fun x hx => h x (by simp [hx]))
    rw [linesF_cons]
    simp only [List.length_append, List.length_cons]; omega
theorem printF_len (l : List Fp) (h : ∀ f ∈ l, GoodF f) (h30 : l.length ≤ 30) : (printF l).length ≤ 31100 := by
  have := linesF_len l h
  unfold printF
  rw [List.length_append]; simp; omega
/-- What Print answers. -/
def PrintF (l : List Fp) (e : Ending) : Prop :=
  (chkAll l = 0 ∧ (∀ f ∈ l, GoodF f) ∧ l.length ≤ 30 ∧ e = .returned (.tuple #[.string (mkS (printF l)), .int .i64 0])) ∨ (chkAll l ≠ 0 ∧ e = .returned (.tuple #[.string ByteArray.empty, .int .i64 (chkAll l)]))
set_option maxRecDepth 100000 in
set_option maxHeartbeats 1600000 in
theorem printF_any (v : Value) (l : List Fp) (w : World) (h : SlR w e_ss v l) (hl : l.length ≤ 140737488351232) (hz : ∀ f ∈ l, f.1.size ≤ 140737488351232 ∧ f.2.size ≤ 140737488351232) :
    Calls Tryz.prog 29 #[v] w fun e w' => PrintF l e ∧ Below w.heap.size w w' := by
  have HCA := Lib.hid (fun w' (hw : SlR w' e_ss v l) => checkAll_any v l w' hw hl hz)
  have H2 := Lib.hid (fun hn => h.two (fun _ => rfl) hn)
  have HR := Lib.hid h
  obtain ⟨A, c, rfl, hc, -⟩ := h
  go_enter Tryz.func29, Tryz.ntmps29
  go_wp2_with fail
  refine (HCA.out _ HR.out).mono ?_
  rintro e w1 ⟨rfl, b1⟩
  by_cases h0 : chkAll l = 0
  · have hg : (∀ f ∈ l, GoodF f) ∧ l.length ≤ 30 := by
      unfold chkAll at h0
      split at h0
      · cases h0
      · exact ⟨(chkL_good l).1 h0, by omega⟩
    obtain ⟨hg, h30⟩ := hg
    have HG := Lib.hid (⟨h0, hg, h30⟩ : chkAll l = 0 ∧ (∀ f ∈ l, GoodF f) ∧ l.length ≤ 30)
    have HGG := Lib.hid hg
    rw [h0]
    clear h0 hg hz
    go_wp2_with fail
    go_loopw [15] (fun i wr => ∃ k : Nat, k ≤ l.length ∧ i = .int .i64 k ∧ Bld w.heap.size w1.heap.size (linesF (l.take k)) wr ∧ Below w.heap.size w wr) (fun i _ => l.length - (intOf i).toNat)
    case atStart => exact ⟨0, by omega, rfl, bld_new _ w1 b1.size, b1.alloc b1.size _⟩
    case round =>
      obtain ⟨k, hk, rfl, hbld, hbel⟩ := hrel
      have HB := Lib.hid hbld
      clear hbld
      by_cases hlt : k < l.length
      · obtain ⟨b, off, c', he, hbb, hcell⟩ := H2.out (by omega)
        obtain ⟨rfl, rfl⟩ : A = some ⟨b, off, none⟩ ∧ c = c' := by injection he with h1 h2 h3; exact ⟨h1, h3⟩
        obtain ⟨q0, q1⟩ := hcell k hlt (.string l[k].1) (.string l[k].2) rfl rfl
        have c0 := (hbel.cell (p := ⟨b, off + k * 2, none⟩) hbb).trans q0
        have c1 := (hbel.cell (p := ⟨b, off + k * 2 + 1, none⟩) hbb).trans q1
        have HD := Lib.hid (linesF_take l k hlt)
        have hgf := HGG.out l[k] (List.getElem_mem hlt)
        have hln := lineF_len hgf
        have hn := hgf.n30
        have hv := hgf.v1000
        have hll := linesF_len (l.take k) (fun f hf => HGG.out f (List.mem_of_mem_take hf))
        rw [List.length_take, Nat.min_eq_left (by omega)] at hll
        clear hcell q0 q1 he hgf
        generalize l[k] = f at *
        obtain ⟨n, u⟩ := f
        have z1 : n.size + (⟨#[58, 32]⟩ : ByteArray).size ≤ 9223372036854775807 := by have : (⟨#[58, 32]⟩ : ByteArray).size = 2 := rfl; dsimp only at hn; omega
        have z2 : (n ++ (⟨#[58, 32]⟩ : ByteArray)).size + u.size ≤ 9223372036854775807 := by rw [ByteArray.size_append]; have : (⟨#[58, 32]⟩ : ByteArray).size = 2 := rfl; dsimp only at hn hv; omega
        have z3 : (n ++ (⟨#[58, 32]⟩ : ByteArray) ++ u).size + (⟨#[13, 10]⟩ : ByteArray).size ≤ 9223372036854775807 := by rw [ByteArray.size_append, ByteArray.size_append]; have : (⟨#[58, 32]⟩ : ByteArray).size = 2 := rfl; have : (⟨#[13, 10]⟩ : ByteArray).size = 2 := rfl; dsimp only at hn hv; omega
        have HE : Hid (sl (n ++ (⟨#[58, 32]⟩ : ByteArray) ++ u ++ (⟨#[13, 10]⟩ : ByteArray)) = lineF (n, u) ++ [13, 10]) := by
          show _ = _
          rw [sl_append, sl_append, sl_append]; unfold lineF
          show sl n ++ [58, 32] ++ sl u ++ [13, 10] = _
          simp
        have hes : (n ++ (⟨#[58, 32]⟩ : ByteArray) ++ u ++ (⟨#[13, 10]⟩ : ByteArray)).size ≤ 1034 := by
          have := congrArg List.length HE.out
          rw [sl_len, List.length_append] at this
          simp only [List.length_cons, List.length_nil] at this; omega
        go_wp2_with fail
        generalize n ++ (⟨#[58, 32]⟩ : ByteArray) ++ u ++ (⟨#[13, 10]⟩ : ByteArray) = ln at HE hes ⊢
        have hb1 := hbel.alloc hbel.size (.cells #[.string n, .string u] 57)
        have HB1 := Lib.hid (HB.out.below ((Below.refl wr.heap.size wr).alloc (Nat.le_refl _) (.cells #[.string n, .string u] 57)))
        refine (writeString_any w.heap.size w1.heap.size _ ln _ HB1.out (by omega) hb1.size).mono ?_
        clear z1 z2 z3 hn hv hll hln hes
        rintro e w2 ⟨rfl, hb2, bel2⟩
        have HB2 := Lib.hid hb2
        clear hb2
        go_wp2_with fail
        go_roundw
        case rel => exact ⟨k + 1, by omega, by go_num, by rw [HD.out, ← HE.out]; exact HB2.out, hb1.trans bel2⟩
        case measure => simp [intOf]; omega
      · have HE : Hid (l.take k = l) := List.take_of_length_le (by omega)
        have hll := linesF_len l HGG.out
        go_wp2_with fail
        refine (writeString_any w.heap.size w1.heap.size _ ⟨#[13, 10]⟩ _ HB.out (by rw [HE.out]; have : (⟨#[13, 10]⟩ : ByteArray).size = 2 := rfl; omega) hbel.size).mono ?_
        rintro e w2 ⟨rfl, hb2, bel2⟩
        have HB2 := Lib.hid hb2
        clear hb2
        have hbel2 := hbel.trans bel2
        go_wp2_with fail
        refine (string_any w.heap.size w1.heap.size _ _ HB2.out hbel2.size).mono ?_
        rintro e w3 ⟨rfl, b3⟩
        go_wp2_with fail
        go_ret2
        exact ⟨.inl ⟨HG.out.1, HG.out.2.1, HG.out.2.2, ret_si (by rw [HE.out]; rfl) rfl⟩, hbel2.trans b3⟩
  · have hq' : (chkAll l != 0) = true := by simpa using h0
    have HN := Lib.hid h0
    clear h0 hz
    go_wp2_with fail
    go_ret2
    exact ⟨.inr ⟨HN.out, rfl⟩, b1⟩
end Go.Proofs.YtoalfjkbgeiggaaGreatDoor
