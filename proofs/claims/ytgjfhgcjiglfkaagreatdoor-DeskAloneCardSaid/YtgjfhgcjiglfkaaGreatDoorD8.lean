import Derived.Test.YtgjfhgcjiglfkaaGreatDoorD6
import Derived.Test.YtgjfhgcjiglfkaaGreatDoorD7
import Derived.Deep.Cut
import Derived.Test.YtgjfhgcjiglfkaaGreatDoorD0
import Derived.Lib.AppendStr
import Derived.Laws.CopyRow
set_option linter.unusedVariables false
set_option linter.unusedSimpArgs false
namespace Go.Proofs.YtgjfhgcjiglfkaaGreatDoor
set_option maxRecDepth 20000
open Go.RowKit
structure DF (w0 W : World) (n : Nat) (hs vs : Array Value) : Prop where
  bh : Blk W n 329 hs
  br : Blk W (n + 1) 329 #[.int .u32 0, .int .u32 0, .int .u32 0, .int .u32 0, .int .u32 0, .int .u32 0, .int .u32 0, .int .u32 0]
  bv : Blk W (n + 1 + 1) 366 vs
  bel : Below n w0 W
theorem DF.drew {w0 W : World} {n : Nat} {hs vs : Array Value} (h : DF w0 W n hs vs) : DF w0 W.drew n hs vs := ⟨h.bh, h.br, h.bv, h.bel.drew⟩
theorem DF.row {w0 W : World} {n : Nat} {hs vs : Array Value} (h : DF w0 W n hs vs) (us : Array Value) : DF w0 (W.setRow (n + 1 + 1) us) n hs us :=
  ⟨(setRow_other W _ _ us (by omega)).trans h.bh, (setRow_other W _ _ us (by omega)).trans h.br, setRow_heap W _ _ us _ _ h.bv, below_setRow h.bel (by omega) us⟩
theorem DF.below {w0 W W' : World} {n : Nat} {hs vs : Array Value} (h : DF w0 W n hs vs) (hb : Below W.heap.size W W') (hn : n ≤ W.heap.size) : DF w0 W' n hs vs :=
  ⟨h.bh.below hb h.bh.lt, h.br.below hb h.br.lt, h.bv.below hb h.bv.lt, h.bel.trans (hb.mono hn)⟩
theorem DF.alloc {w0 W : World} {n : Nat} {hs vs : Array Value} (h : DF w0 W n hs vs) (o : Obj) : DF w0 (W.alloc o) n hs vs :=
  ⟨h.bh.alloc o, h.br.alloc o, h.bv.alloc o, h.bel.alloc (Nat.le_of_lt h.bh.lt) o⟩
theorem DF.set {w0 W : World} {n : Nat} {hs vs : Array Value} (h : DF w0 W n hs vs) (i : Nat) (u : Value) : DF w0 (W.setCell ⟨n + 1 + 1, i, none⟩ u) n hs (vs.setIfInBounds i u) :=
  ⟨h.bh.far (by show n ≠ n + 1 + 1; omega) u, h.br.far (by show n + 1 ≠ n + 1 + 1; omega) u, h.bv.set_ i u, h.bel.setCell (by show n ≤ n + 1 + 1; omega) u⟩
theorem list8 (L : List Int) (h : L.length = 8) : ∃ l0 l1 l2 l3 l4 l5 l6 l7, L = [l0, l1, l2, l3, l4, l5, l6, l7] := by
  match L, h with
  | [l0, l1, l2, l3, l4, l5, l6, l7], _ => exact ⟨l0, l1, l2, l3, l4, l5, l6, l7, rfl⟩
def startV (H : List Int) (many : Int) (last : Bool) : List Int := H ++ [1779033703, 3144134277, 1013904242, 2773480762, bits .xor .u32 1359893119 (many % 4294967296), bits .xor .u32 2600822924 (many / 4294967296 % 4294967296), if last then bits .xor .u32 IntKind.u32.max 528734635 else 528734635, 1541459225]
def blockF (H : List Int) (bs : List Int) (many : Int) (last : Bool) : List Int := finV H (allV (mrow bs 16 0) (startV H many last) 10) 8
set_option maxHeartbeats 4000000 in
theorem block_mid (h0 h1 h2 h3 h4 h5 h6 h7 : Int) (gb ob cap : Nat) (bs : List Int) (many : Int) (w : World) (hbl : bs.length = 64) (hbc : ∀ j x, bs[j]? = some x → w.cell? ⟨gb, ob + j, none⟩ = some (.int .u8 x)) :
    Calls Tryz.prog 262 #[.agg #[.int .u32 h0, .int .u32 h1, .int .u32 h2, .int .u32 h3, .int .u32 h4, .int .u32 h5, .int .u32 h6, .int .u32 h7], .slice (some ⟨gb, ob, none⟩) 64 cap, .int .u64 many, .bool false] w fun e w' => e = .returned (.agg (eU (blockF [h0, h1, h2, h3, h4, h5, h6, h7] bs many false))) ∧ Below w.heap.size w w' := by
  have hD0 : DF w (((w.alloc (.cells #[.int .u32 h0, .int .u32 h1, .int .u32 h2, .int .u32 h3, .int .u32 h4, .int .u32 h5, .int .u32 h6, .int .u32 h7] 329)).alloc (.cells #[.int .u32 0, .int .u32 0, .int .u32 0, .int .u32 0, .int .u32 0, .int .u32 0, .int .u32 0, .int .u32 0] 329)).alloc (.cells #[.int .u32 0, .int .u32 0, .int .u32 0, .int .u32 0, .int .u32 0, .int .u32 0, .int .u32 0, .int .u32 0, .int .u32 0, .int .u32 0, .int .u32 0, .int .u32 0, .int .u32 0, .int .u32 0, .int .u32 0, .int .u32 0] 366)) w.heap.size #[.int .u32 h0, .int .u32 h1, .int .u32 h2, .int .u32 h3, .int .u32 h4, .int .u32 h5, .int .u32 h6, .int .u32 h7] #[.int .u32 0, .int .u32 0, .int .u32 0, .int .u32 0, .int .u32 0, .int .u32 0, .int .u32 0, .int .u32 0, .int .u32 0, .int .u32 0, .int .u32 0, .int .u32 0, .int .u32 0, .int .u32 0, .int .u32 0, .int .u32 0] :=
    ⟨((Blk.new w _ _).alloc _).alloc _, by have := (Blk.new (w.alloc (.cells #[.int .u32 h0, .int .u32 h1, .int .u32 h2, .int .u32 h3, .int .u32 h4, .int .u32 h5, .int .u32 h6, .int .u32 h7] 329)) 329 #[.int .u32 0, .int .u32 0, .int .u32 0, .int .u32 0, .int .u32 0, .int .u32 0, .int .u32 0, .int .u32 0]).alloc (.cells #[.int .u32 0, .int .u32 0, .int .u32 0, .int .u32 0, .int .u32 0, .int .u32 0, .int .u32 0, .int .u32 0, .int .u32 0, .int .u32 0, .int .u32 0, .int .u32 0, .int .u32 0, .int .u32 0, .int .u32 0, .int .u32 0] 366); simpa using this,
      by have := Blk.new ((w.alloc (.cells #[.int .u32 h0, .int .u32 h1, .int .u32 h2, .int .u32 h3, .int .u32 h4, .int .u32 h5, .int .u32 h6, .int .u32 h7] 329)).alloc (.cells #[.int .u32 0, .int .u32 0, .int .u32 0, .int .u32 0, .int .u32 0, .int .u32 0, .int .u32 0, .int .u32 0] 329)) 366 #[.int .u32 0, .int .u32 0, .int .u32 0, .int .u32 0, .int .u32 0, .int .u32 0, .int .u32 0, .int .u32 0, .int .u32 0, .int .u32 0, .int .u32 0, .int .u32 0, .int .u32 0, .int .u32 0, .int .u32 0, .int .u32 0]; simpa using this,
      (((Below.refl _ w).alloc (Nat.le_refl _) _).alloc (by simp) _).alloc (by simp; omega) _⟩
  have HBC := Lib.hid hbc
  clear hbc
  go_enter Tryz.func262, Tryz.ntmps262
  go_wp2_with fail
  generalize ((w.alloc (.cells #[.int .u32 h0, .int .u32 h1, .int .u32 h2, .int .u32 h3, .int .u32 h4, .int .u32 h5, .int .u32 h6, .int .u32 h7] 329)).alloc (.cells #[.int .u32 0, .int .u32 0, .int .u32 0, .int .u32 0, .int .u32 0, .int .u32 0, .int .u32 0, .int .u32 0] 329)).alloc (.cells #[.int .u32 0, .int .u32 0, .int .u32 0, .int .u32 0, .int .u32 0, .int .u32 0, .int .u32 0, .int .u32 0, .int .u32 0, .int .u32 0, .int .u32 0, .int .u32 0, .int .u32 0, .int .u32 0, .int .u32 0, .int .u32 0] 366) = W0 at hD0 ⊢
  have hn0 := hD0.bv.lt
  refine wp_region_last [(true, 0), (true, 1), (false, 2)] 2 (fun w' => w' = W0.drew) (by kernel_rfl) (by kernel_rfl) (by kernel_rfl) (fun _ _ _ _ _ h => h) (by kernel_rfl) (by kernel_rfl) ?_ ?_
  · rfl
  iterate 2 (first | (apply seqL_skip; (focus (simp only [List.getElem?_toArray, List.getElem?_cons_succ, List.getElem?_cons_zero]; rfl)); (focus rfl); simp only [Act.put, List.setIfInBounds_toArray, List.set_cons_zero, List.set_cons_succ]) | (apply seqL_take; (focus (simp only [List.getElem?_toArray, List.getElem?_cons_succ, List.getElem?_cons_zero]; rfl)); (focus rfl); (focus (intro w' hS; subst hS; first | (go_simp; rfl) | (go_simp; done))); simp only [Act.put, List.setIfInBounds_toArray, List.set_cons_zero, List.set_cons_succ]))
  apply seqL_eff
  (focus (simp only [List.getElem?_toArray, List.getElem?_cons_succ, List.getElem?_cons_zero]; rfl))
  (focus rfl)
  intro K hK
  go_simp
  rw [run_copy_row Tryz.prog W0.drew _ _ _ 216 (w.heap.size + 1 + 1) 0 8 16 ⟨w.heap.size, 0, none⟩ 8 8 #[.int .u32 0, .int .u32 0, .int .u32 0, .int .u32 0, .int .u32 0, .int .u32 0, .int .u32 0, .int .u32 0, .int .u32 0, .int .u32 0, .int .u32 0, .int .u32 0, .int .u32 0, .int .u32 0, .int .u32 0, .int .u32 0] 366 [.int .u32 h0, .int .u32 h1, .int .u32 h2, .int .u32 h3, .int .u32 h4, .int .u32 h5, .int .u32 h6, .int .u32 h7] Tryz.underlying367 (by kernel_rfl) hD0.drew.bv rfl (by
    intro j u hu
    have := hD0.drew.bh.cell j
    rw [show ((⟨w.heap.size, 0, none⟩ : Addr).add j) = ⟨w.heap.size, j, none⟩ from by unfold Addr.add; split <;> simp_all]
    rw [this]
    simpa using hu) (by simp) (by simp [Value.oneCell'])]
  go_simp
  have hD1 := hD0.drew.row #[.int .u32 h0, .int .u32 h1, .int .u32 h2, .int .u32 h3, .int .u32 h4, .int .u32 h5, .int .u32 h6, .int .u32 h7, .int .u32 0, .int .u32 0, .int .u32 0, .int .u32 0, .int .u32 0, .int .u32 0, .int .u32 0, .int .u32 0]
  generalize W0.drew.setRow (w.heap.size + 1 + 1) #[.int .u32 h0, .int .u32 h1, .int .u32 h2, .int .u32 h3, .int .u32 h4, .int .u32 h5, .int .u32 h6, .int .u32 h7, .int .u32 0, .int .u32 0, .int .u32 0, .int .u32 0, .int .u32 0, .int .u32 0, .int .u32 0, .int .u32 0] = W1 at hD1 ⊢
  refine hK _ _ ⟨fun h => absurd rfl h, ?_⟩
  clear hK K
  refine seqL_nil ?_
  clear hn0 hD0
  have hn1 := hD1.bv.lt
  go_wp2_with fail
  refine (iv_any _).mono ?_
  rintro e W2 ⟨rfl, b2⟩
  have hD2 := hD1.below b2 (by omega)
  have hn2 := hD2.bv.lt
  have hI := Blk.new W2 329 #[.int .u32 1779033703, .int .u32 3144134277, .int .u32 1013904242, .int .u32 2773480762, .int .u32 1359893119, .int .u32 2600822924, .int .u32 528734635, .int .u32 1541459225]
  have hD3 := hD2.alloc (.cells #[.int .u32 1779033703, .int .u32 3144134277, .int .u32 1013904242, .int .u32 2773480762, .int .u32 1359893119, .int .u32 2600822924, .int .u32 528734635, .int .u32 1541459225] 329)
  go_wp2_with fail
  generalize hW3 : W2.alloc (.cells #[.int .u32 1779033703, .int .u32 3144134277, .int .u32 1013904242, .int .u32 2773480762, .int .u32 1359893119, .int .u32 2600822924, .int .u32 528734635, .int .u32 1541459225] 329) = W3 at hI hD3 ⊢
  have hs3 : W3.heap.size = W2.heap.size + 1 := by rw [← hW3]; simp
  clear hW3
  refine wp_region_last [(true, 0), (true, 1), (false, 2)] 2 (fun w' => w' = W3.drew) (by kernel_rfl) (by kernel_rfl) (by kernel_rfl) (fun _ _ _ _ _ h => h) (by kernel_rfl) (by kernel_rfl) ?_ ?_
  · rfl
  iterate 2 (first | (apply seqL_skip; (focus (simp only [List.getElem?_toArray, List.getElem?_cons_succ, List.getElem?_cons_zero]; rfl)); (focus rfl); simp only [Act.put, List.setIfInBounds_toArray, List.set_cons_zero, List.set_cons_succ]) | (apply seqL_take; (focus (simp only [List.getElem?_toArray, List.getElem?_cons_succ, List.getElem?_cons_zero]; rfl)); (focus rfl); (focus (intro w' hS; subst hS; first | (go_simp; rfl) | (go_simp; done))); simp only [Act.put, List.setIfInBounds_toArray, List.set_cons_zero, List.set_cons_succ]))
  apply seqL_eff
  (focus (simp only [List.getElem?_toArray, List.getElem?_cons_succ, List.getElem?_cons_zero]; rfl))
  (focus rfl)
  intro K hK
  go_simp
  rw [run_copy_row Tryz.prog W3.drew _ _ _ 216 (w.heap.size + 1 + 1) 8 8 8 ⟨W2.heap.size, 0, none⟩ 8 8 #[.int .u32 h0, .int .u32 h1, .int .u32 h2, .int .u32 h3, .int .u32 h4, .int .u32 h5, .int .u32 h6, .int .u32 h7, .int .u32 0, .int .u32 0, .int .u32 0, .int .u32 0, .int .u32 0, .int .u32 0, .int .u32 0, .int .u32 0] 366 [.int .u32 1779033703, .int .u32 3144134277, .int .u32 1013904242, .int .u32 2773480762, .int .u32 1359893119, .int .u32 2600822924, .int .u32 528734635, .int .u32 1541459225] Tryz.underlying367 (by kernel_rfl) hD3.drew.bv rfl (by
    intro j u hu
    have := hI.drew.cell j
    rw [show ((⟨W2.heap.size, 0, none⟩ : Addr).add j) = ⟨W2.heap.size, j, none⟩ from by unfold Addr.add; split <;> simp_all]
    rw [this]
    simpa using hu) (by simp) (by simp [Value.oneCell'])]
  go_simp
  have hD4 := hD3.drew.row #[.int .u32 h0, .int .u32 h1, .int .u32 h2, .int .u32 h3, .int .u32 h4, .int .u32 h5, .int .u32 h6, .int .u32 h7, .int .u32 1779033703, .int .u32 3144134277, .int .u32 1013904242, .int .u32 2773480762, .int .u32 1359893119, .int .u32 2600822924, .int .u32 528734635, .int .u32 1541459225]
  have hI4 : Blk (W3.drew.setRow (w.heap.size + 1 + 1) #[.int .u32 h0, .int .u32 h1, .int .u32 h2, .int .u32 h3, .int .u32 h4, .int .u32 h5, .int .u32 h6, .int .u32 h7, .int .u32 1779033703, .int .u32 3144134277, .int .u32 1013904242, .int .u32 2773480762, .int .u32 1359893119, .int .u32 2600822924, .int .u32 528734635, .int .u32 1541459225]) W2.heap.size 329 #[.int .u32 1779033703, .int .u32 3144134277, .int .u32 1013904242, .int .u32 2773480762, .int .u32 1359893119, .int .u32 2600822924, .int .u32 528734635, .int .u32 1541459225] := (setRow_other W3.drew _ _ _ (by omega)).trans hI
  generalize W3.drew.setRow (w.heap.size + 1 + 1) #[.int .u32 h0, .int .u32 h1, .int .u32 h2, .int .u32 h3, .int .u32 h4, .int .u32 h5, .int .u32 h6, .int .u32 h7, .int .u32 1779033703, .int .u32 3144134277, .int .u32 1013904242, .int .u32 2773480762, .int .u32 1359893119, .int .u32 2600822924, .int .u32 528734635, .int .u32 1541459225] = W4 at hD4 hI4 ⊢
  refine hK _ _ ⟨fun h => absurd rfl h, ?_⟩
  clear hK K
  refine seqL_nil ?_
  clear hD3 hI hD2 b2 hD1 hI4
  have c12 := hD4.bv.cell 12
  have c13 := hD4.bv.cell 13
  have c14 := hD4.bv.cell 14
  have z12 := hD4.bv.frozen 12
  have z13 := hD4.bv.frozen 13
  have z14 := hD4.bv.frozen 14
  have hD5 := (hD4.set 12 (.int .u32 (bits .xor .u32 1359893119 (many % 4294967296)))).set 13 (.int .u32 (bits .xor .u32 2600822924 (many / 4294967296 % 4294967296)))
  have hM5 := Blk.new ((W4.setCell ⟨w.heap.size + 1 + 1, 12, none⟩ (.int .u32 (bits .xor .u32 1359893119 (many % 4294967296)))).setCell ⟨w.heap.size + 1 + 1, 13, none⟩ (.int .u32 (bits .xor .u32 2600822924 (many / 4294967296 % 4294967296)))) 365 #[.int .u32 0, .int .u32 0, .int .u32 0, .int .u32 0, .int .u32 0, .int .u32 0, .int .u32 0, .int .u32 0, .int .u32 0, .int .u32 0, .int .u32 0, .int .u32 0, .int .u32 0, .int .u32 0, .int .u32 0, .int .u32 0]
  have hD6 := hD5.alloc (.cells #[.int .u32 0, .int .u32 0, .int .u32 0, .int .u32 0, .int .u32 0, .int .u32 0, .int .u32 0, .int .u32 0, .int .u32 0, .int .u32 0, .int .u32 0, .int .u32 0, .int .u32 0, .int .u32 0, .int .u32 0, .int .u32 0] 365)
  rw [show (((W4.setCell ⟨w.heap.size + 1 + 1, 12, none⟩ (.int .u32 (bits .xor .u32 1359893119 (many % 4294967296)))).setCell ⟨w.heap.size + 1 + 1, 13, none⟩ (.int .u32 (bits .xor .u32 2600822924 (many / 4294967296 % 4294967296)))).heap.size) = W4.heap.size by simp] at hM5
  go_wp2_with fail
  generalize (((W4.setCell ⟨w.heap.size + 1 + 1, 12, none⟩ (.int .u32 (bits .xor .u32 1359893119 (many % 4294967296)))).setCell ⟨w.heap.size + 1 + 1, 13, none⟩ (.int .u32 (bits .xor .u32 2600822924 (many / 4294967296 % 4294967296)))).alloc (.cells #[.int .u32 0, .int .u32 0, .int .u32 0, .int .u32 0, .int .u32 0, .int .u32 0, .int .u32 0, .int .u32 0, .int .u32 0, .int .u32 0, .int .u32 0, .int .u32 0, .int .u32 0, .int .u32 0, .int .u32 0, .int .u32 0] 365)) = W6 at hD6 hM5 ⊢
  have HV0 : Hid (startV [h0, h1, h2, h3, h4, h5, h6, h7] many false = [h0, h1, h2, h3, h4, h5, h6, h7, 1779033703, 3144134277, 1013904242, 2773480762, bits .xor .u32 1359893119 (many % 4294967296), bits .xor .u32 2600822924 (many / 4294967296 % 4294967296), 528734635, 1541459225]) := rfl
  generalize bits .xor .u32 1359893119 (many % 4294967296) = x12 at hD6 HV0 ⊢
  generalize bits .xor .u32 2600822924 (many / 4294967296 % 4294967296) = x13 at hD6 HV0 ⊢
  obtain ⟨mb, hmb⟩ : ∃ mb, mb = W4.heap.size := ⟨_, rfl⟩
  rw [← hmb] at hM5 ⊢
  obtain ⟨n, hn⟩ : ∃ n, n = w.heap.size := ⟨_, rfl⟩
  have hv4 := hD4.bv.lt
  have hnm : n + 1 + 1 < mb := by omega
  have hgb : gb < n := by rw [hn]; exact block_lt_of_cell (HBC.out 0 (bs[0]'(by omega)) (by simp))
  clear hD4 hD5 c12 c13 c14 z12 z13 z14 hn2 hs3 hn1 hv4 hmb
  rw [← hn] at hD6 ⊢
  have HNN := Lib.hid hn
  clear hn
  have hbh : Blk W6 n 329 (eU [h0, h1, h2, h3, h4, h5, h6, h7]) := hD6.bh
  have hbr := hD6.br
  have hbv : Blk W6 (n + 1 + 1) 366 (eU (startV [h0, h1, h2, h3, h4, h5, h6, h7] many false)) := by rw [HV0.out]; exact hD6.bv
  have bel := hD6.bel
  clear hD6
  obtain ⟨H, hH⟩ : ∃ H, H = [h0, h1, h2, h3, h4, h5, h6, h7] := ⟨_, rfl⟩
  have HVL : Hid ((startV H many false).length = 16) := by rw [hH, HV0.out]; rfl
  rw [← hH] at hbh hbv
  have HH := Lib.hid hH
  clear hH HV0
  have HFV : Hid (blockF H bs many false = finV H (allV (mrow bs 16 0) (startV H many false) 10) 8) := rfl
  rw [← mvals_nil bs] at hM5
  generalize startV H many false = V at hbv HVL HFV
  have HB6 := Lib.hid (fun j x hj => (bel.cell (p := ⟨gb, ob + j, none⟩) hgb).trans (HBC.out j x hj))
  refine words_loop gb ob mb bs W6 _ ?hQ1 hbl HB6.out hM5 (by omega) ?hexit1
  case hQ1 => exact fun _ _ _ _ _ h => h
  case hexit1 =>
    intro u12 u13 u45 u46 u47 u48 u49 u50 u51 u52 u53 u54 u55 u56 u57 u58 u59 u60 u61 u62 u63 u64 u65 u66 u67 u68 W7 hM7 hg7
    replace hbh := hbh.kept hg7 (by intro e; injection e with e; omega)
    replace hbr := hbr.kept hg7 (by intro e; injection e with e; omega)
    replace hbv := hbv.kept hg7 (by intro e; injection e with e; omega)
    replace bel := bel.grown hg7 (by have := hbr.lt; have := bel.size; rw [HNN.out]; exact this) (fun k hk => by cases hk; omega)
    clear hg7 hM5 HB6 HBC
    go_upto_region 19 with (fail)
    refine places_region W7 _ ?_
    intro u69 u70 u71 u72 u73 u74 u75 u76 u77 Wp hPp hgp hsp
    have hhp := hbh.kept hgp (by simp)
    have hrp := hbr.kept hgp (by simp)
    have hvp0 := hbv.kept hgp (by simp)
    have hMp := hM7.kept hgp (by simp)
    have hn7 : n ≤ W7.heap.size := Nat.le_of_lt hbh.lt
    have bep := bel.grown hgp hn7 (fun k hk => by cases hk)
    have hvp : n + 1 + 1 ≠ W7.heap.size := Nat.ne_of_lt hbv.lt
    obtain ⟨pb, hpb⟩ : ∃ pb, pb = W7.heap.size := ⟨_, rfl⟩
    rw [← hpb] at hPp hvp ⊢
    clear hgp hsp hbh hbr hbv hM7 bel hpb
    go_wp2_with fail
    refine (lines_hid _).mono ?_
    rintro e W8 ⟨⟨CC, HCC, rfl⟩, b8⟩
    have hP8 := hPp.below b8 hPp.lt
    have hh8 := hhp.below b8 hhp.lt
    have hr8 := hrp.below b8 hrp.lt
    have hv8 := hvp0.below b8 hvp0.lt
    have hM8 := hMp.below b8 hMp.lt
    have be8 : Below n w W8 := bep.trans (b8.mono (Nat.le_of_lt hhp.lt))
    clear hPp hhp hrp hvp0 hMp bep b8 hn7
    go_wp2_with fail
    have HMl : Hid ((mrow bs 16 0).length = 16) := by show _ = _; simp [mrow]
    refine lines_loop CC PPs (by intro i hi w0; rw [HCC.out]; exact lines_ix i hi w0) places_ix (by kernel_rfl) (n + 1 + 1) mb pb (mrow bs 16 0) V W8 _ ?hQ2 hM8 hP8 hv8 HMl.out HVL.out (by omega) hvp ?hexit2
    case hQ2 => exact fun _ _ _ _ _ h => h
    case hexit2 =>
      intro u16 u17 u18 u79 u80 u81 u82 u83 u84 u85 u86 u87 u88 u89 u90 u91 u92 u93 u94 u95 u96 u97 u98 u99 u100 u101 u102 u103 W9 hV9 hg9
      have hh9 := hh8.kept hg9 (by intro e; injection e with e; omega)
      have hr9 := hr8.kept hg9 (by intro e; injection e with e; omega)
      have be9 := be8.grown hg9 (by have := hh8.lt; omega) (fun k hk => by cases hk; omega)
      have HVl : Hid ((allV (mrow bs 16 0) V 10).length = 16) := (allV_len _ _ _).trans HVL.out
      clear hh8 hr8 hv8 hM8 hP8 be8 hg9 HMl HVL hvp HCC
      generalize allV (mrow bs 16 0) V 10 = V9 at hV9 HVl HFV
      have HHl : Hid (H.length = 8) := by show _ = _; rw [HH.out]; rfl
      rw [← finV_zero H V9 HHl.out] at hh9
      go_wp2_with fail
      refine last_loop n (n + 1 + 1) H V9 W9 _ ?hQ3 hh9 hV9 HVl.out (by omega) ?hexit3
      case hQ3 => exact fun _ _ _ _ _ h => h
      case hexit3 =>
        intro u19 u104 u105 u106 u107 u108 u109 u110 u111 u112 u113 u114 u115 u116 u117 u118 u119 u120 W10 hh10 hg10
        have hr10 := hr9.kept hg10 (by intro e; injection e with e; omega)
        have be10 := be9.grown hg10 (by have := hr9.lt; omega) (fun k hk => by cases hk; omega)
        clear hh9 hr9 be9 hV9 hg10
        rw [← HFV.out] at hh10
        have HL8 : Hid ((blockF H bs many false).length = 8) := by show _ = _; rw [HFV.out]; exact finV_len ..
        have HHX : Hid (blockF [h0, h1, h2, h3, h4, h5, h6, h7] bs many false = blockF H bs many false) := by show _ = _; rw [HH.out]
        clear HFV
        generalize blockF H bs many false = X at hh10 HL8 HHX
        obtain ⟨x0, x1, x2, x3, x4, x5, x6, x7, hX⟩ := list8 X HL8.out
        have hXe : eU X = #[.int .u32 x0, .int .u32 x1, .int .u32 x2, .int .u32 x3, .int .u32 x4, .int .u32 x5, .int .u32 x6, .int .u32 x7] := by rw [hX]; rfl
        rw [hXe] at hh10
        have HXE : Hid (#[.int .u32 x0, .int .u32 x1, .int .u32 x2, .int .u32 x3, .int .u32 x4, .int .u32 x5, .int .u32 x6, .int .u32 x7] = eU (blockF [h0, h1, h2, h3, h4, h5, h6, h7] bs many false)) := by show _ = _; rw [HHX.out, hXe]
        clear hXe hX HHX
        have y0 := hh10.cell 0
        have y1 := hh10.cell 1
        have y2 := hh10.cell 2
        have y3 := hh10.cell 3
        have y4 := hh10.cell 4
        have y5 := hh10.cell 5
        have y6 := hh10.cell 6
        have y7 := hh10.cell 7
        go_wp2_with (refine wpList_store_row rfl _ _ _ rfl (n + 1) #[.int .u32 x0, .int .u32 x1, .int .u32 x2, .int .u32 x3, .int .u32 x4, .int .u32 x5, .int .u32 x6, .int .u32 x7] rfl rfl 329 _ hr10 (by kernel_rfl) (by kernel_rfl) (by kernel_rfl) ?_)
        rw [← HNN.out, ← HXE.out]
        clear y0 y1 y2 y3 y4 y5 y6 y7 HXE
        refine bodyPost_ret (results_cell_row rfl _ _ (n + 1) _ _ (0, 0) _ (by kernel_rfl) (setRow_heap _ _ _ _ _ _ hr10) Tryz.underlying329 rfl (by kernel_rfl)) (by kernel_rfl) ⟨rfl, below_setRow be10 (Nat.le_succ n) _⟩
set_option maxRecDepth 20000
set_option maxHeartbeats 4000000 in
theorem block_last (h0 h1 h2 h3 h4 h5 h6 h7 : Int) (gb ob cap : Nat) (bs : List Int) (many : Int) (w : World) (hbl : bs.length = 64) (hbc : ∀ j x, bs[j]? = some x → w.cell? ⟨gb, ob + j, none⟩ = some (.int .u8 x)) :
    Calls Tryz.prog 262 #[.agg #[.int .u32 h0, .int .u32 h1, .int .u32 h2, .int .u32 h3, .int .u32 h4, .int .u32 h5, .int .u32 h6, .int .u32 h7], .slice (some ⟨gb, ob, none⟩) 64 cap, .int .u64 many, .bool true] w fun e w' => e = .returned (.agg (eU (blockF [h0, h1, h2, h3, h4, h5, h6, h7] bs many true))) ∧ Below w.heap.size w w' := by
  have hD0 : DF w (((w.alloc (.cells #[.int .u32 h0, .int .u32 h1, .int .u32 h2, .int .u32 h3, .int .u32 h4, .int .u32 h5, .int .u32 h6, .int .u32 h7] 329)).alloc (.cells #[.int .u32 0, .int .u32 0, .int .u32 0, .int .u32 0, .int .u32 0, .int .u32 0, .int .u32 0, .int .u32 0] 329)).alloc (.cells #[.int .u32 0, .int .u32 0, .int .u32 0, .int .u32 0, .int .u32 0, .int .u32 0, .int .u32 0, .int .u32 0, .int .u32 0, .int .u32 0, .int .u32 0, .int .u32 0, .int .u32 0, .int .u32 0, .int .u32 0, .int .u32 0] 366)) w.heap.size #[.int .u32 h0, .int .u32 h1, .int .u32 h2, .int .u32 h3, .int .u32 h4, .int .u32 h5, .int .u32 h6, .int .u32 h7] #[.int .u32 0, .int .u32 0, .int .u32 0, .int .u32 0, .int .u32 0, .int .u32 0, .int .u32 0, .int .u32 0, .int .u32 0, .int .u32 0, .int .u32 0, .int .u32 0, .int .u32 0, .int .u32 0, .int .u32 0, .int .u32 0] :=
    ⟨((Blk.new w _ _).alloc _).alloc _, by have := (Blk.new (w.alloc (.cells #[.int .u32 h0, .int .u32 h1, .int .u32 h2, .int .u32 h3, .int .u32 h4, .int .u32 h5, .int .u32 h6, .int .u32 h7] 329)) 329 #[.int .u32 0, .int .u32 0, .int .u32 0, .int .u32 0, .int .u32 0, .int .u32 0, .int .u32 0, .int .u32 0]).alloc (.cells #[.int .u32 0, .int .u32 0, .int .u32 0, .int .u32 0, .int .u32 0, .int .u32 0, .int .u32 0, .int .u32 0, .int .u32 0, .int .u32 0, .int .u32 0, .int .u32 0, .int .u32 0, .int .u32 0, .int .u32 0, .int .u32 0] 366); simpa using this,
      by have := Blk.new ((w.alloc (.cells #[.int .u32 h0, .int .u32 h1, .int .u32 h2, .int .u32 h3, .int .u32 h4, .int .u32 h5, .int .u32 h6, .int .u32 h7] 329)).alloc (.cells #[.int .u32 0, .int .u32 0, .int .u32 0, .int .u32 0, .int .u32 0, .int .u32 0, .int .u32 0, .int .u32 0] 329)) 366 #[.int .u32 0, .int .u32 0, .int .u32 0, .int .u32 0, .int .u32 0, .int .u32 0, .int .u32 0, .int .u32 0, .int .u32 0, .int .u32 0, .int .u32 0, .int .u32 0, .int .u32 0, .int .u32 0, .int .u32 0, .int .u32 0]; simpa using this,
      (((Below.refl _ w).alloc (Nat.le_refl _) _).alloc (by simp) _).alloc (by simp; omega) _⟩
  have HBC := Lib.hid hbc
  clear hbc
  go_enter Tryz.func262, Tryz.ntmps262
  go_wp2_with fail
  generalize ((w.alloc (.cells #[.int .u32 h0, .int .u32 h1, .int .u32 h2, .int .u32 h3, .int .u32 h4, .int .u32 h5, .int .u32 h6, .int .u32 h7] 329)).alloc (.cells #[.int .u32 0, .int .u32 0, .int .u32 0, .int .u32 0, .int .u32 0, .int .u32 0, .int .u32 0, .int .u32 0] 329)).alloc (.cells #[.int .u32 0, .int .u32 0, .int .u32 0, .int .u32 0, .int .u32 0, .int .u32 0, .int .u32 0, .int .u32 0, .int .u32 0, .int .u32 0, .int .u32 0, .int .u32 0, .int .u32 0, .int .u32 0, .int .u32 0, .int .u32 0] 366) = W0 at hD0 ⊢
  have hn0 := hD0.bv.lt
  refine wp_region_last [(true, 0), (true, 1), (false, 2)] 2 (fun w' => w' = W0.drew) (by kernel_rfl) (by kernel_rfl) (by kernel_rfl) (fun _ _ _ _ _ h => h) (by kernel_rfl) (by kernel_rfl) ?_ ?_
  · rfl
  iterate 2 (first | (apply seqL_skip; (focus (simp only [List.getElem?_toArray, List.getElem?_cons_succ, List.getElem?_cons_zero]; rfl)); (focus rfl); simp only [Act.put, List.setIfInBounds_toArray, List.set_cons_zero, List.set_cons_succ]) | (apply seqL_take; (focus (simp only [List.getElem?_toArray, List.getElem?_cons_succ, List.getElem?_cons_zero]; rfl)); (focus rfl); (focus (intro w' hS; subst hS; first | (go_simp; rfl) | (go_simp; done))); simp only [Act.put, List.setIfInBounds_toArray, List.set_cons_zero, List.set_cons_succ]))
  apply seqL_eff
  (focus (simp only [List.getElem?_toArray, List.getElem?_cons_succ, List.getElem?_cons_zero]; rfl))
  (focus rfl)
  intro K hK
  go_simp
  rw [run_copy_row Tryz.prog W0.drew _ _ _ 216 (w.heap.size + 1 + 1) 0 8 16 ⟨w.heap.size, 0, none⟩ 8 8 #[.int .u32 0, .int .u32 0, .int .u32 0, .int .u32 0, .int .u32 0, .int .u32 0, .int .u32 0, .int .u32 0, .int .u32 0, .int .u32 0, .int .u32 0, .int .u32 0, .int .u32 0, .int .u32 0, .int .u32 0, .int .u32 0] 366 [.int .u32 h0, .int .u32 h1, .int .u32 h2, .int .u32 h3, .int .u32 h4, .int .u32 h5, .int .u32 h6, .int .u32 h7] Tryz.underlying367 (by kernel_rfl) hD0.drew.bv rfl (by
    intro j u hu
    have := hD0.drew.bh.cell j
    rw [show ((⟨w.heap.size, 0, none⟩ : Addr).add j) = ⟨w.heap.size, j, none⟩ from by unfold Addr.add; split <;> simp_all]
    rw [this]
    simpa using hu) (by simp) (by simp [Value.oneCell'])]
  go_simp
  have hD1 := hD0.drew.row #[.int .u32 h0, .int .u32 h1, .int .u32 h2, .int .u32 h3, .int .u32 h4, .int .u32 h5, .int .u32 h6, .int .u32 h7, .int .u32 0, .int .u32 0, .int .u32 0, .int .u32 0, .int .u32 0, .int .u32 0, .int .u32 0, .int .u32 0]
  generalize W0.drew.setRow (w.heap.size + 1 + 1) #[.int .u32 h0, .int .u32 h1, .int .u32 h2, .int .u32 h3, .int .u32 h4, .int .u32 h5, .int .u32 h6, .int .u32 h7, .int .u32 0, .int .u32 0, .int .u32 0, .int .u32 0, .int .u32 0, .int .u32 0, .int .u32 0, .int .u32 0] = W1 at hD1 ⊢
  refine hK _ _ ⟨fun h => absurd rfl h, ?_⟩
  clear hK K
  refine seqL_nil ?_
  clear hn0 hD0
  have hn1 := hD1.bv.lt
  go_wp2_with fail
  refine (iv_any _).mono ?_
  rintro e W2 ⟨rfl, b2⟩
  have hD2 := hD1.below b2 (by omega)
  have hn2 := hD2.bv.lt
  have hI := Blk.new W2 329 #[.int .u32 1779033703, .int .u32 3144134277, .int .u32 1013904242, .int .u32 2773480762, .int .u32 1359893119, .int .u32 2600822924, .int .u32 528734635, .int .u32 1541459225]
  have hD3 := hD2.alloc (.cells #[.int .u32 1779033703, .int .u32 3144134277, .int .u32 1013904242, .int .u32 2773480762, .int .u32 1359893119, .int .u32 2600822924, .int .u32 528734635, .int .u32 1541459225] 329)
  go_wp2_with fail
  generalize hW3 : W2.alloc (.cells #[.int .u32 1779033703, .int .u32 3144134277, .int .u32 1013904242, .int .u32 2773480762, .int .u32 1359893119, .int .u32 2600822924, .int .u32 528734635, .int .u32 1541459225] 329) = W3 at hI hD3 ⊢
  have hs3 : W3.heap.size = W2.heap.size + 1 := by rw [← hW3]; simp
  clear hW3
  refine wp_region_last [(true, 0), (true, 1), (false, 2)] 2 (fun w' => w' = W3.drew) (by kernel_rfl) (by kernel_rfl) (by kernel_rfl) (fun _ _ _ _ _ h => h) (by kernel_rfl) (by kernel_rfl) ?_ ?_
  · rfl
  iterate 2 (first | (apply seqL_skip; (focus (simp only [List.getElem?_toArray, List.getElem?_cons_succ, List.getElem?_cons_zero]; rfl)); (focus rfl); simp only [Act.put, List.setIfInBounds_toArray, List.set_cons_zero, List.set_cons_succ]) | (apply seqL_take; (focus (simp only [List.getElem?_toArray, List.getElem?_cons_succ, List.getElem?_cons_zero]; rfl)); (focus rfl); (focus (intro w' hS; subst hS; first | (go_simp; rfl) | (go_simp; done))); simp only [Act.put, List.setIfInBounds_toArray, List.set_cons_zero, List.set_cons_succ]))
  apply seqL_eff
  (focus (simp only [List.getElem?_toArray, List.getElem?_cons_succ, List.getElem?_cons_zero]; rfl))
  (focus rfl)
  intro K hK
  go_simp
  rw [run_copy_row Tryz.prog W3.drew _ _ _ 216 (w.heap.size + 1 + 1) 8 8 8 ⟨W2.heap.size, 0, none⟩ 8 8 #[.int .u32 h0, .int .u32 h1, .int .u32 h2, .int .u32 h3, .int .u32 h4, .int .u32 h5, .int .u32 h6, .int .u32 h7, .int .u32 0, .int .u32 0, .int .u32 0, .int .u32 0, .int .u32 0, .int .u32 0, .int .u32 0, .int .u32 0] 366 [.int .u32 1779033703, .int .u32 3144134277, .int .u32 1013904242, .int .u32 2773480762, .int .u32 1359893119, .int .u32 2600822924, .int .u32 528734635, .int .u32 1541459225] Tryz.underlying367 (by kernel_rfl) hD3.drew.bv rfl (by
    intro j u hu
    have := hI.drew.cell j
    rw [show ((⟨W2.heap.size, 0, none⟩ : Addr).add j) = ⟨W2.heap.size, j, none⟩ from by unfold Addr.add; split <;> simp_all]
    rw [this]
    simpa using hu) (by simp) (by simp [Value.oneCell'])]
  go_simp
  have hD4 := hD3.drew.row #[.int .u32 h0, .int .u32 h1, .int .u32 h2, .int .u32 h3, .int .u32 h4, .int .u32 h5, .int .u32 h6, .int .u32 h7, .int .u32 1779033703, .int .u32 3144134277, .int .u32 1013904242, .int .u32 2773480762, .int .u32 1359893119, .int .u32 2600822924, .int .u32 528734635, .int .u32 1541459225]
  have hI4 : Blk (W3.drew.setRow (w.heap.size + 1 + 1) #[.int .u32 h0, .int .u32 h1, .int .u32 h2, .int .u32 h3, .int .u32 h4, .int .u32 h5, .int .u32 h6, .int .u32 h7, .int .u32 1779033703, .int .u32 3144134277, .int .u32 1013904242, .int .u32 2773480762, .int .u32 1359893119, .int .u32 2600822924, .int .u32 528734635, .int .u32 1541459225]) W2.heap.size 329 #[.int .u32 1779033703, .int .u32 3144134277, .int .u32 1013904242, .int .u32 2773480762, .int .u32 1359893119, .int .u32 2600822924, .int .u32 528734635, .int .u32 1541459225] := (setRow_other W3.drew _ _ _ (by omega)).trans hI
  generalize W3.drew.setRow (w.heap.size + 1 + 1) #[.int .u32 h0, .int .u32 h1, .int .u32 h2, .int .u32 h3, .int .u32 h4, .int .u32 h5, .int .u32 h6, .int .u32 h7, .int .u32 1779033703, .int .u32 3144134277, .int .u32 1013904242, .int .u32 2773480762, .int .u32 1359893119, .int .u32 2600822924, .int .u32 528734635, .int .u32 1541459225] = W4 at hD4 hI4 ⊢
  refine hK _ _ ⟨fun h => absurd rfl h, ?_⟩
  clear hK K
  refine seqL_nil ?_
  clear hD3 hI hD2 b2 hD1 hI4
  have c12 := hD4.bv.cell 12
  have c13 := hD4.bv.cell 13
  have c14 := hD4.bv.cell 14
  have z12 := hD4.bv.frozen 12
  have z13 := hD4.bv.frozen 13
  have z14 := hD4.bv.frozen 14
  have hD5 := ((hD4.set 12 (.int .u32 (bits .xor .u32 1359893119 (many % 4294967296)))).set 13 (.int .u32 (bits .xor .u32 2600822924 (many / 4294967296 % 4294967296)))).set 14 (.int .u32 (bits .xor .u32 IntKind.u32.max 528734635))
  have hM5 := Blk.new (((W4.setCell ⟨w.heap.size + 1 + 1, 12, none⟩ (.int .u32 (bits .xor .u32 1359893119 (many % 4294967296)))).setCell ⟨w.heap.size + 1 + 1, 13, none⟩ (.int .u32 (bits .xor .u32 2600822924 (many / 4294967296 % 4294967296)))).setCell ⟨w.heap.size + 1 + 1, 14, none⟩ (.int .u32 (bits .xor .u32 IntKind.u32.max 528734635))) 365 #[.int .u32 0, .int .u32 0, .int .u32 0, .int .u32 0, .int .u32 0, .int .u32 0, .int .u32 0, .int .u32 0, .int .u32 0, .int .u32 0, .int .u32 0, .int .u32 0, .int .u32 0, .int .u32 0, .int .u32 0, .int .u32 0]
  have hD6 := hD5.alloc (.cells #[.int .u32 0, .int .u32 0, .int .u32 0, .int .u32 0, .int .u32 0, .int .u32 0, .int .u32 0, .int .u32 0, .int .u32 0, .int .u32 0, .int .u32 0, .int .u32 0, .int .u32 0, .int .u32 0, .int .u32 0, .int .u32 0] 365)
  rw [show ((((W4.setCell ⟨w.heap.size + 1 + 1, 12, none⟩ (.int .u32 (bits .xor .u32 1359893119 (many % 4294967296)))).setCell ⟨w.heap.size + 1 + 1, 13, none⟩ (.int .u32 (bits .xor .u32 2600822924 (many / 4294967296 % 4294967296)))).setCell ⟨w.heap.size + 1 + 1, 14, none⟩ (.int .u32 (bits .xor .u32 IntKind.u32.max 528734635))).heap.size) = W4.heap.size by simp] at hM5
  go_wp2_with fail
  generalize ((((W4.setCell ⟨w.heap.size + 1 + 1, 12, none⟩ (.int .u32 (bits .xor .u32 1359893119 (many % 4294967296)))).setCell ⟨w.heap.size + 1 + 1, 13, none⟩ (.int .u32 (bits .xor .u32 2600822924 (many / 4294967296 % 4294967296)))).setCell ⟨w.heap.size + 1 + 1, 14, none⟩ (.int .u32 (bits .xor .u32 IntKind.u32.max 528734635))).alloc (.cells #[.int .u32 0, .int .u32 0, .int .u32 0, .int .u32 0, .int .u32 0, .int .u32 0, .int .u32 0, .int .u32 0, .int .u32 0, .int .u32 0, .int .u32 0, .int .u32 0, .int .u32 0, .int .u32 0, .int .u32 0, .int .u32 0] 365)) = W6 at hD6 hM5 ⊢
  have HV0 : Hid (startV [h0, h1, h2, h3, h4, h5, h6, h7] many true = [h0, h1, h2, h3, h4, h5, h6, h7, 1779033703, 3144134277, 1013904242, 2773480762, bits .xor .u32 1359893119 (many % 4294967296), bits .xor .u32 2600822924 (many / 4294967296 % 4294967296), bits .xor .u32 IntKind.u32.max 528734635, 1541459225]) := rfl
  generalize bits .xor .u32 1359893119 (many % 4294967296) = x12 at hD6 HV0 ⊢
  generalize bits .xor .u32 2600822924 (many / 4294967296 % 4294967296) = x13 at hD6 HV0 ⊢
  generalize bits .xor .u32 IntKind.u32.max 528734635 = x14 at hD6 HV0 ⊢
  obtain ⟨mb, hmb⟩ : ∃ mb, mb = W4.heap.size := ⟨_, rfl⟩
  rw [← hmb] at hM5 ⊢
  obtain ⟨n, hn⟩ : ∃ n, n = w.heap.size := ⟨_, rfl⟩
  have hv4 := hD4.bv.lt
  have hnm : n + 1 + 1 < mb := by omega
  have hgb : gb < n := by rw [hn]; exact block_lt_of_cell (HBC.out 0 (bs[0]'(by omega)) (by simp))
  clear hD4 hD5 c12 c13 c14 z12 z13 z14 hn2 hs3 hn1 hv4 hmb
  rw [← hn] at hD6 ⊢
  have HNN := Lib.hid hn
  clear hn
  have hbh : Blk W6 n 329 (eU [h0, h1, h2, h3, h4, h5, h6, h7]) := hD6.bh
  have hbr := hD6.br
  have hbv : Blk W6 (n + 1 + 1) 366 (eU (startV [h0, h1, h2, h3, h4, h5, h6, h7] many true)) := by rw [HV0.out]; exact hD6.bv
  have bel := hD6.bel
  clear hD6
  obtain ⟨H, hH⟩ : ∃ H, H = [h0, h1, h2, h3, h4, h5, h6, h7] := ⟨_, rfl⟩
  have HVL : Hid ((startV H many true).length = 16) := by rw [hH, HV0.out]; rfl
  rw [← hH] at hbh hbv
  have HH := Lib.hid hH
  clear hH HV0
  have HFV : Hid (blockF H bs many true = finV H (allV (mrow bs 16 0) (startV H many true) 10) 8) := rfl
  rw [← mvals_nil bs] at hM5
  generalize startV H many true = V at hbv HVL HFV
  have HB6 := Lib.hid (fun j x hj => (bel.cell (p := ⟨gb, ob + j, none⟩) hgb).trans (HBC.out j x hj))
  refine words_loop gb ob mb bs W6 _ ?hQ1 hbl HB6.out hM5 (by omega) ?hexit1
  case hQ1 => exact fun _ _ _ _ _ h => h
  case hexit1 =>
    intro u12 u13 u45 u46 u47 u48 u49 u50 u51 u52 u53 u54 u55 u56 u57 u58 u59 u60 u61 u62 u63 u64 u65 u66 u67 u68 W7 hM7 hg7
    replace hbh := hbh.kept hg7 (by intro e; injection e with e; omega)
    replace hbr := hbr.kept hg7 (by intro e; injection e with e; omega)
    replace hbv := hbv.kept hg7 (by intro e; injection e with e; omega)
    replace bel := bel.grown hg7 (by have := hbr.lt; have := bel.size; rw [HNN.out]; exact this) (fun k hk => by cases hk; omega)
    clear hg7 hM5 HB6 HBC
    go_upto_region 19 with (fail)
    refine places_region W7 _ ?_
    intro u69 u70 u71 u72 u73 u74 u75 u76 u77 Wp hPp hgp hsp
    have hhp := hbh.kept hgp (by simp)
    have hrp := hbr.kept hgp (by simp)
    have hvp0 := hbv.kept hgp (by simp)
    have hMp := hM7.kept hgp (by simp)
    have hn7 : n ≤ W7.heap.size := Nat.le_of_lt hbh.lt
    have bep := bel.grown hgp hn7 (fun k hk => by cases hk)
    have hvp : n + 1 + 1 ≠ W7.heap.size := Nat.ne_of_lt hbv.lt
    obtain ⟨pb, hpb⟩ : ∃ pb, pb = W7.heap.size := ⟨_, rfl⟩
    rw [← hpb] at hPp hvp ⊢
    clear hgp hsp hbh hbr hbv hM7 bel hpb
    go_wp2_with fail
    refine (lines_hid _).mono ?_
    rintro e W8 ⟨⟨CC, HCC, rfl⟩, b8⟩
    have hP8 := hPp.below b8 hPp.lt
    have hh8 := hhp.below b8 hhp.lt
    have hr8 := hrp.below b8 hrp.lt
    have hv8 := hvp0.below b8 hvp0.lt
    have hM8 := hMp.below b8 hMp.lt
    have be8 : Below n w W8 := bep.trans (b8.mono (Nat.le_of_lt hhp.lt))
    clear hPp hhp hrp hvp0 hMp bep b8 hn7
    go_wp2_with fail
    have HMl : Hid ((mrow bs 16 0).length = 16) := by show _ = _; simp [mrow]
    refine lines_loop CC PPs (by intro i hi w0; rw [HCC.out]; exact lines_ix i hi w0) places_ix (by kernel_rfl) (n + 1 + 1) mb pb (mrow bs 16 0) V W8 _ ?hQ2 hM8 hP8 hv8 HMl.out HVL.out (by omega) hvp ?hexit2
    case hQ2 => exact fun _ _ _ _ _ h => h
    case hexit2 =>
      intro u16 u17 u18 u79 u80 u81 u82 u83 u84 u85 u86 u87 u88 u89 u90 u91 u92 u93 u94 u95 u96 u97 u98 u99 u100 u101 u102 u103 W9 hV9 hg9
      have hh9 := hh8.kept hg9 (by intro e; injection e with e; omega)
      have hr9 := hr8.kept hg9 (by intro e; injection e with e; omega)
      have be9 := be8.grown hg9 (by have := hh8.lt; omega) (fun k hk => by cases hk; omega)
      have HVl : Hid ((allV (mrow bs 16 0) V 10).length = 16) := (allV_len _ _ _).trans HVL.out
      clear hh8 hr8 hv8 hM8 hP8 be8 hg9 HMl HVL hvp HCC
      generalize allV (mrow bs 16 0) V 10 = V9 at hV9 HVl HFV
      have HHl : Hid (H.length = 8) := by show _ = _; rw [HH.out]; rfl
      rw [← finV_zero H V9 HHl.out] at hh9
      go_wp2_with fail
      refine last_loop n (n + 1 + 1) H V9 W9 _ ?hQ3 hh9 hV9 HVl.out (by omega) ?hexit3
      case hQ3 => exact fun _ _ _ _ _ h => h
      case hexit3 =>
        intro u19 u104 u105 u106 u107 u108 u109 u110 u111 u112 u113 u114 u115 u116 u117 u118 u119 u120 W10 hh10 hg10
        have hr10 := hr9.kept hg10 (by intro e; injection e with e; omega)
        have be10 := be9.grown hg10 (by have := hr9.lt; omega) (fun k hk => by cases hk; omega)
        clear hh9 hr9 be9 hV9 hg10
        rw [← HFV.out] at hh10
        have HL8 : Hid ((blockF H bs many true).length = 8) := by show _ = _; rw [HFV.out]; exact finV_len ..
        have HHX : Hid (blockF [h0, h1, h2, h3, h4, h5, h6, h7] bs many true = blockF H bs many true) := by show _ = _; rw [HH.out]
        clear HFV
        generalize blockF H bs many true = X at hh10 HL8 HHX
        obtain ⟨x0, x1, x2, x3, x4, x5, x6, x7, hX⟩ := list8 X HL8.out
        have hXe : eU X = #[.int .u32 x0, .int .u32 x1, .int .u32 x2, .int .u32 x3, .int .u32 x4, .int .u32 x5, .int .u32 x6, .int .u32 x7] := by rw [hX]; rfl
        rw [hXe] at hh10
        have HXE : Hid (#[.int .u32 x0, .int .u32 x1, .int .u32 x2, .int .u32 x3, .int .u32 x4, .int .u32 x5, .int .u32 x6, .int .u32 x7] = eU (blockF [h0, h1, h2, h3, h4, h5, h6, h7] bs many true)) := by show _ = _; rw [HHX.out, hXe]
        clear hXe hX HHX
        have y0 := hh10.cell 0
        have y1 := hh10.cell 1
        have y2 := hh10.cell 2
        have y3 := hh10.cell 3
        have y4 := hh10.cell 4
        have y5 := hh10.cell 5
        have y6 := hh10.cell 6
        have y7 := hh10.cell 7
        go_wp2_with (refine wpList_store_row rfl _ _ _ rfl (n + 1) #[.int .u32 x0, .int .u32 x1, .int .u32 x2, .int .u32 x3, .int .u32 x4, .int .u32 x5, .int .u32 x6, .int .u32 x7] rfl rfl 329 _ hr10 (by kernel_rfl) (by kernel_rfl) (by kernel_rfl) ?_)
        rw [← HNN.out, ← HXE.out]
        clear y0 y1 y2 y3 y4 y5 y6 y7 HXE
        refine bodyPost_ret (results_cell_row rfl _ _ (n + 1) _ _ (0, 0) _ (by kernel_rfl) (setRow_heap _ _ _ _ _ _ hr10) Tryz.underlying329 rfl (by kernel_rfl)) (by kernel_rfl) ⟨rfl, below_setRow be10 (Nat.le_succ n) _⟩
set_option maxRecDepth 20000
def OwnB (w : World) (base : Nat) (e : TypeId) (v : Value) (l : List UInt8) : Prop :=
  (v = .slice none 0 0 ∧ l = []) ∨ ∃ g off cap cur, v = .slice (some ⟨g, off, none⟩) l.length cap ∧ base ≤ g ∧ w.heap[g]? = some (.cells cur e (0, 0)) ∧ l.length ≤ cap ∧ off + cap ≤ maxLen ∧ cur.size = off + cap ∧ (cur.toList.drop off).take l.length = l.map bv
section
variable {P : Program} {w w' : World} {base : Nat} {e : TypeId} {v : Value} {l : List UInt8}
theorem OwnB.nil (w : World) (base : Nat) (e : TypeId) : OwnB w base e (.slice none 0 0) [] := .inl ⟨rfl, rfl⟩
theorem OwnB.of_owns (h : Owns w base e 1 eb v l) : OwnB w base e v l := by
  rcases h.2 with ⟨rfl, h0⟩ | ⟨g, cap, cur, hv, hb, hg, hn, hc, hs, ht⟩
  · exact .inl ⟨rfl, List.eq_nil_of_length_eq_zero h0⟩
  · refine .inr ⟨g, 0, cap, cur, hv, hb, hg, hn, by omega, by omega, ?_⟩
    rw [List.drop_zero, ← eb_map, ← ht, Nat.mul_one]
theorem OwnB.lt (h : OwnB w base e v l) : ∀ k, v.ownBlock = some k → base ≤ k ∧ k < w.heap.size := by
  intro k hk
  rcases h with ⟨rfl, _⟩ | ⟨g, off, cap, cur, rfl, hb, hg, _⟩
  · cases hk
  · simp only [Value.ownBlock, Option.some.injEq] at hk
    subst hk
    exact ⟨hb, (Array.getElem?_eq_some_iff.1 hg).1⟩
theorem OwnB.kept {row : Option Nat} (h : OwnB w base e v l) (hg : w.grownBy w' row) (hne : v.ownBlock = none ∨ v.ownBlock ≠ row) : OwnB w' base e v l := by
  have hlt := h.lt
  rcases h with h | ⟨g, off, cap, cur, rfl, hb, hh, rest⟩
  · exact .inl h
  · refine .inr ⟨g, off, cap, cur, rfl, hb, ?_, rest⟩
    rcases hne with hne | hne
    · cases hne
    · exact (hg.block g (hlt g rfl).2 hne).trans hh
theorem OwnB.drew (h : OwnB w base e v l) : OwnB w.drew base e v l := h
theorem OwnB.alloc (h : OwnB w base e v l) (o : Obj) : OwnB (w.alloc o) base e v l :=
  h.kept (World.grownBy_alloc w o none) (by cases hv : v.ownBlock with | none => exact .inl rfl | some k => exact .inr (by simp))
theorem OwnB.below (h : OwnB w base e v l) (hb : Below w.heap.size w w') : OwnB w' base e v l :=
  h.kept (row := none) ⟨hb.os, hb.tape, hb.output, hb.size, fun k hk _ => hb.block k hk⟩ (by cases hv : v.ownBlock with | none => exact .inl rfl | some k => exact .inr (by simp))
theorem OwnB.form (h : OwnB w base e v l) : (v = .slice none 0 0 ∧ l = []) ∨ ∃ g off cap, v = .slice (some ⟨g, off, none⟩) l.length cap ∧ l.length ≤ cap := by
  rcases h with h | ⟨g, off, cap, cur, hv, _, _, hn, _⟩
  · exact .inl h
  · exact .inr ⟨g, off, cap, hv, hn⟩
theorem OwnB.cells {g off n cap : Nat} (h : OwnB w base e (.slice (some ⟨g, off, none⟩) n cap) l) : ∀ j c, l[j]? = some c → w.cell? ⟨g, off + j, none⟩ = some (bv c) := by
  intro j c hj
  rcases h with ⟨h, _⟩ | ⟨g', off', cap', cur, hv, _, hh, hn, _, hs, ht⟩
  · cases h
  · obtain ⟨rfl, rfl⟩ : g = g' ∧ off = off' := by injection hv with h1; injection h1 with h1; injection h1 with h1 h2; exact ⟨h1, h2⟩
    have hjl := (List.getElem?_eq_some_iff.1 hj).1
    simp only [World.cell?, hh]
    have := congrArg (fun l => l[j]?) ht
    simp only [List.getElem?_take, hjl, if_true, List.getElem?_drop, List.getElem?_map, hj, Option.map_some] at this
    simpa using this
theorem OwnB.drop {g off n cap : Nat} (h : OwnB w base e (.slice (some ⟨g, off, none⟩) n cap) l) {k : Nat} (hk : k ≤ l.length) : OwnB w base e (.slice (some ⟨g, off + k, none⟩) (n - k) (cap - k)) (l.drop k) := by
  rcases h with ⟨h, _⟩ | ⟨g', off', cap', cur, hv, hb, hh, hn, hc, hs, ht⟩
  · cases h
  · obtain ⟨rfl, rfl, rfl, rfl⟩ : g = g' ∧ off = off' ∧ n = l.length ∧ cap = cap' := by injection hv with h1 h2 h3; injection h1 with h1; injection h1 with h1 h4; exact ⟨h1, h4, h2, h3⟩
    refine .inr ⟨g, off + k, cap - k, cur, by rw [List.length_drop], hb, hh, by rw [List.length_drop]; omega, by omega, by omega, ?_⟩
    rw [List.length_drop, List.map_drop, ← ht, List.drop_take, List.drop_drop]
theorem Blk.keptO {w w1 : World} {g : Nat} {t : TypeId} {cs : Array Value} {v : Value} (h : Blk w g t cs) (hg : w.grownBy w1 v.ownBlock) (hne : v.ownBlock = none ∨ v.ownBlock ≠ some g) : Blk w1 g t cs :=
  (hg.block g h.lt (by rcases hne with h | h <;> first | (rw [h]; simp; done) | exact fun e => h e.symm)).trans h
theorem run_append_text_off (t u ty : TypeId) (ht : P.underlying t = some (.slice e)) (hu : P.underlying u = some .string) (hie : ElemInfo P e (.int .u8 0) 1 1) (hown : OwnB w base e v l) (s : ByteArray)
    (hb : l.length + s.size ≤ 140737488355328) (hbase : base ≤ w.heap.size) :
    ∃ v' w', (Builtin.append_ #[t, u] ty #[v, .string s]).run P w = .ok v' w' ∧ OwnB w' base e v' (l ++ sl s) ∧ w.grownBy w' v.ownBlock := by
  obtain ⟨i, hi, hz, hsize, hby⟩ := info_parts hie
  rcases hown with ⟨rfl, rfl⟩ | ⟨g, off, cap, cur, rfl, hbg, hg, hnc, hcm, hcs, htake⟩
  · obtain ⟨v', w', hr, h2, h3, _⟩ := Lib.run_append_own_string (P := P) w base t u ty e i ht hu hi hz hsize hby (.slice none 0 0) 0 [] (World.ownsRow_nil w base e 1) s (by simp only [maxLen]; simp at hb; omega) (by simpa using hb) hbase
    refine ⟨v', w', hr, OwnB.of_owns (?_ : Owns w' base e 1 eb v' ([] ++ sl s)), h3⟩
    unfold Owns
    rw [List.nil_append, sl_len, ← strCells_eb]
    simpa using h2
  · have hsc : Lib.strCells s = (sl s).map bv := by rw [strCells_eb, eb_map]
    by_cases hroom : l.length + s.size ≤ cap
    · have hf := Lib.run_firstCells_string (P := P) w 1 s
      have hst := run_storeCells_at P g (off + l.length) e (Lib.strCells s) 0 cur w hg (by rw [Lib.strCells_length]; omega) (Lib.strCells_oneCell s)
      simp only [Nat.add_zero, Lib.strCells_length] at hst
      have hr : (Builtin.append_ #[t, u] ty #[.slice (some ⟨g, off, none⟩) l.length cap, .string s]).run P w =
          .ok (.slice (some ⟨g, off, none⟩) (l.length + s.size) cap) (w.setRow g (cur.toList.take (off + l.length) ++ Lib.strCells s ++ cur.toList.drop (off + l.length + s.size)).toArray) := by
        simp [Builtin.append_, run_underlying ht, run_underlying hu, sizeOf, typeInfo, hi, hsize, Builtin.lenOf, hroom, hf, Addr.add_lit, hst]
      refine ⟨_, _, hr, .inr ⟨g, off, cap, _, by rw [List.length_append, sl_len], hbg, setRow_heap w g cur _ e _ hg, by rw [List.length_append, sl_len]; exact hroom, hcm, ?_, ?_⟩, ⟨rfl, rfl, rfl, by simp, fun k _ hk => setRow_other w g k _ (fun e => hk (by simp [Value.ownBlock, e]))⟩⟩
      · simp only [List.size_toArray, List.length_append, List.length_take, List.length_drop, Array.length_toList, Lib.strCells_length]
        omega
      · have h1 : (cur.toList.take (off + l.length)).length = off + l.length := by
          rw [List.length_take, show cur.toList.length = cur.size from Array.length_toList]
          exact Nat.min_eq_left (by rw [hcs]; exact Nat.add_le_add_left hnc _)
        simp only [List.append_assoc]
        rw [List.drop_append_of_le_length (l₁ := cur.toList.take (off + l.length)) (by rw [h1]; omega), List.drop_take, show off + l.length - off = l.length by omega, htake, hsc, ← List.append_assoc, ← List.map_append, List.take_left' (by rw [List.length_map])]
    · have holds : ∀ j u, (l.map bv)[j]? = some u → w.cell? ((⟨g, off, none⟩ : Addr).add j) = some u := by
        intro j u hj
        rw [List.getElem?_map] at hj
        cases hc : l[j]? with
        | none => rw [hc] at hj; cases hj
        | some c =>
          rw [hc] at hj
          cases hj
          rw [Addr.add_lit]
          exact OwnB.cells (.inr ⟨g, off, cap, cur, rfl, hbg, hg, hnc, hcm, hcs, htake⟩ : OwnB w base e _ l) j c hc
      have hr := Lib.run_append_grow_string (P := P) w t u ty e i (.int .u8 0) ht hu hi hz ⟨g, off, none⟩ l.length cap (l.map bv) (by rw [hsize]; simp) holds s (by omega) (by omega) (by rw [hby]; exact growslice_fits (by omega) (by omega))
      have hge := grownCap_ge w (l.length + s.size) cap e
      have hcm' : grownCap w (l.length + s.size) cap e ≤ maxLen := grownCap_le_maxLen w (l.length + s.size) cap e (by simp only [maxLen]; omega)
      refine ⟨_, _, hr, .inr ⟨w.heap.size, 0, _, _, by rw [List.length_append, sl_len], hbase, heap_alloc_new w.drew _, by rw [List.length_append, sl_len]; exact hge, by omega, ?_, ?_⟩, ⟨rfl, rfl, rfl, by simp, fun k hk _ => Below.heap_alloc w.drew _ k hk⟩⟩
      · have hz1 : (Value.int IntKind.u8 0).cells.size = 1 := rfl
        simp only [Array.size_append, List.size_toArray, size_zeroCells, hz1, Lib.strCells_length, List.length_map]
        omega
      · simp only [Array.toList_append, List.append_assoc, List.drop_zero]
        rw [← List.append_assoc, hsc, ← List.map_append, List.take_left' (by rw [List.length_map])]
theorem wpList_append_text_off {ops : Array Oper} {rest : List Oper} {o : Oper} {a : Act} {Q : Exit → Act → World → Prop} (hgd : o.guard = none) (x y : Operand) (t u : TypeId)
    (ho : o.op = .call { callee := .builtin .append, args := #[x, y], argTypes := #[t, u] })
    (base : Nat) (e : TypeId) (ht : P.underlying t = some (.slice e)) (hu : P.underlying u = some .string) (hi : ElemInfo P e (.int .u8 0) 1 1)
    (v : Value) (l : List UInt8) (hs : a.eval x = v) (hown : OwnB w base e v l) (s : ByteArray) (hx : a.eval y = .string s)
    (hb : l.length + s.size ≤ 140737488355328) (hbase : base ≤ w.heap.size)
    (h : ∀ v' w', OwnB w' base e v' (l ++ sl s) → w.grownBy w' v.ownBlock → wpList P ops Q rest (a.put o.dst v') w') : wpList P ops Q (o :: rest) a w := by
  refine wpList_plain hgd fun K hK => ?_
  obtain ⟨v', w', hr, h2, h3⟩ := run_append_text_off (P := P) t u o.type ht hu hi hown s hb hbase
  unfold Oper.wp execOp
  simp only [ho, resolve, invoke, builtin, Sem.run_bind, Sem.run_pure, Result.andThen_ok, List.map_toArray, List.map_cons, List.map_nil, hs, hx, hr]
  exact hK _ _ (h v' w' h2 h3)
end
def setsW (w : World) (p : Nat) : Nat → List Value → World
  | _, [] => w
  | i, x :: xs => setsW (w.setCell ⟨p, i, none⟩ x) p (i + 1) xs
theorem OwnB.ne_blk {w : World} {base g : Nat} {e t : TypeId} {v : Value} {l : List UInt8} {cs : Array Value} (h : OwnB w base e v l) (hb : Blk w g t cs) (he : e ≠ t) : v.ownBlock = none ∨ v.ownBlock ≠ some g := by
  rcases h with ⟨rfl, _⟩ | ⟨g', off, cap, cur, rfl, _, hh, _⟩
  · exact .inl rfl
  · refine .inr fun e' => ?_
    simp only [Value.ownBlock, Option.some.injEq] at e'
    subst e'
    unfold Blk at hb
    rw [hh] at hb
    injection hb with hb
    injection hb with _ h2
    exact he h2
theorem OwnB.set_ {w : World} {base g : Nat} {e t : TypeId} {v : Value} {l : List UInt8} {cs : Array Value} (h : OwnB w base e v l) (hb : Blk w g t cs) (he : e ≠ t) (i : Nat) (u : Value) : OwnB (w.setCell ⟨g, i, none⟩ u) base e v l :=
  h.kept (row := some g) ⟨rfl, rfl, rfl, by simp [World.setCell], fun k _ hne => Below.heap_setCell _ _ _ _ (fun e => hne (by rw [e]))⟩ (h.ne_blk hb he)
theorem OwnB.sets {base g : Nat} {e t : TypeId} {v : Value} {l : List UInt8} (he : e ≠ t) : ∀ (xs : List Value) (i : Nat) (w : World) (cs : Array Value), Blk w g t cs → OwnB w base e v l → OwnB (setsW w g i xs) base e v l
  | [], _, _, _, _, h => h
  | x :: xs, i, w, cs, hb, h => OwnB.sets he xs (i + 1) _ _ (hb.set_ i x) (h.set_ hb he i x)
theorem below_sets {B g : Nat} {a : World} (hB : B ≤ g) : ∀ (xs : List Value) (i : Nat) (w : World), Below B a w → Below B a (setsW w g i xs)
  | [], _, _, h => h
  | x :: xs, i, _, h => below_sets hB xs (i + 1) _ (h.setCell (p := ⟨g, i, none⟩) hB x)
end Go.Proofs.YtgjfhgcjiglfkaaGreatDoor
