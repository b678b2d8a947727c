/- What span's want answers for the text of a want. -/
import Derived.Test.YthhhlaoiampinaaDoorSpcA
import Derived.Test.YthhhlaoiampinaaDoorSpanA
import Derived.Test.YthhhlaoiampinaaDoorSpcC
import Derived.Test.YthhhlaoiampinaaDoorTrim
namespace Go.Proofs.YthhhlaoiampinaaDoor
open Go.RowKit
set_option maxRecDepth 20000
namespace Spw
open Spc
def numL (a : Int) : List UInt8 := if a < 0 then [] else Lib.itoa a
/-- The text of a want. -/
def wL (a b : Int) : List UInt8 := numL a ++ 45 :: numL b
theorem nB_eq (n : Int) : nB n = Spn.numB n := rfl
theorem number_ok {v : Int} (h : nB v = true) (w : World) (he : Bd.HasErr w) :
    Calls Tryd.prog 37 #[.string (mkS (Lib.itoa v))] w fun e w' => e = .returned (.tuple #[.int .i64 v, .bool true]) ∧ Below w.heap.size w w' := by
  refine (numberC_any (mkS (Lib.itoa v)) w (by rw [mkS_size]; have := itoa_len h; omega) he).mono fun e w' ⟨⟨u, b, h0, hp⟩, hb⟩ => ⟨?_, hb⟩
  rw [sl_mkS] at hp
  rcases hp with ⟨rfl, h1, h2⟩ | ⟨_, h2⟩
  · rw [itoa_inj h1 h h2] at h0; exact h0
  · exact absurd rfl (h2 v h)
theorem wL_cut {a b : Int} (h : Spn.wantB (a, b) = true) : cutC 45 (wL a b) = some (numL a, numL b) := by
  refine cutC_some rfl ?_
  unfold numL
  split
  · simp
  · rename_i h0
    obtain ⟨h1, h2, _⟩ := Spn.wantB_bounds h
    exact not_in (by unfold nB; simp; omega) (by decide)
theorem want_nums {a b : Int} (h : Spn.wantB (a, b) = true) : (a = -1 ∧ nB b = true) ∨ (nB a = true ∧ b = -1) ∨ (nB a = true ∧ nB b = true) := by
  have hb := Spn.wantB_bounds h
  unfold Spn.wantB at h
  dsimp only at h hb
  split at h
  · rename_i h1; exact .inl ⟨by simpa using h1, h⟩
  · split at h
    · rename_i h1; exact .inr (.inl ⟨h, by simpa using h1⟩)
    · simp only [Bool.and_eq_true] at h; exact .inr (.inr ⟨h.1.1, h.1.2⟩)
theorem cut_want {a b : Int} (h : Spn.wantB (a, b) = true) (hz : (mkS (wL a b)).size ≤ 140737488351232) (w : World) :
    Calls Tryd.prog 21 #[.string (mkS (wL a b)), .string ⟨#[45]⟩] w fun e w' => e = .returned (.tuple #[.string (mkS (numL a)), .string (mkS (numL b)), .bool true]) ∧ Below w.heap.size w w' := by
  refine (cutS_any (mkS (wL a b)) 45 w hz).mono fun e w' ⟨⟨l, r, q, h0, h1, _, _⟩, hb⟩ => ⟨?_, hb⟩
  unfold CutS at h1
  rw [sl_mkS, wL_cut h] at h1
  rcases h1 with ⟨rfl, h1⟩ | ⟨_, h1⟩
  · injection h1 with h1
    injection h1 with e1 e2
    rw [h0, e1, e2, mkS_sl, mkS_sl]
  · cases h1
theorem itoa_ne (v : Int) (h : nB v = true) : Lib.itoa v ≠ [] := by
  obtain ⟨h0, _⟩ := nB_bounds h
  unfold Lib.itoa
  rw [if_neg (by omega)]
  exact dec_ne _
theorem numL_size {v : Int} (h : nB v = true ∨ v = -1) : (mkS (numL v)).size ≤ 5 := by
  rw [mkS_size]
  unfold numL
  rcases h with h | rfl
  · rw [if_neg (by have := nB_bounds h; omega)]; exact itoa_len h
  · simp
theorem numL_full {v : Int} (h : nB v = true) : numL v = Lib.itoa v := by unfold numL; rw [if_neg (by have := nB_bounds h; omega)]
theorem full_no {v : Int} (h : nB v = true) : (mkS (numL v)).toList.isEmpty = false := by
  rw [ba_toList, sl_mkS, numL_full h]
  have := itoa_ne v h
  cases hl : Lib.itoa v with
  | nil => exact absurd hl this
  | cons _ _ => rfl
theorem app_no {x y : ByteArray} (h : x.toList.isEmpty = false ∨ y.toList.isEmpty = false) : (x ++ y).toList.isEmpty = false := by
  rw [ba_toList] at h ⊢
  rw [ba_toList y] at h
  rw [sl_append]
  cases hx : sl x with
  | cons c l => rfl
  | nil =>
    rw [hx] at h
    rcases h with h | h
    · cases h
    · exact h
theorem results_ct {fn : Func} {p u : Tmp} {ty : TypeId} (h : fn.results = #[.cell p ty, .tmp u]) (tmps : Array Value) (P : Program) (w : World) (g : Nat) (t : TypeId) (cs : Array Value) (fr : Nat × Nat) (fs : Array Field)
    (hp : tmps.getD p undef = .pointer (some ⟨g, 0, none⟩)) (hg : w.heap[g]? = some (.cells cs t fr))
    (hu : P.underlying ty = some (.struct fs)) (hi : (P.info? ty).map (·.size) = some cs.size) :
    (results fn tmps).run P w = .ok (.tuple #[.agg cs, tmps.getD u undef]) w := by
  have hp' : tmps[p]?.getD undef = .pointer (some ⟨g, 0, none⟩) := by simpa using hp
  simp [results, h, hp', asAddr, run_loadVar_row w g t ty cs fr (.struct fs) hg hu rfl hi]
theorem setRow_far {w : World} {g k : Nat} {t : TypeId} {cs ds : Array Value} (h : Blk w k t cs) (hn : g ≠ k) : Blk (w.setRow g ds) k t cs := (setRow_other _ _ _ _ (Ne.symm hn)).trans h
set_option maxHeartbeats 2000000 in
theorem want_ok (s : ByteArray) (a b : Int) (w : World) (hs : s.size ≤ 140737488351232) (ht : Tok.trimL (sl s) = wL a b) (h : Spn.wantB (a, b) = true) (he : Bd.HasErr w) :
    Calls Tryd.prog 28 #[.string s] w fun e w' => e = .returned (.tuple #[.agg #[.int .i64 a, .int .i64 b], .bool true]) ∧ Below w.heap.size w w' := by
  have HE := Lib.hid (fun w' (hb : Below w.heap.size w w') => he.below hb)
  have HTr := Lib.hid (fun w' => strTrim_any s w' hs)
  rw [ht] at HTr
  have hn := want_nums h
  have z1 : (mkS (numL a)).size ≤ 5 := numL_size (by rcases hn with ⟨h, _⟩ | ⟨h, _⟩ | ⟨h, _⟩ <;> simp [h])
  have z2 : (mkS (numL b)).size ≤ 5 := numL_size (by rcases hn with ⟨_, h⟩ | ⟨_, h⟩ | ⟨_, h⟩ <;> simp [h])
  have HCt := Lib.hid (cut_want h (by rw [mkS_size] at z1 z2 ⊢; unfold wL; simp only [List.length_append, List.length_cons]; omega))
  have HW := Lib.hid (fun w' => isWant_any a b w')
  rw [h] at HW
  have b0 : Below w.heap.size w (w.alloc (.cells #[.int .i64 0, .int .i64 0] 40)) := (Below.refl _ w).alloc (Nat.le_refl _) _
  clear he ht h hs
  generalize mkS (wL a b) = T at *
  rcases hn with ⟨rfl, hb⟩ | ⟨ha, rfl⟩ | ⟨ha, hb⟩
  · have HN := Lib.hid (fun w' h => number_ok hb w' (HE.out w' h))
    rw [← numL_full hb] at HN
    have e2 := full_no hb
    have e1 : (mkS (numL (-1))).toList.isEmpty = true := by rw [ba_toList, sl_mkS]; rfl
    have e3 := app_no (.inr e2 : (mkS (numL (-1))).toList.isEmpty = false ∨ _)
    generalize mkS (numL (-1)) = F at *
    generalize mkS (numL b) = L at *
    clear hb
    go_enter Tryd.func28, Tryd.ntmps28
    go_wp2_with fail
    refine (HTr.out _).mono ?_
    rintro e w1 ⟨rfl, b1⟩
    have B1 := belT b0 b1
    go_wp2_with fail
    refine (HCt.out _).mono ?_
    rintro e w2 ⟨rfl, b2⟩
    have B2 := belT B1 b2
    have hlo : w.heap.size < w2.heap.size := by have h1 := b1.size; have h2 := b2.size; simp at h1; omega
    have hR2 : Blk w2 w.heap.size 40 #[.int .i64 0, .int .i64 0] := (Blk.new w _ _).below (belT b1 b2) (by simp)
    have hA2 := Blk.new w2 40 #[.int .i64 (-1), .int .i64 (-1)]
    have hR3 := hR2.alloc (.cells #[.int .i64 (-1), .int .i64 (-1)] 40)
    have BB := B2.alloc B2.size (.cells #[.int .i64 (-1), .int .i64 (-1)] 40)
    go_wp2_with fail
    refine (HN.out _ BB).mono ?_
    rintro e w3 ⟨rfl, b3⟩
    have hA3 := hA2.below b3 hA2.lt
    have hR3' := hR3.below b3 hR3.lt
    have B3 := belT BB b3
    have c0 := hA3.cell 0
    have c1 := hA3.cell 1
    have f1 := hA3.frozen 1
    have hlt : w2.heap.size < w3.heap.size := hA3.lt
    go_wp2_with fail
    have hA3s : Blk (w3.setCell ⟨w2.heap.size, 1, none⟩ (.int .i64 b)) w2.heap.size 40 #[.int .i64 (-1), .int .i64 b] := hA3.set_ 1 (.int .i64 b)
    have hR3s := hR3'.far (p := ⟨w2.heap.size, 1, none⟩) (Nat.ne_of_lt hlo) (.int .i64 b)
    have B3s := B3.setCell (p := ⟨w2.heap.size, 1, none⟩) (Nat.le_of_lt hlo) (.int .i64 b)
    clear c0 c1 f1 hA3 hR3' hlt
    generalize w3.setCell ⟨w2.heap.size, 1, none⟩ (.int .i64 b) = v3 at *
    have c0 := hA3s.cell 0
    have c1 := hA3s.cell 1
    refine wp_region_seq [(true, 0), (true, 1), (true, 2), (true, 3), (false, 4), (true, 5), (false, 6), (true, 7)] (fun w' => Blk w' w2.heap.size 40 #[.int .i64 (-1), .int .i64 b] ∧ (∃ cs : Array Value, cs.size = 2 ∧ Blk w' w.heap.size 40 cs) ∧ Below w.heap.size w w') (by kernel_rfl) (by kernel_rfl) (fun _ _ _ _ _ h => h) (by kernel_rfl) (by kernel_rfl) ?_ ?_
    · exact ⟨hA3s, ⟨_, rfl, hR3s⟩, B3s.drew⟩
    iterate 4 (first | (apply seqH_skip; (focus (simp only [List.getElem?_toArray, List.getElem?_cons_succ, List.getElem?_cons_zero]; rfl)); (focus rfl); simp only [Act.put, List.setIfInBounds_toArray, List.set_cons_zero, List.set_cons_succ]) | (apply seqH_take; (focus (simp only [List.getElem?_toArray, List.getElem?_cons_succ, List.getElem?_cons_zero]; rfl)); (focus rfl); (focus (intro w' hS; obtain ⟨kA, kR, kb⟩ := hS; have k0 := kA.cell 0; have k1 := kA.cell 1; first | (go_simp; rfl) | (go_simp; done))); simp only [Act.put, List.setIfInBounds_toArray, List.set_cons_zero, List.set_cons_succ]) | (apply seqH_pass; (focus (simp only [List.getElem?_toArray, List.getElem?_cons_succ, List.getElem?_cons_zero]; rfl)); (focus rfl); (focus assumption); simp only [Act.put, List.setIfInBounds_toArray, List.set_cons_zero, List.set_cons_succ]))
    apply seqH_eff
    (focus (simp only [List.getElem?_toArray, List.getElem?_cons_succ, List.getElem?_cons_zero]; rfl))
    (focus rfl)
    intro K hK
    go_simp
    refine (HW.out _).mono ?_
    rintro e w5 ⟨rfl, b5⟩
    have kA := hA3s.drew.below b5 hA3s.lt
    have kR := hR3s.drew.below b5 hR3s.lt
    refine hK _ _ ⟨⟨kA, ⟨_, rfl, kR⟩, belT B3s.drew b5⟩, ?_⟩
    clear hK K
    iterate 1 (first | (apply seqH_skip; (focus (simp only [List.getElem?_toArray, List.getElem?_cons_succ, List.getElem?_cons_zero]; rfl)); (focus rfl); simp only [Act.put, List.setIfInBounds_toArray, List.set_cons_zero, List.set_cons_succ]) | (apply seqH_take; (focus (simp only [List.getElem?_toArray, List.getElem?_cons_succ, List.getElem?_cons_zero]; rfl)); (focus rfl); (focus (intro w' hS; skip; first | (go_simp; rfl) | (go_simp; done))); simp only [Act.put, List.setIfInBounds_toArray, List.set_cons_zero, List.set_cons_succ]) | (apply seqH_pass; (focus (simp only [List.getElem?_toArray, List.getElem?_cons_succ, List.getElem?_cons_zero]; rfl)); (focus rfl); (focus assumption); simp only [Act.put, List.setIfInBounds_toArray, List.set_cons_zero, List.set_cons_succ]))
    apply seqH_eff
    (focus (simp only [List.getElem?_toArray, List.getElem?_cons_succ, List.getElem?_cons_zero]; rfl))
    (focus rfl)
    intro K hK
    refine wp_store_row _ _ _ rfl w.heap.size #[.int .i64 (-1), .int .i64 b] rfl rfl 40 #[.int .i64 0, .int .i64 0] kR (by kernel_rfl) (by kernel_rfl) (by kernel_rfl) ?_
    refine hK _ _ ⟨⟨setRow_far kA (Nat.ne_of_lt hlo), ⟨_, rfl, setRow_heap _ _ _ _ _ _ kR⟩, below_setRowC (belT B3s.drew b5) (Nat.le_refl _) _⟩, ?_⟩
    clear hK K
    iterate 1 (first | (apply seqH_skip; (focus (simp only [List.getElem?_toArray, List.getElem?_cons_succ, List.getElem?_cons_zero]; rfl)); (focus rfl); simp only [Act.put, List.setIfInBounds_toArray, List.set_cons_zero, List.set_cons_succ]) | (apply seqH_take; (focus (simp only [List.getElem?_toArray, List.getElem?_cons_succ, List.getElem?_cons_zero]; rfl)); (focus rfl); (focus (intro w' hS; skip; first | (go_simp; rfl) | (go_simp; done))); simp only [Act.put, List.setIfInBounds_toArray, List.set_cons_zero, List.set_cons_succ]) | (apply seqH_pass; (focus (simp only [List.getElem?_toArray, List.getElem?_cons_succ, List.getElem?_cons_zero]; rfl)); (focus rfl); (focus assumption); simp only [Act.put, List.setIfInBounds_toArray, List.set_cons_zero, List.set_cons_succ]))
    refine seqH_nil ?_
    go_wp2_with fail
    exact bodyPost_ret (results_ct rfl _ _ _ w.heap.size 40 #[.int .i64 (-1), .int .i64 b] (0, 0) _ rfl (setRow_heap _ _ _ _ _ _ kR) Tryd.underlying40 (by kernel_rfl)) rfl ⟨rfl, below_setRowC (belT B3s.drew b5) (Nat.le_refl _) _⟩
  · have HN := Lib.hid (fun w' h => number_ok ha w' (HE.out w' h))
    rw [← numL_full ha] at HN
    have e1 := full_no ha
    have e2 : (mkS (numL (-1))).toList.isEmpty = true := by rw [ba_toList, sl_mkS]; rfl
    have e3 := app_no (.inl e1 : _ ∨ (mkS (numL (-1))).toList.isEmpty = false)
    generalize mkS (numL (-1)) = L at *
    generalize mkS (numL a) = F at *
    clear ha
    go_enter Tryd.func28, Tryd.ntmps28
    go_wp2_with fail
    refine (HTr.out _).mono ?_
    rintro e w1 ⟨rfl, b1⟩
    have B1 := belT b0 b1
    go_wp2_with fail
    refine (HCt.out _).mono ?_
    rintro e w2 ⟨rfl, b2⟩
    have B2 := belT B1 b2
    have hlo : w.heap.size < w2.heap.size := by have h1 := b1.size; have h2 := b2.size; simp at h1; omega
    have hR2 : Blk w2 w.heap.size 40 #[.int .i64 0, .int .i64 0] := (Blk.new w _ _).below (belT b1 b2) (by simp)
    have hA2 := Blk.new w2 40 #[.int .i64 (-1), .int .i64 (-1)]
    have hR3 := hR2.alloc (.cells #[.int .i64 (-1), .int .i64 (-1)] 40)
    have BB := B2.alloc B2.size (.cells #[.int .i64 (-1), .int .i64 (-1)] 40)
    go_wp2_with fail
    refine (HN.out _ BB).mono ?_
    rintro e w3 ⟨rfl, b3⟩
    have hA3 := hA2.below b3 hA2.lt
    have hR3' := hR3.below b3 hR3.lt
    have B3 := belT BB b3
    have c0 := hA3.cell 0
    have c1 := hA3.cell 1
    have f0 := hA3.frozen 0
    have hlt : w2.heap.size < w3.heap.size := hA3.lt
    go_wp2_with fail
    have hA3s : Blk (w3.setCell ⟨w2.heap.size, 0, none⟩ (.int .i64 a)) w2.heap.size 40 #[.int .i64 a, .int .i64 (-1)] := hA3.set_ 0 (.int .i64 a)
    have hR3s := hR3'.far (p := ⟨w2.heap.size, 0, none⟩) (Nat.ne_of_lt hlo) (.int .i64 a)
    have B3s := B3.setCell (p := ⟨w2.heap.size, 0, none⟩) (Nat.le_of_lt hlo) (.int .i64 a)
    clear c0 c1 f0 hA3 hR3' hlt
    generalize w3.setCell ⟨w2.heap.size, 0, none⟩ (.int .i64 a) = v3 at *
    have c0 := hA3s.cell 0
    have c1 := hA3s.cell 1
    refine wp_region_seq [(true, 0), (true, 1), (true, 2), (true, 3), (false, 4), (true, 5), (false, 6), (true, 7)] (fun w' => Blk w' w2.heap.size 40 #[.int .i64 a, .int .i64 (-1)] ∧ (∃ cs : Array Value, cs.size = 2 ∧ Blk w' w.heap.size 40 cs) ∧ Below w.heap.size w w') (by kernel_rfl) (by kernel_rfl) (fun _ _ _ _ _ h => h) (by kernel_rfl) (by kernel_rfl) ?_ ?_
    · exact ⟨hA3s, ⟨_, rfl, hR3s⟩, B3s.drew⟩
    iterate 4 (first | (apply seqH_skip; (focus (simp only [List.getElem?_toArray, List.getElem?_cons_succ, List.getElem?_cons_zero]; rfl)); (focus rfl); simp only [Act.put, List.setIfInBounds_toArray, List.set_cons_zero, List.set_cons_succ]) | (apply seqH_take; (focus (simp only [List.getElem?_toArray, List.getElem?_cons_succ, List.getElem?_cons_zero]; rfl)); (focus rfl); (focus (intro w' hS; obtain ⟨kA, kR, kb⟩ := hS; have k0 := kA.cell 0; have k1 := kA.cell 1; first | (go_simp; rfl) | (go_simp; done))); simp only [Act.put, List.setIfInBounds_toArray, List.set_cons_zero, List.set_cons_succ]) | (apply seqH_pass; (focus (simp only [List.getElem?_toArray, List.getElem?_cons_succ, List.getElem?_cons_zero]; rfl)); (focus rfl); (focus assumption); simp only [Act.put, List.setIfInBounds_toArray, List.set_cons_zero, List.set_cons_succ]))
    apply seqH_eff
    (focus (simp only [List.getElem?_toArray, List.getElem?_cons_succ, List.getElem?_cons_zero]; rfl))
    (focus rfl)
    intro K hK
    go_simp
    refine (HW.out _).mono ?_
    rintro e w5 ⟨rfl, b5⟩
    have kA := hA3s.drew.below b5 hA3s.lt
    have kR := hR3s.drew.below b5 hR3s.lt
    refine hK _ _ ⟨⟨kA, ⟨_, rfl, kR⟩, belT B3s.drew b5⟩, ?_⟩
    clear hK K
    iterate 1 (first | (apply seqH_skip; (focus (simp only [List.getElem?_toArray, List.getElem?_cons_succ, List.getElem?_cons_zero]; rfl)); (focus rfl); simp only [Act.put, List.setIfInBounds_toArray, List.set_cons_zero, List.set_cons_succ]) | (apply seqH_take; (focus (simp only [List.getElem?_toArray, List.getElem?_cons_succ, List.getElem?_cons_zero]; rfl)); (focus rfl); (focus (intro w' hS; skip; first | (go_simp; rfl) | (go_simp; done))); simp only [Act.put, List.setIfInBounds_toArray, List.set_cons_zero, List.set_cons_succ]) | (apply seqH_pass; (focus (simp only [List.getElem?_toArray, List.getElem?_cons_succ, List.getElem?_cons_zero]; rfl)); (focus rfl); (focus assumption); simp only [Act.put, List.setIfInBounds_toArray, List.set_cons_zero, List.set_cons_succ]))
    apply seqH_eff
    (focus (simp only [List.getElem?_toArray, List.getElem?_cons_succ, List.getElem?_cons_zero]; rfl))
    (focus rfl)
    intro K hK
    refine wp_store_row _ _ _ rfl w.heap.size #[.int .i64 a, .int .i64 (-1)] rfl rfl 40 #[.int .i64 0, .int .i64 0] kR (by kernel_rfl) (by kernel_rfl) (by kernel_rfl) ?_
    refine hK _ _ ⟨⟨setRow_far kA (Nat.ne_of_lt hlo), ⟨_, rfl, setRow_heap _ _ _ _ _ _ kR⟩, below_setRowC (belT B3s.drew b5) (Nat.le_refl _) _⟩, ?_⟩
    clear hK K
    iterate 1 (first | (apply seqH_skip; (focus (simp only [List.getElem?_toArray, List.getElem?_cons_succ, List.getElem?_cons_zero]; rfl)); (focus rfl); simp only [Act.put, List.setIfInBounds_toArray, List.set_cons_zero, List.set_cons_succ]) | (apply seqH_take; (focus (simp only [List.getElem?_toArray, List.getElem?_cons_succ, List.getElem?_cons_zero]; rfl)); (focus rfl); (focus (intro w' hS; skip; first | (go_simp; rfl) | (go_simp; done))); simp only [Act.put, List.setIfInBounds_toArray, List.set_cons_zero, List.set_cons_succ]) | (apply seqH_pass; (focus (simp only [List.getElem?_toArray, List.getElem?_cons_succ, List.getElem?_cons_zero]; rfl)); (focus rfl); (focus assumption); simp only [Act.put, List.setIfInBounds_toArray, List.set_cons_zero, List.set_cons_succ]))
    refine seqH_nil ?_
    go_wp2_with fail
    exact bodyPost_ret (results_ct rfl _ _ _ w.heap.size 40 #[.int .i64 a, .int .i64 (-1)] (0, 0) _ rfl (setRow_heap _ _ _ _ _ _ kR) Tryd.underlying40 (by kernel_rfl)) rfl ⟨rfl, below_setRowC (belT B3s.drew b5) (Nat.le_refl _) _⟩
  · have HN := Lib.hid (fun w' h => number_ok ha w' (HE.out w' h))
    have HM := Lib.hid (fun w' h => number_ok hb w' (HE.out w' h))
    rw [← numL_full ha] at HN
    rw [← numL_full hb] at HM
    have e1 := full_no ha
    have e2 := full_no hb
    have e3 := app_no (.inl e1 : _ ∨ (mkS (numL b)).toList.isEmpty = false)
    generalize mkS (numL b) = L at *
    generalize mkS (numL a) = F at *
    clear ha hb
    go_enter Tryd.func28, Tryd.ntmps28
    go_wp2_with fail
    refine (HTr.out _).mono ?_
    rintro e w1 ⟨rfl, b1⟩
    have B1 := belT b0 b1
    go_wp2_with fail
    refine (HCt.out _).mono ?_
    rintro e w2 ⟨rfl, b2⟩
    have B2 := belT B1 b2
    have hlo : w.heap.size < w2.heap.size := by have h1 := b1.size; have h2 := b2.size; simp at h1; omega
    have hR2 : Blk w2 w.heap.size 40 #[.int .i64 0, .int .i64 0] := (Blk.new w _ _).below (belT b1 b2) (by simp)
    have hA2 := Blk.new w2 40 #[.int .i64 (-1), .int .i64 (-1)]
    have hR3 := hR2.alloc (.cells #[.int .i64 (-1), .int .i64 (-1)] 40)
    have BB := B2.alloc B2.size (.cells #[.int .i64 (-1), .int .i64 (-1)] 40)
    go_wp2_with fail
    refine (HN.out _ BB).mono ?_
    rintro e w3 ⟨rfl, b3⟩
    have hA3 := hA2.below b3 hA2.lt
    have hR3' := hR3.below b3 hR3.lt
    have B3 := belT BB b3
    have c0 := hA3.cell 0
    have c1 := hA3.cell 1
    have f0 := hA3.frozen 0
    have hlt : w2.heap.size < w3.heap.size := hA3.lt
    go_wp2_with fail
    have hA3s : Blk (w3.setCell ⟨w2.heap.size, 0, none⟩ (.int .i64 a)) w2.heap.size 40 #[.int .i64 a, .int .i64 (-1)] := hA3.set_ 0 (.int .i64 a)
    have hR3s := hR3'.far (p := ⟨w2.heap.size, 0, none⟩) (Nat.ne_of_lt hlo) (.int .i64 a)
    have B3s := B3.setCell (p := ⟨w2.heap.size, 0, none⟩) (Nat.le_of_lt hlo) (.int .i64 a)
    clear c0 c1 f0 hA3 hR3' hlt
    generalize w3.setCell ⟨w2.heap.size, 0, none⟩ (.int .i64 a) = v3 at *
    go_wp2_with fail
    refine (HM.out _ B3s).mono ?_
    rintro e w4 ⟨rfl, b4⟩
    have hA4 := hA3s.below b4 hA3s.lt
    have hR4' := hR3s.below b4 hR3s.lt
    have B4 := belT B3s b4
    have c0 := hA4.cell 0
    have c1 := hA4.cell 1
    have f1 := hA4.frozen 1
    have hlt : w2.heap.size < w4.heap.size := hA4.lt
    go_wp2_with fail
    have hA4s : Blk (w4.setCell ⟨w2.heap.size, 1, none⟩ (.int .i64 b)) w2.heap.size 40 #[.int .i64 a, .int .i64 b] := hA4.set_ 1 (.int .i64 b)
    have hR4s := hR4'.far (p := ⟨w2.heap.size, 1, none⟩) (Nat.ne_of_lt hlo) (.int .i64 b)
    have B4s := B4.setCell (p := ⟨w2.heap.size, 1, none⟩) (Nat.le_of_lt hlo) (.int .i64 b)
    clear c0 c1 f1 hA4 hR4' hlt
    generalize w4.setCell ⟨w2.heap.size, 1, none⟩ (.int .i64 b) = v4 at *
    have c0 := hA4s.cell 0
    have c1 := hA4s.cell 1
    refine wp_region_seq [(true, 0), (true, 1), (true, 2), (true, 3), (false, 4), (true, 5), (false, 6), (true, 7)] (fun w' => Blk w' w2.heap.size 40 #[.int .i64 a, .int .i64 b] ∧ (∃ cs : Array Value, cs.size = 2 ∧ Blk w' w.heap.size 40 cs) ∧ Below w.heap.size w w') (by kernel_rfl) (by kernel_rfl) (fun _ _ _ _ _ h => h) (by kernel_rfl) (by kernel_rfl) ?_ ?_
    · exact ⟨hA4s, ⟨_, rfl, hR4s⟩, B4s.drew⟩
    iterate 4 (first | (apply seqH_skip; (focus (simp only [List.getElem?_toArray, List.getElem?_cons_succ, List.getElem?_cons_zero]; rfl)); (focus rfl); simp only [Act.put, List.setIfInBounds_toArray, List.set_cons_zero, List.set_cons_succ]) | (apply seqH_take; (focus (simp only [List.getElem?_toArray, List.getElem?_cons_succ, List.getElem?_cons_zero]; rfl)); (focus rfl); (focus (intro w' hS; obtain ⟨kA, kR, kb⟩ := hS; have k0 := kA.cell 0; have k1 := kA.cell 1; first | (go_simp; rfl) | (go_simp; done))); simp only [Act.put, List.setIfInBounds_toArray, List.set_cons_zero, List.set_cons_succ]) | (apply seqH_pass; (focus (simp only [List.getElem?_toArray, List.getElem?_cons_succ, List.getElem?_cons_zero]; rfl)); (focus rfl); (focus assumption); simp only [Act.put, List.setIfInBounds_toArray, List.set_cons_zero, List.set_cons_succ]))
    apply seqH_eff
    (focus (simp only [List.getElem?_toArray, List.getElem?_cons_succ, List.getElem?_cons_zero]; rfl))
    (focus rfl)
    intro K hK
    go_simp
    refine (HW.out _).mono ?_
    rintro e w5 ⟨rfl, b5⟩
    have kA := hA4s.drew.below b5 hA4s.lt
    have kR := hR4s.drew.below b5 hR4s.lt
    refine hK _ _ ⟨⟨kA, ⟨_, rfl, kR⟩, belT B4s.drew b5⟩, ?_⟩
    clear hK K
    iterate 1 (first | (apply seqH_skip; (focus (simp only [List.getElem?_toArray, List.getElem?_cons_succ, List.getElem?_cons_zero]; rfl)); (focus rfl); simp only [Act.put, List.setIfInBounds_toArray, List.set_cons_zero, List.set_cons_succ]) | (apply seqH_take; (focus (simp only [List.getElem?_toArray, List.getElem?_cons_succ, List.getElem?_cons_zero]; rfl)); (focus rfl); (focus (intro w' hS; skip; first | (go_simp; rfl) | (go_simp; done))); simp only [Act.put, List.setIfInBounds_toArray, List.set_cons_zero, List.set_cons_succ]) | (apply seqH_pass; (focus (simp only [List.getElem?_toArray, List.getElem?_cons_succ, List.getElem?_cons_zero]; rfl)); (focus rfl); (focus assumption); simp only [Act.put, List.setIfInBounds_toArray, List.set_cons_zero, List.set_cons_succ]))
    apply seqH_eff
    (focus (simp only [List.getElem?_toArray, List.getElem?_cons_succ, List.getElem?_cons_zero]; rfl))
    (focus rfl)
    intro K hK
    refine wp_store_row _ _ _ rfl w.heap.size #[.int .i64 a, .int .i64 b] rfl rfl 40 #[.int .i64 0, .int .i64 0] kR (by kernel_rfl) (by kernel_rfl) (by kernel_rfl) ?_
    refine hK _ _ ⟨⟨setRow_far kA (Nat.ne_of_lt hlo), ⟨_, rfl, setRow_heap _ _ _ _ _ _ kR⟩, below_setRowC (belT B4s.drew b5) (Nat.le_refl _) _⟩, ?_⟩
    clear hK K
    iterate 1 (first | (apply seqH_skip; (focus (simp only [List.getElem?_toArray, List.getElem?_cons_succ, List.getElem?_cons_zero]; rfl)); (focus rfl); simp only [Act.put, List.setIfInBounds_toArray, List.set_cons_zero, List.set_cons_succ]) | (apply seqH_take; (focus (simp only [List.getElem?_toArray, List.getElem?_cons_succ, List.getElem?_cons_zero]; rfl)); (focus rfl); (focus (intro w' hS; skip; first | (go_simp; rfl) | (go_simp; done))); simp only [Act.put, List.setIfInBounds_toArray, List.set_cons_zero, List.set_cons_succ]) | (apply seqH_pass; (focus (simp only [List.getElem?_toArray, List.getElem?_cons_succ, List.getElem?_cons_zero]; rfl)); (focus rfl); (focus assumption); simp only [Act.put, List.setIfInBounds_toArray, List.set_cons_zero, List.set_cons_succ]))
    refine seqH_nil ?_
    go_wp2_with fail
    exact bodyPost_ret (results_ct rfl _ _ _ w.heap.size 40 #[.int .i64 a, .int .i64 b] (0, 0) _ rfl (setRow_heap _ _ _ _ _ _ kR) Tryd.underlying40 (by kernel_rfl)) rfl ⟨rfl, below_setRowC (belT B4s.drew b5) (Nat.le_refl _) _⟩
end Spw
end Go.Proofs.YthhhlaoiampinaaDoor
