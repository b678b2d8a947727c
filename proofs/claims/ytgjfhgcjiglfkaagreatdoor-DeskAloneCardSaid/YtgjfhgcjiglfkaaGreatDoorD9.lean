import Derived.Test.YtgjfhgcjiglfkaaGreatDoorD8
import Derived.Great.Walk
import Derived.Test.YtgjfhgcjiglfkaaGreatDoorD4
import Derived.RangeFuncNested
import Derived.RangeFuncBound
import Derived.RangeFuncCalls
import Derived.RangeFuncLeaves
import Derived.Shelf.Abstract
import Derived.Shelf.RegionOpen
import Derived.WalkKit
import Derived.OwnWalkIn
import Derived.TacticsInMore
import Derived.LoopNIn
import Derived.LoopIn
import Derived.Test.YtgjfhgcjiglfkaaGreatDoorD5
set_option linter.unusedVariables false
set_option linter.unusedSimpArgs false
namespace Go.Proofs.YtgjfhgcjiglfkaaGreatDoor
set_option maxRecDepth 20000
open Go.RowKit
def bsI (l : List UInt8) : List Int := l.map fun c => (c.toNat : Int)
theorem bsI_len (l : List UInt8) : (bsI l).length = l.length := List.length_map ..
theorem blockF_len (H bs : List Int) (many : Int) (last : Bool) : (blockF H bs many last).length = 8 := finV_len ..
def absorb (H : List Int) (m : Nat) (l : List UInt8) : List Int × Nat × List UInt8 :=
  if 64 < l.length then absorb (blockF H (bsI (l.take 64)) ((m + 64 : Nat) : Int) false) (m + 64) (l.drop 64) else (H, m, l)
termination_by l.length
decreasing_by rw [List.length_drop]; omega
theorem absorb_step (H : List Int) (m : Nat) (l : List UInt8) (h : 64 < l.length) : absorb H m l = absorb (blockF H (bsI (l.take 64)) ((m + 64 : Nat) : Int) false) (m + 64) (l.drop 64) := by rw [absorb, if_pos h]
theorem absorb_end (H : List Int) (m : Nat) (l : List UInt8) (h : ¬ 64 < l.length) : absorb H m l = (H, m, l) := by rw [absorb, if_neg h]
theorem absorb_ok : ∀ (n : Nat) (H : List Int) (m : Nat) (a : List UInt8), a.length ≤ n → H.length = 8 → (absorb H m a).1.length = 8 ∧ (absorb H m a).2.2.length ≤ 64 ∧ (absorb H m a).2.1 + (absorb H m a).2.2.length = m + a.length := by
  intro n
  induction n with
  | zero =>
    intro H m a h hH
    rw [absorb_end H m a (by omega)]
    exact ⟨hH, by dsimp only; omega, rfl⟩
  | succ n ih =>
    intro H m a h hH
    by_cases h64 : 64 < a.length
    · rw [absorb_step H m a h64]
      obtain ⟨h1, h2, h3⟩ := ih (blockF H (bsI (a.take 64)) ((m + 64 : Nat) : Int) false) (m + 64) (a.drop 64) (by rw [List.length_drop]; omega) (blockF_len ..)
      rw [List.length_drop] at h3
      exact ⟨h1, h2, by omega⟩
    · rw [absorb_end H m a h64]
      exact ⟨hH, by dsimp only; omega, rfl⟩
def Hsh (w : World) (n0 p : Nat) (H : List Int) (m : Nat) (r : List UInt8) : Prop :=
  ∃ h0 h1 h2 h3 h4 h5 h6 h7 v, H = [h0, h1, h2, h3, h4, h5, h6, h7] ∧ Blk w p 332 #[.int .u32 h0, .int .u32 h1, .int .u32 h2, .int .u32 h3, .int .u32 h4, .int .u32 h5, .int .u32 h6, .int .u32 h7, v, .int .u64 (m : Int)] ∧ OwnB w n0 5 v r
def H0L : List Int := [bits .xor .u32 1779033703 16842784, 3144134277, 1013904242, 2773480762, 1359893119, 2600822924, 528734635, 1541459225]
theorem newH_any (w : World) : Calls Tryz.prog 205 #[] w fun e w' => ∃ p, e = .returned (.pointer (some ⟨p, 0, none⟩)) ∧ w.heap.size ≤ p ∧ Hsh w' w.heap.size p H0L 0 [] ∧ Below w.heap.size w w' := by
  go_enter Tryz.func205, Tryz.ntmps205
  go_wp2_with fail
  refine (iv_any _).mono ?_
  rintro e w1 ⟨rfl, b1⟩
  go_wp2_with fail
  go_ret
  refine ⟨w1.heap.size + 1, rfl, Nat.le_succ_of_le b1.size, ⟨_, _, _, _, _, _, _, _, _, rfl, ?_, OwnB.nil ..⟩, (b1.alloc b1.size _).alloc (by simp; have := b1.size; omega) _⟩
  have := Blk.new (w1.alloc (.cells #[.int .u32 (bits .xor .u32 1779033703 16842784), .int .u32 3144134277, .int .u32 1013904242, .int .u32 2773480762, .int .u32 1359893119, .int .u32 2600822924, .int .u32 528734635, .int .u32 1541459225] 329)) 332 #[.int .u32 (bits .xor .u32 1779033703 16842784), .int .u32 3144134277, .int .u32 1013904242, .int .u32 2773480762, .int .u32 1359893119, .int .u32 2600822924, .int .u32 528734635, .int .u32 1541459225, .slice none 0 0, .int .u64 0]
  rwa [World.size_alloc] at this
def restLen (w : World) (p : Nat) : Nat := match w.cell? ⟨p, 8, none⟩ with | some (.slice _ n _) => n | _ => 0
theorem OwnB.slice {w : World} {base : Nat} {e : TypeId} {v : Value} {l : List UInt8} (h : OwnB w base e v l) : ∃ A c, v = .slice A l.length c := by
  rcases h.form with ⟨rfl, rfl⟩ | ⟨g, off, c, rfl, _⟩
  · exact ⟨_, _, rfl⟩
  · exact ⟨_, _, rfl⟩
theorem meas64 {n : Nat} (h : 64 < n) : n - 64 < n := by omega
set_option maxHeartbeats 4000000 in
theorem writeH_any (n0 p m : Nat) (H : List Int) (r : List UInt8) (s : ByteArray) (w : World) (hh : Hsh w n0 p H m r) (hn0 : n0 ≤ p) (hr : r.length ≤ 64) (hlen : m + r.length + s.size ≤ 140737488355200) :
    Calls Tryz.prog 206 #[.pointer (some ⟨p, 0, none⟩), .string s] w fun e w' => e = .returned (.tuple #[]) ∧ Hsh w' n0 p (absorb H m (r ++ sl s)).1 (absorb H m (r ++ sl s)).2.1 (absorb H m (r ++ sl s)).2.2 ∧ Below n0 w w' := by
  obtain ⟨h0, h1, h2, h3, h4, h5, h6, h7, v, hH, hb, ho⟩ := hh
  have c8 := hb.cell 8
  have f8 := hb.frozen 8
  have hn0w : n0 ≤ w.heap.size := Nat.le_trans hn0 (Nat.le_of_lt hb.lt)
  have HO := Lib.hid ho
  have HB := Lib.hid hb
  obtain ⟨A, c, hv⟩ := ho.slice
  have hne := ho.ne_blk hb (by decide)
  subst hv
  have HH := Lib.hid hH
  clear ho hb hH
  have hst : ∀ w1 : World, w.grownBy w1 (Value.slice A r.length c).ownBlock → w1.cell? ⟨p, 8, none⟩ = some (.slice A r.length c) ∧ w1.frozen? ⟨p, 8, none⟩ = false := fun w1 hg => by
    have := HB.out.keptO hg hne
    exact ⟨this.cell 8, this.frozen 8⟩
  have HST := Lib.hid hst
  clear hst
  have hs1 : (r ++ sl s).length = r.length + s.size := by rw [List.length_append, sl_len]
  have hm1 : m + (r ++ sl s).length ≤ 140737488355200 := by omega
  obtain ⟨r1, hr1⟩ : ∃ r1, r1 = r ++ sl s := ⟨_, rfl⟩
  rw [← hr1] at hm1 ⊢
  have HR1 := Lib.hid hr1
  clear hs1 hr1
  go_enter Tryz.func206, Tryz.ntmps206
  go_wp2_with (at_builtin; go_must (refine wpList_append_text_off rfl (.tmp 8) (.tmp 9) _ _ rfl n0 5 Tryz.underlying135 Tryz.underlying9 byteInfo (.slice A r.length c) r rfl HO.out s rfl (by omega) hn0w ?_); intro v1 w1 ho1 hg1; obtain ⟨d8, z8⟩ := HST.out w1 hg1; rw [← HR1.out] at ho1; have HO1 := Lib.hid ho1; obtain ⟨A1, c1, hv1⟩ := ho1.slice; subst hv1; clear ho1)
  have HB1 : Blk (w1.setCell ⟨p, 8, none⟩ (.slice A1 r1.length c1)) p 332 #[.int .u32 h0, .int .u32 h1, .int .u32 h2, .int .u32 h3, .int .u32 h4, .int .u32 h5, .int .u32 h6, .int .u32 h7, .slice A1 r1.length c1, .int .u64 (m : Int)] :=
    (HB.out.keptO hg1 hne).set_ 8 (.slice A1 r1.length c1)
  have hne1 := HO1.out.ne_blk (HB.out.keptO hg1 hne) (by decide)
  have hO1 := HO1.out.kept (set_grown w1 p 8 (.slice A1 r1.length c1)) hne1
  have hb1 : Below n0 w (w1.setCell ⟨p, 8, none⟩ (.slice A1 r1.length c1)) := ((Below.refl n0 w).grown hg1 hn0w (fun k hk => (HO.out.lt k hk).1)).setCell (p := ⟨p, 8, none⟩) hn0 _
  have HHS : Hsh (w1.setCell ⟨p, 8, none⟩ (.slice A1 r1.length c1)) n0 p H m r1 := ⟨h0, h1, h2, h3, h4, h5, h6, h7, _, HH.out, HB1, hO1⟩
  generalize w1.setCell ⟨p, 8, none⟩ (.slice A1 r1.length c1) = W0 at *
  clear HB HB1 hO1 hne1 HO1 HST hne hg1 d8 z8 HO c8 f8 HH hlen hr HR1
  go_loopw [13] (fun _ wr => ∃ H' m' r', Hsh wr n0 p H' m' r' ∧ absorb H' m' r' = absorb H m r1 ∧ m' + r'.length ≤ 140737488355200 ∧ Below n0 w wr) (fun _ wr => restLen wr p)
  case atStart => exact ⟨H, m, r1, HHS, rfl, hm1, hb1⟩
  case round =>
    obtain ⟨H', m', r', hh', hab, hml, hbe⟩ := hrel
    obtain ⟨g0, g1, g2, g3, g4, g5, g6, g7, v', hH', hb', ho'⟩ := hh'
    obtain ⟨A2, c2, hv2⟩ := ho'.slice
    subst hv2
    have c8 := hb'.cell 8
    clear HHS hb1
    by_cases h64 : 64 < r'.length
    · have hd64 : decide ((64 : Int) < (r'.length : Int)) = true := by rw [decide_eq_true_eq]; omega
      have HML : Hid (restLen wr p = r'.length) := by show restLen wr p = _; unfold restLen; rw [hb'.cell 8]; rfl
      have HAB := Lib.hid hab
      have HH' := Lib.hid hH'
      obtain ⟨gb, ob, c3, hv3, hc3⟩ : ∃ gb ob c3, Value.slice A2 r'.length c2 = .slice (some ⟨gb, ob, none⟩) r'.length c3 ∧ r'.length ≤ c3 := by
        rcases ho'.form with ⟨_, h⟩ | ⟨g, off, cap, h, h2⟩
        · rw [h] at h64; simp at h64
        · exact ⟨g, off, cap, h, h2⟩
      injection hv3 with e1 _ e3
      subst e1 e3
      have c9 := hb'.cell 9
      have f9 := hb'.frozen 9
      obtain ⟨M, hM⟩ : ∃ M, M = m' + 64 := ⟨_, rfl⟩
      have hw64 : IntKind.u64.wrap ((m' : Int) + 64) = (M : Int) := by rw [IntKind.wrap_u64]; omega
      have HM := Lib.hid hM
      have hbA := hb'.set_ 9 (.int .u64 (M : Int))
      have hoA := ho'.kept (set_grown wr p 9 (.int .u64 (M : Int))) (ho'.ne_blk hb' (by decide))
      have hbeA := hbe.setCell (p := ⟨p, 9, none⟩) hn0 (.int .u64 (M : Int))
      have hlc := hc3
      clear hab hH' hbe hM hc3
      go_wp2_with fail
      clear c8 c9 f9 hw64 hb' ho'
      generalize wr.setCell ⟨p, 9, none⟩ (.int .u64 (M : Int)) = Wa at hbA hoA hbeA ⊢
      have hr64 : (r'.take 64).length = 64 := by rw [List.length_take]; omega
      have HBC : Hid (∀ j x, (bsI (r'.take 64))[j]? = some x → Wa.drew.cell? ⟨gb, ob + j, none⟩ = some (.int .u8 x)) := by
        intro j x hj
        unfold bsI at hj
        rw [List.getElem?_map] at hj
        cases hc : (r'.take 64)[j]? with
        | none => rw [hc] at hj; cases hj
        | some c =>
          rw [hc] at hj
          cases hj
          rw [List.getElem?_take] at hc
          split at hc
          · exact hoA.drew.cells j c hc
          · cases hc
      have hbl : (bsI (r'.take 64)).length = 64 := by rw [bsI_len, hr64]
      have hc64 : (64 : Int) ≤ (c2 : Int) := by omega
      have HAB2 : Hid (absorb (blockF H' (bsI (r'.take 64)) (M : Int) false) M (r'.drop 64) = absorb H m r1) := by
        show _ = _
        rw [← HAB.out, absorb_step H' m' r' h64, HM.out]
      generalize bsI (r'.take 64) = BS at HBC hbl HAB2
      refine wp_region_last [(true, 0), (true, 1), (true, 2), (true, 3), (true, 4), (true, 5), (true, 6), (true, 7), (true, 8), (true, 9), (true, 10), (true, 11), (true, 12), (true, 13), (false, 14), (true, 15), (true, 16), (false, 17)] 17 (fun w' => Below Wa.heap.size Wa w') (by kernel_rfl) (by kernel_rfl) (by kernel_rfl) (fun _ _ _ _ _ h => h) (by kernel_rfl) (by kernel_rfl) ?_ ?_
      · exact (Below.refl _ _).drew
      iterate 14 (first | (apply seqL_skip; (focus (simp only [List.getElem?_toArray, List.getElem?_cons_succ, List.getElem?_cons_zero]; rfl)); (focus rfl); simp only [Act.put, List.setIfInBounds_toArray, List.set_cons_zero, List.set_cons_succ]) | (apply seqL_take; (focus (simp only [List.getElem?_toArray, List.getElem?_cons_succ, List.getElem?_cons_zero]; rfl)); (focus rfl); (focus (intro w' hS; have hq := hbA.below hS hbA.lt; have y0 := hq.cell 0; have y1 := hq.cell 1; have y2 := hq.cell 2; have y3 := hq.cell 3; have y4 := hq.cell 4; have y5 := hq.cell 5; have y6 := hq.cell 6; have y7 := hq.cell 7; have y8 := hq.cell 8; have y9 := hq.cell 9; first | (go_simp; rfl) | (go_simp; done))); simp only [Act.put, List.setIfInBounds_toArray, List.set_cons_zero, List.set_cons_succ]))
      apply seqL_eff
      (focus (simp only [List.getElem?_toArray, List.getElem?_cons_succ, List.getElem?_cons_zero]; rfl))
      (focus rfl)
      intro K hK
      go_simp
      refine (block_mid g0 g1 g2 g3 g4 g5 g6 g7 gb ob c2 BS (M : Int) Wa.drew hbl HBC.out).mono ?_
      rintro e w2 ⟨rfl, b2⟩
      have HXL : Hid ((blockF [g0, g1, g2, g3, g4, g5, g6, g7] BS (M : Int) false).length = 8) := blockF_len ..
      rw [show H' = [g0, g1, g2, g3, g4, g5, g6, g7] from HH'.out] at HAB2
      generalize blockF [g0, g1, g2, g3, g4, g5, g6, g7] BS (M : Int) false = X at HXL HAB2 ⊢
      obtain ⟨x0, x1, x2, x3, x4, x5, x6, x7, hX⟩ := list8 X HXL.out
      have hXe : eU X = #[.int .u32 x0, .int .u32 x1, .int .u32 x2, .int .u32 x3, .int .u32 x4, .int .u32 x5, .int .u32 x6, .int .u32 x7] := by rw [hX]; rfl
      rw [hXe]
      have HX := Lib.hid hX
      clear hX hXe
      have b2' : Below Wa.heap.size Wa w2 := (Below.refl _ Wa).drew.trans b2
      refine hK _ _ ⟨fun _ => b2', ?_⟩
      clear hK K
      iterate 2 (first | (apply seqL_skip; (focus (simp only [List.getElem?_toArray, List.getElem?_cons_succ, List.getElem?_cons_zero]; rfl)); (focus rfl); simp only [Act.put, List.setIfInBounds_toArray, List.set_cons_zero, List.set_cons_succ]) | (apply seqL_take; (focus (simp only [List.getElem?_toArray, List.getElem?_cons_succ, List.getElem?_cons_zero]; rfl)); (focus rfl); (focus (intro w' hS; have hq := hbA.below hS hbA.lt; have y0 := hq.cell 0; have y1 := hq.cell 1; have y2 := hq.cell 2; have y3 := hq.cell 3; have y4 := hq.cell 4; have y5 := hq.cell 5; have y6 := hq.cell 6; have y7 := hq.cell 7; have y8 := hq.cell 8; have y9 := hq.cell 9; first | (go_simp; rfl) | (go_simp; done))); simp only [Act.put, List.setIfInBounds_toArray, List.set_cons_zero, List.set_cons_succ]))
      apply seqL_eff
      (focus (simp only [List.getElem?_toArray, List.getElem?_cons_succ, List.getElem?_cons_zero]; rfl))
      (focus rfl)
      intro K hK
      have hq := hbA.below b2' hbA.lt
      have y0 := hq.cell 0; have y1 := hq.cell 1; have y2 := hq.cell 2; have y3 := hq.cell 3; have y4 := hq.cell 4; have y5 := hq.cell 5; have y6 := hq.cell 6; have y7 := hq.cell 7; have y8 := hq.cell 8; have y9 := hq.cell 9
      have z0 := hq.frozen 0
      have z1 := hq.frozen 1
      have z2 := hq.frozen 2
      have z3 := hq.frozen 3
      have z4 := hq.frozen 4
      have z5 := hq.frozen 5
      have z6 := hq.frozen 6
      have z7 := hq.frozen 7
      go_simp
      refine hK _ _ ⟨fun h => absurd rfl h, ?_⟩
      clear hK K
      refine seqL_nil ?_
      clear y0 y1 y2 y3 y4 y5 y6 y7 y8 y9 z0 z1 z2 z3 z4 z5 z6 z7
      have k0 : Blk (w2.setCell ⟨p, 0, none⟩ (.int .u32 x0)) p 332 #[.int .u32 x0, .int .u32 g1, .int .u32 g2, .int .u32 g3, .int .u32 g4, .int .u32 g5, .int .u32 g6, .int .u32 g7, .slice (some ⟨gb, ob, none⟩) r'.length c2, .int .u64 (M : Int)] := hq.set_ 0 (.int .u32 x0)
      have k1 : Blk ((w2.setCell ⟨p, 0, none⟩ (.int .u32 x0)).setCell ⟨p, 1, none⟩ (.int .u32 x1)) p 332 #[.int .u32 x0, .int .u32 x1, .int .u32 g2, .int .u32 g3, .int .u32 g4, .int .u32 g5, .int .u32 g6, .int .u32 g7, .slice (some ⟨gb, ob, none⟩) r'.length c2, .int .u64 (M : Int)] := k0.set_ 1 (.int .u32 x1)
      have k2 : Blk (((w2.setCell ⟨p, 0, none⟩ (.int .u32 x0)).setCell ⟨p, 1, none⟩ (.int .u32 x1)).setCell ⟨p, 2, none⟩ (.int .u32 x2)) p 332 #[.int .u32 x0, .int .u32 x1, .int .u32 x2, .int .u32 g3, .int .u32 g4, .int .u32 g5, .int .u32 g6, .int .u32 g7, .slice (some ⟨gb, ob, none⟩) r'.length c2, .int .u64 (M : Int)] := k1.set_ 2 (.int .u32 x2)
      have k3 : Blk ((((w2.setCell ⟨p, 0, none⟩ (.int .u32 x0)).setCell ⟨p, 1, none⟩ (.int .u32 x1)).setCell ⟨p, 2, none⟩ (.int .u32 x2)).setCell ⟨p, 3, none⟩ (.int .u32 x3)) p 332 #[.int .u32 x0, .int .u32 x1, .int .u32 x2, .int .u32 x3, .int .u32 g4, .int .u32 g5, .int .u32 g6, .int .u32 g7, .slice (some ⟨gb, ob, none⟩) r'.length c2, .int .u64 (M : Int)] := k2.set_ 3 (.int .u32 x3)
      have k4 : Blk (((((w2.setCell ⟨p, 0, none⟩ (.int .u32 x0)).setCell ⟨p, 1, none⟩ (.int .u32 x1)).setCell ⟨p, 2, none⟩ (.int .u32 x2)).setCell ⟨p, 3, none⟩ (.int .u32 x3)).setCell ⟨p, 4, none⟩ (.int .u32 x4)) p 332 #[.int .u32 x0, .int .u32 x1, .int .u32 x2, .int .u32 x3, .int .u32 x4, .int .u32 g5, .int .u32 g6, .int .u32 g7, .slice (some ⟨gb, ob, none⟩) r'.length c2, .int .u64 (M : Int)] := k3.set_ 4 (.int .u32 x4)
      have k5 : Blk ((((((w2.setCell ⟨p, 0, none⟩ (.int .u32 x0)).setCell ⟨p, 1, none⟩ (.int .u32 x1)).setCell ⟨p, 2, none⟩ (.int .u32 x2)).setCell ⟨p, 3, none⟩ (.int .u32 x3)).setCell ⟨p, 4, none⟩ (.int .u32 x4)).setCell ⟨p, 5, none⟩ (.int .u32 x5)) p 332 #[.int .u32 x0, .int .u32 x1, .int .u32 x2, .int .u32 x3, .int .u32 x4, .int .u32 x5, .int .u32 g6, .int .u32 g7, .slice (some ⟨gb, ob, none⟩) r'.length c2, .int .u64 (M : Int)] := k4.set_ 5 (.int .u32 x5)
      have k6 : Blk (((((((w2.setCell ⟨p, 0, none⟩ (.int .u32 x0)).setCell ⟨p, 1, none⟩ (.int .u32 x1)).setCell ⟨p, 2, none⟩ (.int .u32 x2)).setCell ⟨p, 3, none⟩ (.int .u32 x3)).setCell ⟨p, 4, none⟩ (.int .u32 x4)).setCell ⟨p, 5, none⟩ (.int .u32 x5)).setCell ⟨p, 6, none⟩ (.int .u32 x6)) p 332 #[.int .u32 x0, .int .u32 x1, .int .u32 x2, .int .u32 x3, .int .u32 x4, .int .u32 x5, .int .u32 x6, .int .u32 g7, .slice (some ⟨gb, ob, none⟩) r'.length c2, .int .u64 (M : Int)] := k5.set_ 6 (.int .u32 x6)
      have hbB : Blk ((((((((w2.setCell ⟨p, 0, none⟩ (.int .u32 x0)).setCell ⟨p, 1, none⟩ (.int .u32 x1)).setCell ⟨p, 2, none⟩ (.int .u32 x2)).setCell ⟨p, 3, none⟩ (.int .u32 x3)).setCell ⟨p, 4, none⟩ (.int .u32 x4)).setCell ⟨p, 5, none⟩ (.int .u32 x5)).setCell ⟨p, 6, none⟩ (.int .u32 x6)).setCell ⟨p, 7, none⟩ (.int .u32 x7)) p 332 #[.int .u32 x0, .int .u32 x1, .int .u32 x2, .int .u32 x3, .int .u32 x4, .int .u32 x5, .int .u32 x6, .int .u32 x7, .slice (some ⟨gb, ob, none⟩) r'.length c2, .int .u64 (M : Int)] := k6.set_ 7 (.int .u32 x7)
      have hoB : OwnB ((((((((w2.setCell ⟨p, 0, none⟩ (.int .u32 x0)).setCell ⟨p, 1, none⟩ (.int .u32 x1)).setCell ⟨p, 2, none⟩ (.int .u32 x2)).setCell ⟨p, 3, none⟩ (.int .u32 x3)).setCell ⟨p, 4, none⟩ (.int .u32 x4)).setCell ⟨p, 5, none⟩ (.int .u32 x5)).setCell ⟨p, 6, none⟩ (.int .u32 x6)).setCell ⟨p, 7, none⟩ (.int .u32 x7)) n0 5 (.slice (some ⟨gb, ob, none⟩) r'.length c2) r' := OwnB.sets (by decide) [.int .u32 x0, .int .u32 x1, .int .u32 x2, .int .u32 x3, .int .u32 x4, .int .u32 x5, .int .u32 x6, .int .u32 x7] 0 w2 _ hq (hoA.below b2')
      have hbeB : Below n0 w ((((((((w2.setCell ⟨p, 0, none⟩ (.int .u32 x0)).setCell ⟨p, 1, none⟩ (.int .u32 x1)).setCell ⟨p, 2, none⟩ (.int .u32 x2)).setCell ⟨p, 3, none⟩ (.int .u32 x3)).setCell ⟨p, 4, none⟩ (.int .u32 x4)).setCell ⟨p, 5, none⟩ (.int .u32 x5)).setCell ⟨p, 6, none⟩ (.int .u32 x6)).setCell ⟨p, 7, none⟩ (.int .u32 x7)) := below_sets hn0 [.int .u32 x0, .int .u32 x1, .int .u32 x2, .int .u32 x3, .int .u32 x4, .int .u32 x5, .int .u32 x6, .int .u32 x7] 0 w2 (hbeA.trans (b2'.mono (Nat.le_trans hn0 (Nat.le_of_lt hbA.lt))))
      clear hq k0 k1 k2 k3 k4 k5 k6 b2 b2' hbA hoA hbeA HBC hbl HXL
      generalize ((((((((w2.setCell ⟨p, 0, none⟩ (.int .u32 x0)).setCell ⟨p, 1, none⟩ (.int .u32 x1)).setCell ⟨p, 2, none⟩ (.int .u32 x2)).setCell ⟨p, 3, none⟩ (.int .u32 x3)).setCell ⟨p, 4, none⟩ (.int .u32 x4)).setCell ⟨p, 5, none⟩ (.int .u32 x5)).setCell ⟨p, 6, none⟩ (.int .u32 x6)).setCell ⟨p, 7, none⟩ (.int .u32 x7)) = Wb at hbB hoB hbeB ⊢
      have y8 := hbB.cell 8
      have z8 := hbB.frozen 8
      have hbC := hbB.set_ 8 (.slice (some ⟨gb, ob + 64, none⟩) (r'.length - 64) (c2 - 64))
      have hoC := (hoB.drop (k := 64) (by omega)).set_ hbB (by decide) 8 (.slice (some ⟨gb, ob + 64, none⟩) (r'.length - 64) (c2 - 64))
      have hbeC := hbeB.setCell (p := ⟨p, 8, none⟩) hn0 (.slice (some ⟨gb, ob + 64, none⟩) (r'.length - 64) (c2 - 64))
      have hmeas : restLen (Wb.setCell ⟨p, 8, none⟩ (.slice (some ⟨gb, ob + 64, none⟩) (r'.length - 64) (c2 - 64))) p < restLen wr p := by
        rw [HML.out]
        unfold restLen
        rw [hbC.cell 8]
        exact meas64 h64
      have HD := Lib.hid hmeas
      clear hmeas HML
      go_wp2_with fail
      exact ⟨⟨X, M, r'.drop 64, ⟨x0, x1, x2, x3, x4, x5, x6, x7, _, HX.out, hbC, hoC⟩, HAB2.out, by rw [List.length_drop]; have := HM.out; omega, hbeC⟩, HD.out⟩
    · have hd64 : decide ((64 : Int) < (r'.length : Int)) = false := by rw [decide_eq_false_iff_not]; omega
      have HAB := Lib.hid hab
      rw [absorb_end H' m' r' h64] at HAB
      clear hab
      go_wp2_with fail
      rw [← HAB.out]
      exact Great.bodyPost_end0 rfl rfl ⟨rfl, ⟨g0, g1, g2, g3, g4, g5, g6, g7, _, hH', hb', ho'⟩, hbe⟩
section
variable {P : Program} {ops : Array Oper} {Q : Exit → Act → World → Prop} {S : World → Prop} {md : Region.Mode} {c : Nat}
def wpAnyM (P : Program) (md : Region.Mode) (ops : Array Oper) (Q : Exit → Act → World → Prop) (S : World → Prop) (c : Nat) : Nat → Array Bool → Act → World → Prop
  | 0, listed, a, w => Region.ready md ops listed = [] ∧ Q .normal a w
  | fuel + 1, listed, a, w =>
    (Region.ready md ops listed = [] → Q .normal a w) ∧
    ∀ i ∈ Region.ready md ops listed, wpOp P ops Q i (fun a' w' => (i ≠ c → listed.getD c false = false → S w') ∧ wpAnyM P md ops Q S c fuel (listed.setIfInBounds i true) a' w') a w
theorem wpAny_of_mid : ∀ (fuel : Nat) (listed : Array Bool) (a : Act) (w : World), wpAnyM P md ops Q S c fuel listed a w → wpAny P md ops Q fuel listed a w
  | 0, _, _, _, h => h
  | fuel + 1, _, _, _, h => ⟨h.1, fun i hi => wpOp_mono (fun a' w' h' => wpAny_of_mid fuel _ a' w' h'.2) (h.2 i hi)⟩
def chainC (md : Region.Mode) (ops : Array Oper) (c : Nat) : Bool :=
  (List.range c).all fun i => (List.range (c + 1)).any fun j => decide (i < j) && match ops[j]? with
    | some oj => oj.after.any (fun e => Region.binds md e && e.on == i)
    | none => false
theorem all_ahead {listed : Array Bool} (hc : chainC md ops c = true) (h : Closed md ops listed) (hl : ∀ oj, ops[c]? = some oj → ∀ e ∈ oj.after, Region.binds md e = true → listed.getD e.on false = true) :
    ∀ (n i : Nat), c - i ≤ n → i < c → listed.getD i false = true
  | 0, i, hn, hi => by omega
  | n + 1, i, hn, hi => by
    have h1 := List.all_eq_true.1 hc i (List.mem_range.2 hi)
    simp only [List.any_eq_true, List.mem_range, Bool.and_eq_true, decide_eq_true_eq] at h1
    obtain ⟨j, hj, hij, hm⟩ := h1
    cases hoj : ops[j]? with
    | none => rw [hoj] at hm; cases hm
    | some oj =>
      rw [hoj] at hm
      obtain ⟨e, he, hb⟩ := Array.any_eq_true'.1 hm
      simp only [Bool.and_eq_true, beq_iff_eq] at hb
      by_cases hjl : j = c
      · subst hjl
        have := hl oj hoj e he hb.1
        rwa [hb.2] at this
      · have := h j _ hoj (all_ahead hc h hl n j (by omega) (by omega)) e he hb.1
        rwa [hb.2] at this
theorem ahead_ready {listed : Array Bool} (hc : chainC md ops c = true) (h : Closed md ops listed) (hl : c ∈ Region.ready md ops listed) {i : Nat} (hi : i < c) : listed.getD i false = true := by
  obtain ⟨_, o, ho, hall⟩ := mem_ready.1 hl
  exact all_ahead hc h (fun oj hoj => by rw [ho] at hoj; cases hoj; exact hall) _ i (Nat.le_refl _) hi
theorem ahead_listed {listed : Array Bool} (hc : chainC md ops c = true) (h : Closed md ops listed) {i : Nat} (hi : i < c) (hu : listed.getD i false = false) : listed.getD c false = false := by
  cases hcl : listed.getD c false with
  | false => rfl
  | true =>
    have := all_ahead hc h (fun oj hoj => h c oj hoj hcl) _ i (Nat.le_refl _) hi
    rw [hu] at this; cases this
theorem ready_unlisted {listed : Array Bool} {i : Nat} (h : i ∈ Region.ready md ops listed) : listed.getD i false = false := by
  have h0 := (mem_ready.1 h).1
  rw [Array.getD_eq_getD_getElem?] at h0 ⊢
  cases hg : listed[i]? with
  | none => rfl
  | some b => rw [hg] at h0; simpa using h0
theorem wpAnyM_first {i : Nat} {oi : Oper} {v : Value} (hi : ops[i]? = some oi) (hic : i < c) (hch : chainC md ops c = true) (hsel : ∀ (j : Nat) (o : Oper) cs b, ops[j]? = some o → o.op ≠ .select cs b)
    (hQ : ∀ c a w, Q (.panic c) (a.put oi.dst v) w → Q (.panic c) a w) :
    ∀ (fuel : Nat) (listed : Array Bool) (a : Act) (w : World), Closed md ops listed →
      (∀ j oj, ops[j]? = some oj → j ≠ i → listed.getD j true = false → (∀ e ∈ oj.after, Region.binds md e = true → e.on ≠ i) → oi.apart ops oj = true) →
      i ∈ Region.ready md ops listed → YieldsIf P ops S oi v a → S w →
      wpAnyM P md ops Q S c fuel (listed.setIfInBounds i true) (a.put oi.dst v) w → wpAnyM P md ops Q S c (fuel + 1) listed a w := by
  intro fuel
  induction fuel with
  | zero =>
    intro listed a w _ _ hr hy hS H
    refine ⟨fun h => (by rw [h] at hr; cases hr), fun j hj => ?_⟩
    by_cases hji : j = i
    · subst hji; exact hy.wpOp hi hS ⟨fun _ _ => hS, H⟩
    · have := ready_mono hj hji
      rw [H.1] at this
      cases this
  | succ fuel ih =>
    intro listed a w hcl hfree hr hy hS H
    refine ⟨fun h => (by rw [h] at hr; cases hr), fun j hj => ?_⟩
    by_cases hji : j = i
    · subst hji; exact hy.wpOp hi hS ⟨fun _ _ => hS, H⟩
    · have hjl : j ≠ c := fun e => by
        subst e
        have h1 := ahead_ready hch hcl hj hic
        rw [ready_unlisted hr] at h1; cases h1
      have hcu := ahead_listed hch hcl hic (ready_unlisted hr)
      have hcu' : (listed.setIfInBounds i true).getD c false = false := by rw [getD_set_ne false (by omega)]; exact hcu
      have h1 := H.2 j (ready_mono hj hji)
      obtain ⟨hjun, oj, hoj, hall⟩ := mem_ready.1 hj
      have hnot : ∀ e ∈ oj.after, Region.binds md e = true → e.on ≠ i := fun e he hb heq => by
        have h1 := hall e he hb
        have h0 := (mem_ready.1 hr).1
        rw [heq] at h1
        rcases Nat.lt_or_ge i listed.size with h' | h'
        · simp [h'] at h0 h1; rw [h0] at h1; cases h1
        · simp [Array.getElem?_eq_none h'] at h1
      have h2 := wpOp_putIf hoj (hfree j oj hoj hji hjun hnot) (fun cs b => hsel i oi cs b hi) (fun cs b => hsel j oj cs b hoj) hQ hy h1
      have hfree' : ∀ k ok, ops[k]? = some ok → k ≠ i → (listed.setIfInBounds j true).getD k true = false →
          (∀ e ∈ ok.after, Region.binds md e = true → e.on ≠ i) → oi.apart ops ok = true := fun k ok hk hki hun hno => by
        refine hfree k ok hk hki ?_ hno
        by_cases hjk : j = k
        · subst hjk; exact hjun
        · rw [getD_set_ne true hjk] at hun; exact hun
      refine wpOp_mono (fun a' w' h3 => ⟨fun _ _ => h3.2.1 hjl hcu', ih (listed.setIfInBounds j true) a' w' (hcl.step hj) hfree' (ready_mono hr (Ne.symm hji)) h3.1 (h3.2.1 hjl hcu') ?_⟩) h2
      rw [Array.setIfInBounds_comm _ _ hji]
      exact h3.2.2
theorem wpAnyM_behind {i : Nat} {oi : Oper} {v : Value} (hi : ops[i]? = some oi) (hsel : ∀ (j : Nat) (o : Oper) cs b, ops[j]? = some o → o.op ≠ .select cs b)
    (hQ : ∀ c a w, Q (.panic c) (a.put oi.dst v) w → Q (.panic c) a w) :
    ∀ (fuel : Nat) (listed : Array Bool) (a : Act) (w : World), Closed md ops listed →
      (∀ j oj, ops[j]? = some oj → j ≠ i → listed.getD j true = false → (∀ e ∈ oj.after, Region.binds md e = true → e.on ≠ i) → oi.apart ops oj = true) →
      i ∈ Region.ready md ops listed → YieldsIf P ops (fun _ => True) oi v a → listed.getD c false = true →
      wpAnyM P md ops Q S c fuel (listed.setIfInBounds i true) (a.put oi.dst v) w → wpAnyM P md ops Q S c (fuel + 1) listed a w := by
  intro fuel
  induction fuel with
  | zero =>
    intro listed a w _ _ hr hy hS H
    refine ⟨fun h => (by rw [h] at hr; cases hr), fun j hj => ?_⟩
    by_cases hji : j = i
    · subst hji; exact hy.wpOp hi trivial ⟨fun _ h => (by rw [hS] at h; cases h), H⟩
    · have := ready_mono hj hji
      rw [H.1] at this
      cases this
  | succ fuel ih =>
    intro listed a w hcl hfree hr hy hS H
    refine ⟨fun h => (by rw [h] at hr; cases hr), fun j hj => ?_⟩
    by_cases hji : j = i
    · subst hji; exact hy.wpOp hi trivial ⟨fun _ h => (by rw [hS] at h; cases h), H⟩
    · have hcl' : (listed.setIfInBounds j true).getD c false = true := getD_set_true hS
      have h1 := H.2 j (ready_mono hj hji)
      obtain ⟨hjun, oj, hoj, hall⟩ := mem_ready.1 hj
      have hnot : ∀ e ∈ oj.after, Region.binds md e = true → e.on ≠ i := fun e he hb heq => by
        have h1 := hall e he hb
        have h0 := (mem_ready.1 hr).1
        rw [heq] at h1
        rcases Nat.lt_or_ge i listed.size with h' | h'
        · simp [h'] at h0 h1; rw [h0] at h1; cases h1
        · simp [Array.getElem?_eq_none h'] at h1
      have h2 := wpOp_putIf hoj (hfree j oj hoj hji hjun hnot) (fun cs b => hsel i oi cs b hi) (fun cs b => hsel j oj cs b hoj) hQ hy h1
      have hfree' : ∀ k ok, ops[k]? = some ok → k ≠ i → (listed.setIfInBounds j true).getD k true = false →
          (∀ e ∈ ok.after, Region.binds md e = true → e.on ≠ i) → oi.apart ops ok = true := fun k ok hk hki hun hno => by
        refine hfree k ok hk hki ?_ hno
        by_cases hjk : j = k
        · subst hjk; exact hjun
        · rw [getD_set_ne true hjk] at hun; exact hun
      refine wpOp_mono (fun a' w' h3 => ⟨fun _ h => (by rw [hS] at h; cases h), ih (listed.setIfInBounds j true) a' w' (hcl.step hj) hfree' (ready_mono hr (Ne.symm hji)) h3.1 hcl' ?_⟩) h2
      rw [Array.setIfInBounds_comm _ _ hji]
      exact h3.2.2
def seqM (P : Program) (ops : Array Oper) (Q : Exit → Act → World → Prop) (S : World → Prop) (c : Nat) : List (Bool × Nat) → Act → World → Prop
  | [], a, w => Q .normal a w
  | (true, i) :: l, a, w => ∃ o v, ops[i]? = some o ∧ YieldsIf P ops (fun w' => i < c → S w') o v a ∧ seqM P ops Q S c l (a.put o.dst v) w
  | (false, i) :: l, a, w => wpOp P ops Q i (fun a' w' => seqM P ops Q S c l a' w') a w
def okSeqM (ops : Array Oper) (c : Nat) : List (Bool × Nat) → Array Bool → Bool
  | [], listed => (Region.ready .any ops listed).isEmpty
  | (true, i) :: l, listed => (decide (i < c) || (decide (c < i) && listed.getD c false)) && (Region.ready .any ops listed).contains i && Region.free .any ops listed i && okSeqM ops c l (listed.setIfInBounds i true)
  | (false, i) :: l, listed => (Region.ready .any ops listed == [i]) && i == c && okSeqM ops c l (listed.setIfInBounds i true)
theorem getD_set_self {listed : Array Bool} {i : Nat} (h : listed.getD i true = false) : (listed.setIfInBounds i true).getD i false = true := by
  rw [Array.getD_eq_getD_getElem?] at h ⊢
  cases hg : listed[i]? with
  | none => rw [hg] at h; simp at h
  | some b =>
    have hlt := (Array.getElem?_eq_some_iff.1 hg).1
    simp [hlt]
theorem seqM_sound (hch : chainC .any ops c = true) (hs : Region.noSelect ops = true) (hQ : ∀ (d : Option Tmp) (v : Value) c a w, Q (.panic c) (a.put d v) w → Q (.panic c) a w) :
    ∀ (l : List (Bool × Nat)) (fuel : Nat) (listed : Array Bool) (a : Act) (w : World), Closed .any ops listed → l.length ≤ fuel → okSeqM ops c l listed = true → (listed.getD c false = false → S w) → seqM P ops Q S c l a w → wpAnyM P .any ops Q S c fuel listed a w
  | [], fuel, listed, a, w, _, _, hok, _, h => by
    have hr : Region.ready .any ops listed = [] := by simpa [okSeqM] using hok
    cases fuel with
    | zero => exact ⟨hr, h⟩
    | succ fuel => exact ⟨fun _ => h, by rw [hr]; simp⟩
  | (true, i) :: l, 0, listed, a, w, _, hl, _, _, _ => by simp at hl
  | (true, i) :: l, fuel + 1, listed, a, w, hcl, hl, hok, hS, h => by
    simp only [okSeqM, Bool.and_eq_true, Bool.or_eq_true, decide_eq_true_eq] at hok
    obtain ⟨o, v, ho, hy, hr⟩ := h
    have hri : i ∈ Region.ready .any ops listed := by simpa using hok.1.1.2
    rcases hok.1.1.1 with hic | ⟨hci, hcc⟩
    · have hcu := ahead_listed hch hcl hic (ready_unlisted hri)
      have hy' : YieldsIf P ops S o v a := hy.imp (fun h => ⟨h.1, fun w' hw' => h.2 w' (fun _ => hw')⟩) id
      exact wpAnyM_first ho hic hch (Region.noSelect_spec hs) (hQ _ _) fuel listed a w hcl (Region.free_spec ho hok.1.2) hri hy' (hS hcu)
        (seqM_sound hch hs hQ l fuel _ _ w (hcl.step hri) (by simp at hl; omega) hok.2 (fun _ => hS hcu) hr)
    · have hy' : YieldsIf P ops (fun _ => True) o v a := hy.imp (fun h => ⟨h.1, fun w' _ => h.2 w' (fun h' => by omega)⟩) id
      exact wpAnyM_behind ho (Region.noSelect_spec hs) (hQ _ _) fuel listed a w hcl (Region.free_spec ho hok.1.2) hri hy' hcc
        (seqM_sound hch hs hQ l fuel _ _ w (hcl.step hri) (by simp at hl; omega) hok.2 (fun h' => by rw [getD_set_true hcc] at h'; cases h') hr)
  | (false, i) :: l, 0, listed, a, w, _, hl, _, _, _ => by simp at hl
  | (false, i) :: l, fuel + 1, listed, a, w, hcl, hl, hok, hS, h => by
    simp only [okSeqM, Bool.and_eq_true, beq_iff_eq] at hok
    obtain ⟨⟨h1, hic⟩, h3⟩ := hok
    have hri : i ∈ Region.ready .any ops listed := by rw [h1]; simp
    refine ⟨fun h0 => (by rw [h0] at hri; cases hri), fun j hj => ?_⟩
    obtain rfl : j = i := by rw [h1] at hj; simpa using hj
    refine wpOp_mono (fun a' w' h2 => ⟨fun h => absurd hic h, seqM_sound hch hs hQ l fuel _ a' w' (hcl.step hri) (by simp at hl; omega) h3 (fun h' => ?_) h2⟩) h
    rw [← hic, getD_set_self (mem_ready.1 hri).1] at h'
    cases h'
theorem wp_region_mid {id : Nat} {a : Act} {w : World} (l : List (Bool × Nat)) (c : Nat) (S : World → Prop) (hm : P.follows .mixedOrders = true) (hch : chainC .any ops c = true) (hs : Region.noSelect ops = true)
    (hQ : ∀ (d : Tmp) (v : Value) c (a : Act) w, Q (.panic c) { a with tmps := a.tmps.setIfInBounds d v } w → Q (.panic c) a w) (hlen : decide (l.length ≤ ops.size) = true)
    (hok : okSeqM ops c l (Array.replicate ops.size false) = true) (hS : S w.drew) (h : seqM P ops Q S c l a w.drew) : (Code.region id ops true).wp P Q a w :=
  wp_region_any hm (wpAny_of_mid _ _ _ _ (seqM_sound hch hs (fun d v c a w h => by cases d with | none => exact h | some d => exact hQ d v c a w h) l ops.size _ a w.drew (Closed.start _) (of_decide_eq_true hlen) hok (fun _ => hS) h))
theorem seqM_nil {a : Act} {w : World} (h : Q .normal a w) : seqM P ops Q S c [] a w := h
theorem seqM_take {i : Nat} {o : Oper} {v : Value} {l : List (Bool × Nat)} {a : Act} {w : World} (ho : ops[i]? = some o) (hw : Region.wanted o (yielded ops a.tmps) = true)
    (hy : ∀ w', (i < c → S w') → (execOp a.eval o).run P w' = .ok (.value v) w') (h : seqM P ops Q S c l (a.put o.dst v) w) : seqM P ops Q S c ((true, i) :: l) a w := ⟨o, v, ho, .inl ⟨hw, hy⟩, h⟩
theorem seqM_skip {i : Nat} {o : Oper} {l : List (Bool × Nat)} {a : Act} {w : World} (ho : ops[i]? = some o) (hw : Region.wanted o (yielded ops a.tmps) = false)
    (h : seqM P ops Q S c l (a.put o.dst undef) w) : seqM P ops Q S c ((true, i) :: l) a w := ⟨o, undef, ho, .inr ⟨hw, rfl⟩, h⟩
theorem seqM_eff {i : Nat} {o : Oper} {l : List (Bool × Nat)} {a : Act} {w : World} (ho : ops[i]? = some o) (hw : Region.wanted o (yielded ops a.tmps) = true)
    (h : ∀ K : Act → World → Prop, (∀ a' w', seqM P ops Q S c l a' w' → K a' w') → o.wp P a w K Q) : seqM P ops Q S c ((false, i) :: l) a w := by
  show wpOp P ops Q i _ a w
  unfold wpOp
  simp only [ho, hw, if_true]
  exact .inl (h _ fun _ _ h => h)
end
attribute [irreducible] seqM
set_option maxRecDepth 20000
open Go.RowKit Go.Shelf
attribute [local go_sem] Oper.semAt_some
theorem yieldAt_of {F : Fence} {m D : Nat} {P : Program} {rec : Loop} {W : World} {args : Array Value} {R : Ending → World → Prop} (hF : F.fn rec.fn) (hl : W.heap[D]? = some (.loop rec)) (hr : rec.state = .ready) (hp : rec.pending = none) (hs : args.size = rec.params.size)
    (h : rec.assign.wpIn (F.inRound D) m P (Exit.then (fun a₁ w₁ => w₁.heap[D]? = some (.loop rec) ∧ rec.body.wpIn (F.inRound D) m P (fun e _ W3 => e = .normal ∧ W3.heap[D]? = some (.loop { rec with state := .busy }) ∧ R (.returned (.bool true)) (W3.putObj D (.loop rec))) a₁ (w₁.putObj D (.loop { rec with state := .busy }))) (fun _ _ _ => False)) { tmps := (rec.params.zip args).foldl (fun tmps (t, a) => tmps.setIfInBounds t a) rec.tmps, defers := [] } W) :
    YieldAt F m P D args W R := by
  refine ⟨rec.fn, _, rec.assign, rec.body, run_yield hl hs, roundIn_of_wpIn hF (wpIn_mono h ?_)⟩
  rintro e a1 w1 hq
  cases e with
  | normal =>
    obtain ⟨h1, h2⟩ := hq
    refine ⟨_, run_beginRound h1 hr, wpIn_mono h2 ?_⟩
    rintro e2 a2 w2 ⟨rfl, h3, h4⟩
    refine ⟨_, _, run_endRound none h3, ?_⟩
    have e : ({ { rec with state := LoopState.busy } with state := if (none : Option Code).isNone then LoopState.ready else LoopState.done, pending := none } : Loop) = rec := by
      obtain ⟨s, p, f, t, ps, asg, b, d⟩ := rec
      simp only at hr hp
      subst hr hp
      rfl
    rw [e]
    exact h4
  | _ => exact hq.elim
structure CO (w0 : World) (n0 c qs qc B D : Nat) (s : ByteArray) (rec : Loop) (pre : List (List UInt8)) (W : World) : Prop where
  bs : Blk W qs 9 #[.string s]
  bc : Blk W qc 280 #[.pointer (some ⟨c, 0, none⟩)]
  out : ∃ o, Blk W B 69 #[o] ∧ Owns W (D + 2) 9 1 es o (pre.map mkS)
  ld : W.heap[D]? = some (.deferred (some []))
  lr : W.heap[D + 1]? = some (.loop rec)
  kt : KT n0 w0.heap.size w0 W
  sz : D + 2 ≤ W.heap.size
section
variable {w0 : World} {n0 c qs qc B D : Nat} {s : ByteArray} {rec : Loop} {pre : List (List UInt8)} {W W' : World}
theorem heap_lt {W : World} {k : Nat} {o : Obj} (h : W.heap[k]? = some o) : k < W.heap.size := (Array.getElem?_eq_some_iff.1 h).1
theorem CO.step {row : Option Nat} (h : CO w0 n0 c qs qc B D s rec pre W) (hg : W.grownBy W' row) (hrow : ∀ k, row = some k → n0 ≤ k ∧ IsT W k) : CO w0 n0 c qs qc B D s rec pre W' := by
  have ne : ∀ k, ¬ IsT W k → some k ≠ row := fun k hk e => hk (hrow k e.symm).2
  obtain ⟨o, h1, h2⟩ := h.out
  refine ⟨h.bs.kept hg (ne _ (h.bs.notT (by decide))), h.bc.kept hg (ne _ (h.bc.notT (by decide))), ⟨o, h1.kept hg (ne _ (h1.notT (by decide))), h2.grownOther hg ?_⟩, (hg.block _ (heap_lt h.ld) (ne _ (obj_notT h.ld (by intros; simp)))).trans h.ld, (hg.block _ (heap_lt h.lr) (ne _ (obj_notT h.lr (by intros; simp)))).trans h.lr, h.kt.grown h.kt.size hg (fun k hk => .inr (hrow k hk)), Nat.le_trans h.sz hg.size⟩
  cases hv : o.ownBlock with
  | none => exact .inl rfl
  | some k => exact .inr (ne k (h2.notT k hv).2)
theorem CO.alloc (h : CO w0 n0 c qs qc B D s rec pre W) (o : Obj) : CO w0 n0 c qs qc B D s rec pre (W.alloc o) := h.step (World.grownBy_alloc W o none) (fun _ e => by cases e)
theorem CO.drew (h : CO w0 n0 c qs qc B D s rec pre W) : CO w0 n0 c qs qc B D s rec pre W.drew := ⟨h.bs, h.bc, h.out, h.ld, h.lr, h.kt.drew, h.sz⟩
end
theorem xor_nx (S : Nat) (c : UInt8) : ((S : Int) * 2 % 4294967296 + (gear c : Int)) % 4294967296 = (Pc.nx gear S c : Nat) := by
  unfold Pc.nx
  generalize gear c = g
  omega
theorem conv_own {W : World} {b : Nat} {v : Value} {l : List UInt8} (h : Owns W b 5 1 eb v l) : (convert 135 9 v).run Tryz.prog W = .ok (.string (mkS l)) W := by
  have hs : Tryz.prog.underlying 135 = some (.slice 5) := Tryz.underlying135
  have he : Tryz.prog.underlying 5 = some (.int .u8) := Tryz.underlying5
  have hd : Tryz.prog.underlying 9 = some .string := Tryz.underlying9
  unfold Owns at h
  rw [eb_map] at h
  exact run_string_own hs he hd h
theorem flat_ge : ∀ (l : List (List UInt8)), (∀ p ∈ l, 16 ≤ p.length ∧ p.length ≤ 128) → 16 * l.length ≤ l.flatten.length
  | [], _ => by simp
  | p :: l, h => by
    have h1 := (h p (by simp)).1
    have h2 := flat_ge l (fun q hq => h q (by simp [hq]))
    simp only [List.length_cons, List.flatten_cons, List.length_append]
    omega
theorem meas_lt {k n : Nat} (h : k < n) : n - (intOf (.int .i64 ((k : Int) + 1))).toNat < n - (intOf (.int .i64 (k : Int))).toNat := by simp [intOf]; omega
theorem pl_nat {x y z l k n : Nat} (h1 : 16 * l ≤ x) (h2 : x + y = z + min k n) (h3 : 16 ≤ y + 1) (h5 : k < n) (h6 : z + n ≤ 140737488355328) : (l + 1) * 16 ≤ 140737488355328 := by omega
set_option maxHeartbeats 1600000 in
theorem pieces_in (w0 : World) (n0 c qs qc B D n : Nat) (s : ByteArray) (rec : Loop) (S0 : Nat) (r0 : List UInt8) (hS0 : S0 < 4294967296) (hr0 : r0.length < 128) (hn : 1 ≤ n)
    (hn0 : n0 ≤ c) (hlen : r0.length + s.size ≤ 140737488355328)
    (hround : ∀ (p : List UInt8) (pre : List (List UInt8)) (S : Nat) (r : List UInt8) (W : World), Cutter W n0 c S r → CO w0 n0 c qs qc B D s rec pre W → (pre.length + 1) * 16 ≤ 140737488355328 →
      YieldAt Fence.wide (n - 1) Tryz.prog (D + 1) #[.string (mkS p)] W fun e W' => e = .returned (.bool true) ∧ Cutter W' n0 c S r ∧ CO w0 n0 c qs qc B D s rec (pre ++ [p]) W')
    (w : World) (hc : Cutter w n0 c S0 r0) (ho : CO w0 n0 c qs qc B D s rec [] w) :
    CallsIn Fence.wide n Tryz.prog 295 #[.func (.yield (D + 1)) #[] #[], .pointer (some ⟨qs, 0, none⟩), .pointer (some ⟨qc, 0, none⟩)] w fun e W' => (∃ v, e = .returned v) ∧
      Cutter W' n0 c (Pc.cuts gear S0 r0 (sl s)).2.1 (Pc.cuts gear S0 r0 (sl s)).2.2 ∧ CO w0 n0 c qs qc B D s rec (Pc.cuts gear S0 r0 (sl s)).1 W' := by
  have b0 := ho.bs.cell 0
  refine callsIn_of_wp Tryz.func295 rfl trivial ?_ rfl
  simp only [Tryz.ntmps295, List.size_toArray, List.length_cons, List.length_nil, Nat.reduceAdd, Nat.reduceSub, Array.replicate_succ, Array.replicate_zero, List.push_toArray, List.append_toArray, List.nil_append, List.cons_append]
  gi_wp2
  clear b0
  gi_loopw [9] (fun i wr => ∃ k : Nat, i = .int .i64 k ∧ k ≤ s.size ∧ Cutter wr n0 c (Pc.cuts gear S0 r0 ((sl s).take k)).2.1 (Pc.cuts gear S0 r0 ((sl s).take k)).2.2 ∧ CO w0 n0 c qs qc B D s rec (Pc.cuts gear S0 r0 ((sl s).take k)).1 wr) (fun i wr => s.size - (intOf i).toNat)
  case atStart => exact ⟨0, rfl, Nat.zero_le _, hc, ho⟩
  case round =>
    obtain ⟨k, rfl, hk, hcu, hco⟩ := hrel
    by_cases hlt : k < s.size
    · have HSN := Lib.hid (Pc.cuts_snoc gear S0 r0 ((sl s).take k) s[k])
      have HTK : Hid ((sl s).take (k + 1) = (sl s).take k ++ [s[k]]) := take_succ_of (sl_getElem? s k hlt)
      have HSM := Lib.hid (Pc.cuts_sum gear S0 r0 ((sl s).take k) hS0)
      have HSZ := Lib.hid (Pc.cuts_sizes gear S0 r0 ((sl s).take k) hr0)
      have HFL := Lib.hid (congrArg List.length (Pc.cuts_flat gear S0 r0 ((sl s).take k)))
      generalize Pc.cuts gear S0 r0 ((sl s).take k) = q at *
      obtain ⟨pre, S, r⟩ := q
      dsimp only at hcu hco ⊢
      have hcc := hcu
      obtain ⟨v, hbk, hown⟩ := hcu
      have c0 := hbk.cell 0
      have f0 := hbk.frozen 0
      have q0 := hco.bs.cell 0
      have p0 := hco.bc.cell 0
      gi_wp2
      refine wpIn_wide.2 ?_
      refine wp_region_last [(true, 0), (true, 1), (true, 2), (true, 3), (true, 4), (true, 5), (true, 6), (true, 7), (true, 8), (false, 9), (true, 10), (true, 11), (true, 12), (false, 13)] 13 (fun w' => w' = wr.drew) (by kernel_rfl) (by kernel_rfl) (by kernel_rfl) (fun _ _ _ _ _ h => h) (by kernel_rfl) (by kernel_rfl) ?_ ?_
      · rfl
      iterate 9 (first | (apply seqL_skip; (focus (simp only [List.getElem?_toArray, List.getElem?_cons_succ, List.getElem?_cons_zero]; rfl)); (focus rfl); simp only [Act.put, List.setIfInBounds_toArray, List.set_cons_zero, List.set_cons_succ]) | (apply seqL_take; (focus (simp only [List.getElem?_toArray, List.getElem?_cons_succ, List.getElem?_cons_zero]; rfl)); (focus rfl); (focus (intro w' hS; subst hS; first | (go_simp; rfl) | (go_simp; done))); simp only [Act.put, List.setIfInBounds_toArray, List.set_cons_zero, List.set_cons_succ]))
      apply seqL_eff
      (focus (simp only [List.getElem?_toArray, List.getElem?_cons_succ, List.getElem?_cons_zero]; rfl))
      (focus rfl)
      intro K hK
      go_simp
      refine (gear_any s[k] _).mono ?_
      rintro e w1 ⟨rfl, rfl⟩
      refine hK _ _ ⟨fun _ => rfl, ?_⟩
      clear hK K
      iterate 3 (first | (apply seqL_skip; (focus (simp only [List.getElem?_toArray, List.getElem?_cons_succ, List.getElem?_cons_zero]; rfl)); (focus rfl); simp only [Act.put, List.setIfInBounds_toArray, List.set_cons_zero, List.set_cons_succ]) | (apply seqL_take; (focus (simp only [List.getElem?_toArray, List.getElem?_cons_succ, List.getElem?_cons_zero]; rfl)); (focus rfl); (focus (intro w' hS; subst hS; first | (go_simp; rfl) | (go_simp; done))); simp only [Act.put, List.setIfInBounds_toArray, List.set_cons_zero, List.set_cons_succ]))
      apply seqL_eff
      (focus (simp only [List.getElem?_toArray, List.getElem?_cons_succ, List.getElem?_cons_zero]; rfl))
      (focus rfl)
      intro K hK
      go_simp
      have hnx : IntKind.u32.wrap (IntKind.u32.wrap ((S : Int) * 2) + (gear s[k] : Int)) = ((Pc.nx gear S s[k] : Nat) : Int) := by
        rw [IntKind.wrap_u32, IntKind.wrap_u32]
        exact xor_nx S s[k]
      rw [hnx]
      clear hnx
      have hbS := hbk.set_ 0 (.int .u32 (Pc.nx gear S s[k] : Nat))
      have hgs := grownBy_set wr c 0 (.int .u32 (Pc.nx gear S s[k] : Nat))
      have hoS := hown.grownOther hgs (by
        rcases hown.form with ⟨rfl, _⟩ | ⟨g, cc, rfl⟩
        · exact .inl rfl
        · exact .inr (hown.ne_blk hbk (by decide)))
      have hcS := (hco.step hgs (fun j hj => by cases hj; exact ⟨hn0, hbk.isT⟩)).drew
      change Blk ((wr.setCell ⟨c, 0, none⟩ (.int .u32 (Pc.nx gear S s[k] : Nat))).drew) c _ _ at hbS
      change Owns ((wr.setCell ⟨c, 0, none⟩ (.int .u32 (Pc.nx gear S s[k] : Nat))).drew) n0 _ _ _ _ _ at hoS
      refine hK _ _ ⟨fun h => absurd rfl h, ?_⟩
      clear hK K
      refine seqL_nil ?_
      clear hcc hbk hown c0 f0 q0 p0 hgs hco
      generalize (wr.setCell ⟨c, 0, none⟩ (.int .u32 (Pc.nx gear S s[k] : Nat))).drew = W1 at *
      have q1 := hcS.bs.cell 0
      have p1 := hcS.bc.cell 0
      have c1 := hbS.cell 1
      gi_wp2
      refine wpIn_wide.2 ?_
      refine wp_region_last [(true, 0), (true, 1), (true, 2), (true, 3), (true, 4), (true, 5), (true, 6), (true, 7), (false, 8), (false, 9), (true, 10), (true, 11), (false, 12)] 12 (fun w' => w'.cell? ⟨qs, 0, none⟩ = some (.string s) ∧ w'.cell? ⟨qc, 0, none⟩ = some (.pointer (some ⟨c, 0, none⟩)) ∧ w'.cell? ⟨c, 1, none⟩ = some v) (by kernel_rfl) (by kernel_rfl) (by kernel_rfl) (fun _ _ _ _ _ h => h) (by kernel_rfl) (by kernel_rfl) ?_ ?_
      · exact ⟨q1, p1, c1⟩
      iterate 8 (first | (apply seqL_skip; (focus (simp only [List.getElem?_toArray, List.getElem?_cons_succ, List.getElem?_cons_zero]; rfl)); (focus rfl); simp only [Act.put, List.setIfInBounds_toArray, List.set_cons_zero, List.set_cons_succ]) | (apply seqL_take; (focus (simp only [List.getElem?_toArray, List.getElem?_cons_succ, List.getElem?_cons_zero]; rfl)); (focus rfl); (focus (intro w' hS; obtain ⟨h1, h2, h3⟩ := hS; first | (go_simp; rfl) | (go_simp; done))); simp only [Act.put, List.setIfInBounds_toArray, List.set_cons_zero, List.set_cons_succ]))
      apply seqL_eff
      (focus (simp only [List.getElem?_toArray, List.getElem?_cons_succ, List.getElem?_cons_zero]; rfl))
      (focus rfl)
      intro K hK
      go_simp
      have al : ∀ p : Addr, p.block < W1.heap.size → (W1.drew.alloc (.cells #[bv s[k]] 5)).cell? p = W1.cell? p := fun p hp => World.cell?_alloc_lt W1.drew _ p hp
      have hoA : Owns (W1.drew.alloc (.cells #[bv s[k]] 5)) n0 5 1 eb v r := Owns.alloc (Owns.drew hoS) _
      have hbA : Blk (W1.drew.alloc (.cells #[bv s[k]] 5)) c 326 #[.int .u32 (Pc.nx gear S s[k] : Nat), v] := Blk.alloc (Blk.drew hbS) _
      have hcA : CO w0 n0 c qs qc B D s rec pre (W1.drew.alloc (.cells #[bv s[k]] 5)) := CO.alloc (CO.drew hcS) _
      have hnA : SlR (W1.drew.alloc (.cells #[bv s[k]] 5)) eb (.slice (some ⟨W1.heap.size, 0, none⟩) 1 1) [s[k]] := SlR.lit (enc := eb) W1.drew [bv s[k]] 5 [s[k]] rfl
      refine hK _ _ ⟨fun _ => ⟨(al _ hcS.bs.lt).trans q1, (al _ hcS.bc.lt).trans p1, (al _ hbS.lt).trans c1⟩, ?_⟩
      clear hK K al
      change seqL _ _ _ _ _ _ _ (W1.drew.alloc (.cells #[bv s[k]] 5))
      have hszA : W1.heap.size = W1.heap.size := rfl
      generalize hWA : W1.drew.alloc (.cells #[bv s[k]] 5) = WA at *
      apply seqL_eff
      (focus (simp only [List.getElem?_toArray, List.getElem?_cons_succ, List.getElem?_cons_zero]; rfl))
      (focus rfl)
      intro K hK
      refine wp_append_owns (.tmp 29) (.tmp 33) _ rfl n0 5 (.int .u8 0) 1 1 eb Tryz.underlying135 byteInfo rfl (by decide) (fun _ => rfl) _ r rfl hoA _ [s[k]] rfl hnA (eb_one _) (by have := HFL.out; simp only [List.length_append, List.length_take, sl_len] at this; simp only [maxLen, List.length_cons, List.length_nil]; omega) (by have := HFL.out; simp only [List.length_append, List.length_take, sl_len] at this; simp only [List.length_cons, List.length_nil]; omega) (by have := hbA.lt; omega) ?_
      intro v2 W2 hoB hgB
      have hbB := hbA.kept hgB (by
        intro e
        exact (hbA.isT.elim fun cs h => h.elim fun t h => h.elim fun m h => (hoA.ne_blk hbA (by decide)) e.symm))
      have hcB := hcA.step hgB hoA.isT
      refine hK _ _ ⟨fun _ => ⟨hcB.bs.cell 0, hcB.bc.cell 0, hbB.cell 1⟩, ?_⟩
      clear hK K
      obtain ⟨g2, cap2, rfl⟩ : ∃ g cap, v2 = .slice (some ⟨g, 0, none⟩) (r ++ [s[k]]).length cap := by
        rcases hoB.form with ⟨_, h⟩ | h
        · simp at h
        · exact h
      have c2 := hbB.cell 1
      have f2 := hbB.frozen 1
      have hbC : Blk (W2.setCell ⟨c, 1, none⟩ (.slice (some ⟨g2, 0, none⟩) (r ++ [s[k]]).length cap2)) c 326 #[.int .u32 (Pc.nx gear S s[k] : Nat), .slice (some ⟨g2, 0, none⟩) (r ++ [s[k]]).length cap2] := hbB.set_ 1 (.slice (some ⟨g2, 0, none⟩) (r ++ [s[k]]).length cap2)
      have hgC := grownBy_set W2 c 1 (.slice (some ⟨g2, 0, none⟩) (r ++ [s[k]]).length cap2)
      have hoC := hoB.grownOther hgC (.inr (hoB.ne_blk hbB (by decide)))
      have hcC := hcB.step hgC (fun j hj => by cases hj; exact ⟨hn0, hbB.isT⟩)
      clear hgB hoA hbA hcA hnA hbS hoS hcS q1 p1 c1 hWA
      generalize hR1 : (r ++ [s[k]]) = r1 at *
      have hl1 : r1.length = r.length + 1 := by rw [← hR1]; simp
      rw [hl1] at hbC hoC hcC
      iterate 2 (first | (apply seqL_skip; (focus (simp only [List.getElem?_toArray, List.getElem?_cons_succ, List.getElem?_cons_zero]; rfl)); (focus rfl); simp only [Act.put, List.setIfInBounds_toArray, List.set_cons_zero, List.set_cons_succ]) | (apply seqL_take; (focus (simp only [List.getElem?_toArray, List.getElem?_cons_succ, List.getElem?_cons_zero]; rfl)); (focus rfl); (focus (intro w' hS; obtain ⟨h1, h2, h3⟩ := hS; first | (go_simp; rfl) | (go_simp; done))); simp only [Act.put, List.setIfInBounds_toArray, List.set_cons_zero, List.set_cons_succ]))
      apply seqL_eff
      (focus (simp only [List.getElem?_toArray, List.getElem?_cons_succ, List.getElem?_cons_zero]; rfl))
      (focus rfl)
      intro K hK
      go_simp
      refine hK _ _ ⟨fun h => absurd rfl h, ?_⟩
      clear hK K
      refine seqL_nil ?_
      clear hbB hgC hoB hcB c2 f2
      generalize W2.setCell ⟨c, 1, none⟩ (.slice (some ⟨g2, 0, none⟩) (r.length + 1) cap2) = W3 at *
      have hS1 : Pc.nx gear S s[k] < 4294967296 := Nat.mod_lt _ (by decide)
      generalize Pc.nx gear S s[k] = S1 at *
      have hcell := hoC.lt
      have d0 := hbC.cell 0
      have d1 := hbC.cell 1
      have e0 := hcC.bs.cell 0
      have e1 := hcC.bc.cell 0
      have HCU : Hid (Cutter W3 n0 c S1 r1) := ⟨_, hbC, hoC⟩
      have HCO := Lib.hid hcC
      clear hcell
      by_cases hE : Pc.ends S1 r1.length = true
      · have hE' := hE
        simp only [Pc.ends, Bool.and_eq_true, decide_eq_true_eq, Bool.or_eq_true, beq_iff_eq] at hE'
        have g16 : decide (((r.length : Int) + 1) < 16) = false := decide_eq_false (by omega)
        by_cases hz : S1 / 134217728 = 0
        · have gz : (((S1 : Int) / 134217728) == 0) = true := by rw [beq_iff_eq]; omega
          have gzp : (S1 : Int) / 134217728 = 0 := by omega
          have gzn : ((S1 : Int) / 134217728 != 0) = false := by rw [gzp]; rfl
          have hcv := conv_own hoC
          generalize (S1 : Int) = X at d0 gz gzp gzn ⊢
          have hpl : (pre.length + 1) * 16 ≤ 140737488355328 := by
            have h1 := flat_ge pre HSZ.out.1
            have h2 := HFL.out
            simp only [List.length_append, List.length_take, sl_len] at h2
            exact pl_nat h1 h2 (hl1 ▸ hE'.1) hlt hlen
          have d2 := hbC.frozen 1
          gi_wp2
          refine wpIn_wide.2 ?_
          refine wp_region_last [(true, 0), (true, 1), (true, 2), (true, 3), (true, 4), (true, 5), (true, 6), (true, 7), (false, 8)] 8 (fun w' => w' = W3.drew) (by kernel_rfl) (by kernel_rfl) (by kernel_rfl) (fun _ _ _ _ _ h => h) (by kernel_rfl) (by kernel_rfl) ?_ ?_
          · rfl
          iterate 8 (first | (apply seqL_skip; (focus (simp only [List.getElem?_toArray, List.getElem?_cons_succ, List.getElem?_cons_zero]; rfl)); (focus rfl); simp only [Act.put, List.setIfInBounds_toArray, List.set_cons_zero, List.set_cons_succ]) | (apply seqL_take; (focus (simp only [List.getElem?_toArray, List.getElem?_cons_succ, List.getElem?_cons_zero]; rfl)); (focus rfl); (focus (intro w' hS; subst hS; first | (go_simp; rfl) | (go_simp; done))); simp only [Act.put, List.setIfInBounds_toArray, List.set_cons_zero, List.set_cons_succ]))
          apply seqL_eff
          (focus (simp only [List.getElem?_toArray, List.getElem?_cons_succ, List.getElem?_cons_zero]; rfl))
          (focus rfl)
          intro K hK
          go_simp
          refine hK _ _ ⟨fun h => absurd rfl h, ?_⟩
          clear hK K
          refine seqL_nil ?_
          have hbD : Blk (W3.setCell ⟨c, 1, none⟩ (.slice (some ⟨g2, 0, none⟩) 0 cap2)) c 326 #[.int .u32 (S1 : Nat), .slice (some ⟨g2, 0, none⟩) 0 cap2] := hbC.set_ 1 (.slice (some ⟨g2, 0, none⟩) 0 cap2)
          have hgD := grownBy_set W3 c 1 (.slice (some ⟨g2, 0, none⟩) 0 cap2)
          have hoD : Owns (W3.setCell ⟨c, 1, none⟩ (.slice (some ⟨g2, 0, none⟩) 0 cap2)) n0 5 1 eb (.slice (some ⟨g2, 0, none⟩) 0 cap2) [] := (Owns.pre (en := eb) (fun _ => rfl) hoC 0 (Nat.zero_le _)).grownOther hgD (.inr (hoC.ne_blk hbC (by decide)))
          have hcD := (HCO.out.step hgD (fun j hj => by cases hj; exact ⟨hn0, hbC.isT⟩)).drew
          have hqD : Cutter (W3.setCell ⟨c, 1, none⟩ (.slice (some ⟨g2, 0, none⟩) 0 cap2)).drew n0 c S1 [] := ⟨_, hbD, hoD⟩
          clear hbD hgD hoD hcv
          generalize (W3.setCell ⟨c, 1, none⟩ (.slice (some ⟨g2, 0, none⟩) 0 cap2)).drew = W4 at *
          obtain ⟨fn, tmps, assign, body, hy, hR⟩ := hround r1 pre S1 [] W4 hqD hcD hpl
          gi_wp2
          refine hR.mono ?_
          rintro e W5 ⟨rfl, hc5, ho5⟩
          gi_wp2
          go_roundw
          case rel => exact ⟨k + 1, by go_num, Nat.succ_le_of_lt hlt, by rw [HTK.out, HSN.out, if_pos hE]; exact hc5, by rw [HTK.out, HSN.out, if_pos hE]; exact ho5⟩
          case measure => exact meas_lt hlt
        · have gz : (((S1 : Int) / 134217728) == 0) = false := by rw [beq_eq_false_iff_ne]; omega
          have gzp : ¬ ((S1 : Int) / 134217728 = 0) := by omega
          have gzn : ((S1 : Int) / 134217728 != 0) = true := by rw [bne_iff_ne]; exact gzp
          have g128 : decide (((r.length : Int) + 1) < 128) = false := decide_eq_false (by omega)
          have hcv := conv_own hoC
          generalize (S1 : Int) = X at d0 gz gzp gzn ⊢
          have hpl : (pre.length + 1) * 16 ≤ 140737488355328 := by
            have h1 := flat_ge pre HSZ.out.1
            have h2 := HFL.out
            simp only [List.length_append, List.length_take, sl_len] at h2
            exact pl_nat h1 h2 (hl1 ▸ hE'.1) hlt hlen
          have d2 := hbC.frozen 1
          gi_wp2
          refine wpIn_wide.2 ?_
          refine wp_region_last [(true, 0), (true, 1), (true, 2), (true, 3), (true, 4), (true, 5), (true, 6), (true, 7), (false, 8)] 8 (fun w' => w' = W3.drew) (by kernel_rfl) (by kernel_rfl) (by kernel_rfl) (fun _ _ _ _ _ h => h) (by kernel_rfl) (by kernel_rfl) ?_ ?_
          · rfl
          iterate 8 (first | (apply seqL_skip; (focus (simp only [List.getElem?_toArray, List.getElem?_cons_succ, List.getElem?_cons_zero]; rfl)); (focus rfl); simp only [Act.put, List.setIfInBounds_toArray, List.set_cons_zero, List.set_cons_succ]) | (apply seqL_take; (focus (simp only [List.getElem?_toArray, List.getElem?_cons_succ, List.getElem?_cons_zero]; rfl)); (focus rfl); (focus (intro w' hS; subst hS; first | (go_simp; rfl) | (go_simp; done))); simp only [Act.put, List.setIfInBounds_toArray, List.set_cons_zero, List.set_cons_succ]))
          apply seqL_eff
          (focus (simp only [List.getElem?_toArray, List.getElem?_cons_succ, List.getElem?_cons_zero]; rfl))
          (focus rfl)
          intro K hK
          go_simp
          refine hK _ _ ⟨fun h => absurd rfl h, ?_⟩
          clear hK K
          refine seqL_nil ?_
          have hbD : Blk (W3.setCell ⟨c, 1, none⟩ (.slice (some ⟨g2, 0, none⟩) 0 cap2)) c 326 #[.int .u32 (S1 : Nat), .slice (some ⟨g2, 0, none⟩) 0 cap2] := hbC.set_ 1 (.slice (some ⟨g2, 0, none⟩) 0 cap2)
          have hgD := grownBy_set W3 c 1 (.slice (some ⟨g2, 0, none⟩) 0 cap2)
          have hoD : Owns (W3.setCell ⟨c, 1, none⟩ (.slice (some ⟨g2, 0, none⟩) 0 cap2)) n0 5 1 eb (.slice (some ⟨g2, 0, none⟩) 0 cap2) [] := (Owns.pre (en := eb) (fun _ => rfl) hoC 0 (Nat.zero_le _)).grownOther hgD (.inr (hoC.ne_blk hbC (by decide)))
          have hcD := (HCO.out.step hgD (fun j hj => by cases hj; exact ⟨hn0, hbC.isT⟩)).drew
          have hqD : Cutter (W3.setCell ⟨c, 1, none⟩ (.slice (some ⟨g2, 0, none⟩) 0 cap2)).drew n0 c S1 [] := ⟨_, hbD, hoD⟩
          clear hbD hgD hoD hcv
          generalize (W3.setCell ⟨c, 1, none⟩ (.slice (some ⟨g2, 0, none⟩) 0 cap2)).drew = W4 at *
          obtain ⟨fn, tmps, assign, body, hy, hR⟩ := hround r1 pre S1 [] W4 hqD hcD hpl
          gi_wp2
          refine hR.mono ?_
          rintro e W5 ⟨rfl, hc5, ho5⟩
          gi_wp2
          go_roundw
          case rel => exact ⟨k + 1, by go_num, Nat.succ_le_of_lt hlt, by rw [HTK.out, HSN.out, if_pos hE]; exact hc5, by rw [HTK.out, HSN.out, if_pos hE]; exact ho5⟩
          case measure => exact meas_lt hlt
      · have hE' := hE
        simp only [Pc.ends, Bool.and_eq_true, decide_eq_true_eq, Bool.or_eq_true, beq_iff_eq, not_and, not_or] at hE'
        by_cases h16 : r.length + 1 < 16
        · have g16 : decide (((r.length : Int) + 1) < 16) = true := decide_eq_true (by omega)
          gi_wp2
          go_roundw
          case rel => exact ⟨k + 1, by go_num, Nat.succ_le_of_lt hlt, by rw [HTK.out, HSN.out, if_neg hE]; exact HCU.out, by rw [HTK.out, HSN.out, if_neg hE]; exact HCO.out⟩
          case measure => exact meas_lt hlt
        · have g16 : decide (((r.length : Int) + 1) < 16) = false := decide_eq_false (by omega)
          have gz : (((S1 : Int) / 134217728) == 0) = false := by rw [beq_eq_false_iff_ne]; omega
          have gzp : ¬ ((S1 : Int) / 134217728 = 0) := by omega
          have gzn : ((S1 : Int) / 134217728 != 0) = true := by rw [bne_iff_ne]; exact gzp
          have g128 : decide (((r.length : Int) + 1) < 128) = true := decide_eq_true (by omega)
          generalize (S1 : Int) = X at d0 gz gzp gzn ⊢
          gi_wp2
          go_roundw
          case rel => exact ⟨k + 1, by go_num, Nat.succ_le_of_lt hlt, by rw [HTK.out, HSN.out, if_neg hE]; exact HCU.out, by rw [HTK.out, HSN.out, if_neg hE]; exact HCO.out⟩
          case measure => exact meas_lt hlt
    · have hE : (sl s).take k = sl s := List.take_of_length_le (by rw [sl_len]; omega)
      rw [hE] at hcu hco
      gi_wp2
      go_end0
      exact ⟨⟨_, rfl⟩, hcu, hco⟩
end Go.Proofs.YtgjfhgcjiglfkaaGreatDoor
