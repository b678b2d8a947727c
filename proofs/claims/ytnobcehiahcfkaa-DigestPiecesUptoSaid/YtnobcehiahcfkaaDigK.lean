/- digest: New, (*Hash).Write. -/
import Derived.Test.YtnobcehiahcfkaaDigI
import Derived.Test.YtnobcehiahcfkaaOff
import Derived.Great.Walk
namespace Go.Proofs.Ytnobcehiahcfkaa
set_option maxRecDepth 20000
open Go.RowKit
def bsI (l : List UInt8) : List Int := l.map fun c => (c.toNat : Int)
theorem bsI_len (l : List UInt8) : (bsI l).length = l.length := List.length_map ..
theorem blockF_len (H bs : List Int) (many : Int) (last : Bool) : (blockF H bs many last).length = 8 := finV_len ..
/-- What Write takes in. -/
def absorb (H : List Int) (m : Nat) (l : List UInt8) : List Int × Nat × List UInt8 :=
  if 64 < l.length then absorb (blockF H (bsI (l.take 64)) ((m + 64 : Nat) : Int) false) (m + 64) (l.drop 64) else (H, m, l)
termination_by l.length
decreasing_by rw [List.length_drop]; omega
theorem absorb_step (H : List Int) (m : Nat) (l : List UInt8) (h : 64 < l.length) : absorb H m l = absorb (blockF H (bsI (l.take 64)) ((m + 64 : Nat) : Int) false) (m + 64) (l.drop 64) := by rw [absorb, if_pos h]
theorem absorb_end (H : List Int) (m : Nat) (l : List UInt8) (h : ¬ 64 < l.length) : absorb H m l = (H, m, l) := by rw [absorb, if_neg h]
theorem absorb_app (b : List UInt8) : ∀ (n : Nat) (H : List Int) (m : Nat) (a : List UInt8), a.length ≤ n → absorb H m (a ++ b) = absorb (absorb H m a).1 (absorb H m a).2.1 ((absorb H m a).2.2 ++ b) := by
  intro n
  induction n with
  | zero =>
    intro H m a h
    rw [absorb_end H m a (by omega)]
  | succ n ih =>
    intro H m a h
    by_cases h64 : 64 < a.length
    · rw [absorb_step H m a h64, absorb_step H m (a ++ b) (by rw [List.length_append]; omega), List.take_append_of_le_length (by omega), List.drop_append_of_le_length (by omega)]
      exact ih _ _ _ (by rw [List.length_drop]; omega)
    · rw [absorb_end H m a h64]
theorem absorb_ok : ∀ (n : Nat) (H : List Int) (m : Nat) (a : List UInt8), a.length ≤ n → H.length = 8 → (absorb H m a).1.length = 8 ∧ (absorb H m a).2.2.length ≤ 64 ∧ (absorb H m a).2.1 + (absorb H m a).2.2.length = m + a.length := by
  intro n
  induction n with
  | zero =>
    intro H m a h hH
    rw [absorb_end H m a (by omega)]
    exact ⟨hH, by dsimp only; omega, rfl⟩
  | succ n ih =>
    intro H m a h hH
    by_cases h64 : 64 < a.length
    · rw [absorb_step H m a h64]
      obtain ⟨h1, h2, h3⟩ := ih (blockF H (bsI (a.take 64)) ((m + 64 : Nat) : Int) false) (m + 64) (a.drop 64) (by rw [List.length_drop]; omega) (blockF_len ..)
      rw [List.length_drop] at h3
      exact ⟨h1, h2, by omega⟩
    · rw [absorb_end H m a h64]
      exact ⟨hH, by dsimp only; omega, rfl⟩
/-- A hash that is under way. -/
def Hsh (w : World) (n0 p : Nat) (H : List Int) (m : Nat) (r : List UInt8) : Prop :=
  ∃ h0 h1 h2 h3 h4 h5 h6 h7 v, H = [h0, h1, h2, h3, h4, h5, h6, h7] ∧ Blk w p 105 #[.int .u32 h0, .int .u32 h1, .int .u32 h2, .int .u32 h3, .int .u32 h4, .int .u32 h5, .int .u32 h6, .int .u32 h7, v, .int .u64 (m : Int)] ∧ OwnB w n0 5 v r
theorem Hsh.len {w : World} {n0 p m : Nat} {H : List Int} {r : List UInt8} (h : Hsh w n0 p H m r) : H.length = 8 := by
  obtain ⟨h0, h1, h2, h3, h4, h5, h6, h7, v, rfl, _⟩ := h; rfl
theorem Hsh.below {w w' : World} {n0 p m : Nat} {H : List Int} {r : List UInt8} (h : Hsh w n0 p H m r) (hb : Below w.heap.size w w') : Hsh w' n0 p H m r := by
  obtain ⟨h0, h1, h2, h3, h4, h5, h6, h7, v, rfl, h1, h2⟩ := h
  exact ⟨_, _, _, _, _, _, _, _, v, rfl, h1.below hb h1.lt, h2.below hb⟩
def H0L : List Int := [bits .xor .u32 1779033703 16842784, 3144134277, 1013904242, 2773480762, 1359893119, 2600822924, 528734635, 1541459225]
theorem newH_any (w : World) : Calls Try.prog 33 #[] w fun e w' => ∃ p, e = .returned (.pointer (some ⟨p, 0, none⟩)) ∧ w.heap.size ≤ p ∧ Hsh w' w.heap.size p H0L 0 [] ∧ Below w.heap.size w w' := by
  go_enter Try.func33, Try.ntmps33
  go_wp2_with fail
  refine (iv_any _).mono ?_
  rintro e w1 ⟨rfl, b1⟩
  go_wp2_with fail
  go_ret
  refine ⟨w1.heap.size + 1, rfl, Nat.le_succ_of_le b1.size, ⟨_, _, _, _, _, _, _, _, _, rfl, ?_, OwnB.nil ..⟩, (b1.alloc b1.size _).alloc (by simp; have := b1.size; omega) _⟩
  have := Blk.new (w1.alloc (.cells #[.int .u32 (bits .xor .u32 1779033703 16842784), .int .u32 3144134277, .int .u32 1013904242, .int .u32 2773480762, .int .u32 1359893119, .int .u32 2600822924, .int .u32 528734635, .int .u32 1541459225] 101)) 105 #[.int .u32 (bits .xor .u32 1779033703 16842784), .int .u32 3144134277, .int .u32 1013904242, .int .u32 2773480762, .int .u32 1359893119, .int .u32 2600822924, .int .u32 528734635, .int .u32 1541459225, .slice none 0 0, .int .u64 0]
  rwa [World.size_alloc] at this
/-- How many bytes wait: for the loop's measure. -/
def restLen (w : World) (p : Nat) : Nat := match w.cell? ⟨p, 8, none⟩ with | some (.slice _ n _) => n | _ => 0
theorem OwnB.slice {w : World} {base : Nat} {e : TypeId} {v : Value} {l : List UInt8} (h : OwnB w base e v l) : ∃ A c, v = .slice A l.length c := by
  rcases h.form with ⟨rfl, rfl⟩ | ⟨g, off, c, rfl, _⟩
  · exact ⟨_, _, rfl⟩
  · exact ⟨_, _, rfl⟩
theorem meas64 {n : Nat} (h : 64 < n) : n - 64 < n := by omega
set_option maxHeartbeats 4000000 in
theorem writeH_any (n0 p m : Nat) (H : List Int) (r : List UInt8) (s : ByteArray) (w : World) (hh : Hsh w n0 p H m r) (hn0 : n0 ≤ p) (hr : r.length ≤ 64) (hlen : m + r.length + s.size ≤ 140737488355200) :
    Calls Try.prog 34 #[.pointer (some ⟨p, 0, none⟩), .string s] w fun e w' => e = .returned (.tuple #[]) ∧ Hsh w' n0 p (absorb H m (r ++ sl s)).1 (absorb H m (r ++ sl s)).2.1 (absorb H m (r ++ sl s)).2.2 ∧ Below n0 w w' := by
  obtain ⟨h0, h1, h2, h3, h4, h5, h6, h7, v, hH, hb, ho⟩ := hh
  have c8 := hb.cell 8
  have f8 := hb.frozen 8
  have hn0w : n0 ≤ w.heap.size := Nat.le_trans hn0 (Nat.le_of_lt hb.lt)
  have HO := Lib.hid ho
  have HB := Lib.hid hb
  obtain ⟨A, c, hv⟩ := ho.slice
  have hne := ho.ne_blk hb (by decide)
  subst hv
  have HH := Lib.hid hH
  clear ho hb hH
  have hst : ∀ w1 : World, w.grownBy w1 (Value.slice A r.length c).ownBlock → w1.cell? ⟨p, 8, none⟩ = some (.slice A r.length c) ∧ w1.frozen? ⟨p, 8, none⟩ = false := fun w1 hg => by
    have := HB.out.keptO hg hne
    exact ⟨this.cell 8, this.frozen 8⟩
  have HST := Lib.hid hst
  clear hst
  have hs1 : (r ++ sl s).length = r.length + s.size := by rw [List.length_append, sl_len]
  have hm1 : m + (r ++ sl s).length ≤ 140737488355200 := by omega
  obtain ⟨r1, hr1⟩ : ∃ r1, r1 = r ++ sl s := ⟨_, rfl⟩
  rw [← hr1] at hm1 ⊢
  have HR1 := Lib.hid hr1
  clear hs1 hr1
  go_enter Try.func34, Try.ntmps34
  go_wp2_with (at_builtin; go_must (refine wpList_append_text_off rfl (.tmp 8) (.tmp 9) _ _ rfl n0 5 Try.underlying78 Try.underlying9 byteInfo (.slice A r.length c) r rfl HO.out s rfl (by omega) hn0w ?_); intro v1 w1 ho1 hg1; obtain ⟨d8, z8⟩ := HST.out w1 hg1; rw [← HR1.out] at ho1; have HO1 := Lib.hid ho1; obtain ⟨A1, c1, hv1⟩ := ho1.slice; subst hv1; clear ho1)
  have HB1 : Blk (w1.setCell ⟨p, 8, none⟩ (.slice A1 r1.length c1)) p 105 #[.int .u32 h0, .int .u32 h1, .int .u32 h2, .int .u32 h3, .int .u32 h4, .int .u32 h5, .int .u32 h6, .int .u32 h7, .slice A1 r1.length c1, .int .u64 (m : Int)] :=
    (HB.out.keptO hg1 hne).set_ 8 (.slice A1 r1.length c1)
  have hne1 := HO1.out.ne_blk (HB.out.keptO hg1 hne) (by decide)
  have hO1 := HO1.out.kept (set_grown w1 p 8 (.slice A1 r1.length c1)) hne1
  have hb1 : Below n0 w (w1.setCell ⟨p, 8, none⟩ (.slice A1 r1.length c1)) := ((Below.refl n0 w).grown hg1 hn0w (fun k hk => (HO.out.lt k hk).1)).setCell (p := ⟨p, 8, none⟩) hn0 _
  have HHS : Hsh (w1.setCell ⟨p, 8, none⟩ (.slice A1 r1.length c1)) n0 p H m r1 := ⟨h0, h1, h2, h3, h4, h5, h6, h7, _, HH.out, HB1, hO1⟩
  generalize w1.setCell ⟨p, 8, none⟩ (.slice A1 r1.length c1) = W0 at *
  clear HB HB1 hO1 hne1 HO1 HST hne hg1 d8 z8 HO c8 f8 HH hlen hr HR1
  go_loopw [13] (fun _ wr => ∃ H' m' r', Hsh wr n0 p H' m' r' ∧ absorb H' m' r' = absorb H m r1 ∧ m' + r'.length ≤ 140737488355200 ∧ Below n0 w wr) (fun _ wr => restLen wr p)
  case atStart => exact ⟨H, m, r1, HHS, rfl, hm1, hb1⟩
  case round =>
    obtain ⟨H', m', r', hh', hab, hml, hbe⟩ := hrel
    obtain ⟨g0, g1, g2, g3, g4, g5, g6, g7, v', hH', hb', ho'⟩ := hh'
    obtain ⟨A2, c2, hv2⟩ := ho'.slice
    subst hv2
    have c8 := hb'.cell 8
    clear HHS hb1
    by_cases h64 : 64 < r'.length
    · have hd64 : decide ((64 : Int) < (r'.length : Int)) = true := by rw [decide_eq_true_eq]; omega
      have HML : Hid (restLen wr p = r'.length) := by show restLen wr p = _; unfold restLen; rw [hb'.cell 8]; rfl
      have HAB := Lib.hid hab
      have HH' := Lib.hid hH'
      obtain ⟨gb, ob, c3, hv3, hc3⟩ : ∃ gb ob c3, Value.slice A2 r'.length c2 = .slice (some ⟨gb, ob, none⟩) r'.length c3 ∧ r'.length ≤ c3 := by
        rcases ho'.form with ⟨_, h⟩ | ⟨g, off, cap, h, h2⟩
        · rw [h] at h64; simp at h64
        · exact ⟨g, off, cap, h, h2⟩
      injection hv3 with e1 _ e3
      subst e1 e3
      have c9 := hb'.cell 9
      have f9 := hb'.frozen 9
      obtain ⟨M, hM⟩ : ∃ M, M = m' + 64 := ⟨_, rfl⟩
      have hw64 : IntKind.u64.wrap ((m' : Int) + 64) = (M : Int) := by rw [IntKind.wrap_u64]; omega
      have HM := Lib.hid hM
      have hbA := hb'.set_ 9 (.int .u64 (M : Int))
      have hoA := ho'.kept (set_grown wr p 9 (.int .u64 (M : Int))) (ho'.ne_blk hb' (by decide))
      have hbeA := hbe.setCell (p := ⟨p, 9, none⟩) hn0 (.int .u64 (M : Int))
      have hlc := hc3
      clear hab hH' hbe hM hc3
      go_wp2_with fail
      clear c8 c9 f9 hw64 hb' ho'
      generalize wr.setCell ⟨p, 9, none⟩ (.int .u64 (M : Int)) = Wa at hbA hoA hbeA ⊢
      have hr64 : (r'.take 64).length = 64 := by rw [List.length_take]; omega
      have HBC : Hid (∀ j x, (bsI (r'.take 64))[j]? = some x → Wa.drew.cell? ⟨gb, ob + j, none⟩ = some (.int .u8 x)) := by
        intro j x hj
        unfold bsI at hj
        rw [List.getElem?_map] at hj
        cases hc : (r'.take 64)[j]? with
        | none => rw [hc] at hj; cases hj
        | some c =>
          rw [hc] at hj
          cases hj
          rw [List.getElem?_take] at hc
          split at hc
          · exact hoA.drew.cells j c hc
          · cases hc
      have hbl : (bsI (r'.take 64)).length = 64 := by rw [bsI_len, hr64]
      have hc64 : (64 : Int) ≤ (c2 : Int) := by omega
      have HAB2 : Hid (absorb (blockF H' (bsI (r'.take 64)) (M : Int) false) M (r'.drop 64) = absorb H m r1) := by
        show _ = _
        rw [← HAB.out, absorb_step H' m' r' h64, HM.out]
      generalize bsI (r'.take 64) = BS at HBC hbl HAB2
      refine wp_region_last [(true, 0), (true, 1), (true, 2), (true, 3), (true, 4), (true, 5), (true, 6), (true, 7), (true, 8), (true, 9), (true, 10), (true, 11), (true, 12), (true, 13), (false, 14), (true, 15), (true, 16), (false, 17)] 17 (fun w' => Below Wa.heap.size Wa w') (by kernel_rfl) (by kernel_rfl) (by kernel_rfl) (fun _ _ _ _ _ h => h) (by kernel_rfl) (by kernel_rfl) ?_ ?_
      · exact (Below.refl _ _).drew
      iterate 14 (first | (apply seqL_skip; (focus (simp only [List.getElem?_toArray, List.getElem?_cons_succ, List.getElem?_cons_zero]; rfl)); (focus rfl); simp only [Act.put, List.setIfInBounds_toArray, List.set_cons_zero, List.set_cons_succ]) | (apply seqL_take; (focus (simp only [List.getElem?_toArray, List.getElem?_cons_succ, List.getElem?_cons_zero]; rfl)); (focus rfl); (focus (intro w' hS; have hq := hbA.below hS hbA.lt; have y0 := hq.cell 0; have y1 := hq.cell 1; have y2 := hq.cell 2; have y3 := hq.cell 3; have y4 := hq.cell 4; have y5 := hq.cell 5; have y6 := hq.cell 6; have y7 := hq.cell 7; have y8 := hq.cell 8; have y9 := hq.cell 9; first | (go_simp; rfl) | (go_simp; done))); simp only [Act.put, List.setIfInBounds_toArray, List.set_cons_zero, List.set_cons_succ]))
      apply seqL_eff
      (focus (simp only [List.getElem?_toArray, List.getElem?_cons_succ, List.getElem?_cons_zero]; rfl))
      (focus rfl)
      intro K hK
      go_simp
      refine (block_mid g0 g1 g2 g3 g4 g5 g6 g7 gb ob c2 BS (M : Int) Wa.drew hbl HBC.out).mono ?_
      rintro e w2 ⟨rfl, b2⟩
      have HXL : Hid ((blockF [g0, g1, g2, g3, g4, g5, g6, g7] BS (M : Int) false).length = 8) := blockF_len ..
      rw [show H' = [g0, g1, g2, g3, g4, g5, g6, g7] from HH'.out] at HAB2
      generalize blockF [g0, g1, g2, g3, g4, g5, g6, g7] BS (M : Int) false = X at HXL HAB2 ⊢
      obtain ⟨x0, x1, x2, x3, x4, x5, x6, x7, hX⟩ := list8 X HXL.out
      have hXe : eU X = #[.int .u32 x0, .int .u32 x1, .int .u32 x2, .int .u32 x3, .int .u32 x4, .int .u32 x5, .int .u32 x6, .int .u32 x7] := by rw [hX]; rfl
      rw [hXe]
      have HX := Lib.hid hX
      clear hX hXe
      have b2' : Below Wa.heap.size Wa w2 := (Below.refl _ Wa).drew.trans b2
      refine hK _ _ ⟨fun _ => b2', ?_⟩
      clear hK K
      iterate 2 (first | (apply seqL_skip; (focus (simp only [List.getElem?_toArray, List.getElem?_cons_succ, List.getElem?_cons_zero]; rfl)); (focus rfl); simp only [Act.put, List.setIfInBounds_toArray, List.set_cons_zero, List.set_cons_succ]) | (apply seqL_take; (focus (simp only [List.getElem?_toArray, List.getElem?_cons_succ, List.getElem?_cons_zero]; rfl)); (focus rfl); (focus (intro w' hS; have hq := hbA.below hS hbA.lt; have y0 := hq.cell 0; have y1 := hq.cell 1; have y2 := hq.cell 2; have y3 := hq.cell 3; have y4 := hq.cell 4; have y5 := hq.cell 5; have y6 := hq.cell 6; have y7 := hq.cell 7; have y8 := hq.cell 8; have y9 := hq.cell 9; first | (go_simp; rfl) | (go_simp; done))); simp only [Act.put, List.setIfInBounds_toArray, List.set_cons_zero, List.set_cons_succ]))
      apply seqL_eff
      (focus (simp only [List.getElem?_toArray, List.getElem?_cons_succ, List.getElem?_cons_zero]; rfl))
      (focus rfl)
      intro K hK
      have hq := hbA.below b2' hbA.lt
      have y0 := hq.cell 0; have y1 := hq.cell 1; have y2 := hq.cell 2; have y3 := hq.cell 3; have y4 := hq.cell 4; have y5 := hq.cell 5; have y6 := hq.cell 6; have y7 := hq.cell 7; have y8 := hq.cell 8; have y9 := hq.cell 9
      have z0 := hq.frozen 0
      have z1 := hq.frozen 1
      have z2 := hq.frozen 2
      have z3 := hq.frozen 3
      have z4 := hq.frozen 4
      have z5 := hq.frozen 5
      have z6 := hq.frozen 6
      have z7 := hq.frozen 7
      go_simp
      refine hK _ _ ⟨fun h => absurd rfl h, ?_⟩
      clear hK K
      refine seqL_nil ?_
      clear y0 y1 y2 y3 y4 y5 y6 y7 y8 y9 z0 z1 z2 z3 z4 z5 z6 z7
      have k0 : Blk (w2.setCell ⟨p, 0, none⟩ (.int .u32 x0)) p 105 #[.int .u32 x0, .int .u32 g1, .int .u32 g2, .int .u32 g3, .int .u32 g4, .int .u32 g5, .int .u32 g6, .int .u32 g7, .slice (some ⟨gb, ob, none⟩) r'.length c2, .int .u64 (M : Int)] := hq.set_ 0 (.int .u32 x0)
      have k1 : Blk ((w2.setCell ⟨p, 0, none⟩ (.int .u32 x0)).setCell ⟨p, 1, none⟩ (.int .u32 x1)) p 105 #[.int .u32 x0, .int .u32 x1, .int .u32 g2, .int .u32 g3, .int .u32 g4, .int .u32 g5, .int .u32 g6, .int .u32 g7, .slice (some ⟨gb, ob, none⟩) r'.length c2, .int .u64 (M : Int)] := k0.set_ 1 (.int .u32 x1)
      have k2 : Blk (((w2.setCell ⟨p, 0, none⟩ (.int .u32 x0)).setCell ⟨p, 1, none⟩ (.int .u32 x1)).setCell ⟨p, 2, none⟩ (.int .u32 x2)) p 105 #[.int .u32 x0, .int .u32 x1, .int .u32 x2, .int .u32 g3, .int .u32 g4, .int .u32 g5, .int .u32 g6, .int .u32 g7, .slice (some ⟨gb, ob, none⟩) r'.length c2, .int .u64 (M : Int)] := k1.set_ 2 (.int .u32 x2)
      have k3 : Blk ((((w2.setCell ⟨p, 0, none⟩ (.int .u32 x0)).setCell ⟨p, 1, none⟩ (.int .u32 x1)).setCell ⟨p, 2, none⟩ (.int .u32 x2)).setCell ⟨p, 3, none⟩ (.int .u32 x3)) p 105 #[.int .u32 x0, .int .u32 x1, .int .u32 x2, .int .u32 x3, .int .u32 g4, .int .u32 g5, .int .u32 g6, .int .u32 g7, .slice (some ⟨gb, ob, none⟩) r'.length c2, .int .u64 (M : Int)] := k2.set_ 3 (.int .u32 x3)
      have k4 : Blk (((((w2.setCell ⟨p, 0, none⟩ (.int .u32 x0)).setCell ⟨p, 1, none⟩ (.int .u32 x1)).setCell ⟨p, 2, none⟩ (.int .u32 x2)).setCell ⟨p, 3, none⟩ (.int .u32 x3)).setCell ⟨p, 4, none⟩ (.int .u32 x4)) p 105 #[.int .u32 x0, .int .u32 x1, .int .u32 x2, .int .u32 x3, .int .u32 x4, .int .u32 g5, .int .u32 g6, .int .u32 g7, .slice (some ⟨gb, ob, none⟩) r'.length c2, .int .u64 (M : Int)] := k3.set_ 4 (.int .u32 x4)
      have k5 : Blk ((((((w2.setCell ⟨p, 0, none⟩ (.int .u32 x0)).setCell ⟨p, 1, none⟩ (.int .u32 x1)).setCell ⟨p, 2, none⟩ (.int .u32 x2)).setCell ⟨p, 3, none⟩ (.int .u32 x3)).setCell ⟨p, 4, none⟩ (.int .u32 x4)).setCell ⟨p, 5, none⟩ (.int .u32 x5)) p 105 #[.int .u32 x0, .int .u32 x1, .int .u32 x2, .int .u32 x3, .int .u32 x4, .int .u32 x5, .int .u32 g6, .int .u32 g7, .slice (some ⟨gb, ob, none⟩) r'.length c2, .int .u64 (M : Int)] := k4.set_ 5 (.int .u32 x5)
      have k6 : Blk (((((((w2.setCell ⟨p, 0, none⟩ (.int .u32 x0)).setCell ⟨p, 1, none⟩ (.int .u32 x1)).setCell ⟨p, 2, none⟩ (.int .u32 x2)).setCell ⟨p, 3, none⟩ (.int .u32 x3)).setCell ⟨p, 4, none⟩ (.int .u32 x4)).setCell ⟨p, 5, none⟩ (.int .u32 x5)).setCell ⟨p, 6, none⟩ (.int .u32 x6)) p 105 #[.int .u32 x0, .int .u32 x1, .int .u32 x2, .int .u32 x3, .int .u32 x4, .int .u32 x5, .int .u32 x6, .int .u32 g7, .slice (some ⟨gb, ob, none⟩) r'.length c2, .int .u64 (M : Int)] := k5.set_ 6 (.int .u32 x6)
      have hbB : Blk ((((((((w2.setCell ⟨p, 0, none⟩ (.int .u32 x0)).setCell ⟨p, 1, none⟩ (.int .u32 x1)).setCell ⟨p, 2, none⟩ (.int .u32 x2)).setCell ⟨p, 3, none⟩ (.int .u32 x3)).setCell ⟨p, 4, none⟩ (.int .u32 x4)).setCell ⟨p, 5, none⟩ (.int .u32 x5)).setCell ⟨p, 6, none⟩ (.int .u32 x6)).setCell ⟨p, 7, none⟩ (.int .u32 x7)) p 105 #[.int .u32 x0, .int .u32 x1, .int .u32 x2, .int .u32 x3, .int .u32 x4, .int .u32 x5, .int .u32 x6, .int .u32 x7, .slice (some ⟨gb, ob, none⟩) r'.length c2, .int .u64 (M : Int)] := k6.set_ 7 (.int .u32 x7)
      have hoB : OwnB ((((((((w2.setCell ⟨p, 0, none⟩ (.int .u32 x0)).setCell ⟨p, 1, none⟩ (.int .u32 x1)).setCell ⟨p, 2, none⟩ (.int .u32 x2)).setCell ⟨p, 3, none⟩ (.int .u32 x3)).setCell ⟨p, 4, none⟩ (.int .u32 x4)).setCell ⟨p, 5, none⟩ (.int .u32 x5)).setCell ⟨p, 6, none⟩ (.int .u32 x6)).setCell ⟨p, 7, none⟩ (.int .u32 x7)) n0 5 (.slice (some ⟨gb, ob, none⟩) r'.length c2) r' := OwnB.sets (by decide) [.int .u32 x0, .int .u32 x1, .int .u32 x2, .int .u32 x3, .int .u32 x4, .int .u32 x5, .int .u32 x6, .int .u32 x7] 0 w2 _ hq (hoA.below b2')
      have hbeB : Below n0 w ((((((((w2.setCell ⟨p, 0, none⟩ (.int .u32 x0)).setCell ⟨p, 1, none⟩ (.int .u32 x1)).setCell ⟨p, 2, none⟩ (.int .u32 x2)).setCell ⟨p, 3, none⟩ (.int .u32 x3)).setCell ⟨p, 4, none⟩ (.int .u32 x4)).setCell ⟨p, 5, none⟩ (.int .u32 x5)).setCell ⟨p, 6, none⟩ (.int .u32 x6)).setCell ⟨p, 7, none⟩ (.int .u32 x7)) := below_sets hn0 [.int .u32 x0, .int .u32 x1, .int .u32 x2, .int .u32 x3, .int .u32 x4, .int .u32 x5, .int .u32 x6, .int .u32 x7] 0 w2 (hbeA.trans (b2'.mono (Nat.le_trans hn0 (Nat.le_of_lt hbA.lt))))
      clear hq k0 k1 k2 k3 k4 k5 k6 b2 b2' hbA hoA hbeA HBC hbl HXL
      generalize ((((((((w2.setCell ⟨p, 0, none⟩ (.int .u32 x0)).setCell ⟨p, 1, none⟩ (.int .u32 x1)).setCell ⟨p, 2, none⟩ (.int .u32 x2)).setCell ⟨p, 3, none⟩ (.int .u32 x3)).setCell ⟨p, 4, none⟩ (.int .u32 x4)).setCell ⟨p, 5, none⟩ (.int .u32 x5)).setCell ⟨p, 6, none⟩ (.int .u32 x6)).setCell ⟨p, 7, none⟩ (.int .u32 x7)) = Wb at hbB hoB hbeB ⊢
      have y8 := hbB.cell 8
      have z8 := hbB.frozen 8
      have hbC := hbB.set_ 8 (.slice (some ⟨gb, ob + 64, none⟩) (r'.length - 64) (c2 - 64))
      have hoC := (hoB.drop (k := 64) (by omega)).set_ hbB (by decide) 8 (.slice (some ⟨gb, ob + 64, none⟩) (r'.length - 64) (c2 - 64))
      have hbeC := hbeB.setCell (p := ⟨p, 8, none⟩) hn0 (.slice (some ⟨gb, ob + 64, none⟩) (r'.length - 64) (c2 - 64))
      have hmeas : restLen (Wb.setCell ⟨p, 8, none⟩ (.slice (some ⟨gb, ob + 64, none⟩) (r'.length - 64) (c2 - 64))) p < restLen wr p := by
        rw [HML.out]
        unfold restLen
        rw [hbC.cell 8]
        exact meas64 h64
      have HD := Lib.hid hmeas
      clear hmeas HML
      go_wp2_with fail
      exact ⟨⟨X, M, r'.drop 64, ⟨x0, x1, x2, x3, x4, x5, x6, x7, _, HX.out, hbC, hoC⟩, HAB2.out, by rw [List.length_drop]; have := HM.out; omega, hbeC⟩, HD.out⟩
    · have hd64 : decide ((64 : Int) < (r'.length : Int)) = false := by rw [decide_eq_false_iff_not]; omega
      have HAB := Lib.hid hab
      rw [absorb_end H' m' r' h64] at HAB
      clear hab
      go_wp2_with fail
      rw [← HAB.out]
      exact Great.bodyPost_end0 rfl rfl ⟨rfl, ⟨g0, g1, g2, g3, g4, g5, g6, g7, _, hH', hb', ho'⟩, hbe⟩
end Go.Proofs.Ytnobcehiahcfkaa
