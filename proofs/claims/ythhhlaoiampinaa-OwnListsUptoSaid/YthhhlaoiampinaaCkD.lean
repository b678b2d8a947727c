/- chunk.New, (*Cutter).End, chunk.Cut. -/
import Derived.Test.YthhhlaoiampinaaCkC
namespace Go.Proofs.Ythhhlaoiampinaa
set_option maxRecDepth 20000
open Go.RowKit Go.Shelf
/-- Of another type than the cutter's: it lies on. -/
theorem Owns.ktS {α : Type} {w w' : World} {n0 b s : Nat} {en : α → List Value} {v : Value} {xs : List α} (h : Owns w b 9 s en v xs) (hk : KT n0 w.heap.size w w') : Owns w' b 9 s en v xs := by
  have hn := h.notT
  obtain ⟨h1, h2⟩ := h
  refine ⟨h1, ?_⟩
  rcases h2 with h2 | ⟨g, cap, cur, hv, hb, hh, rest⟩
  · exact .inl h2
  · refine .inr ⟨g, cap, cur, hv, hb, ?_, rest⟩
    exact (hk.block g (heap_lt hh) (.inr (hn g (by rw [hv]; rfl)).2)).trans hh
theorem newC_any (w : World) :
    Calls Try.prog 46 #[] w fun e w' => e = .returned (.pointer (some ⟨w.heap.size, 0, none⟩)) ∧ Cutter w' w.heap.size w.heap.size 0 [] ∧ Below w.heap.size w w' ∧ w'.heap.size = w.heap.size + 1 := by
  go_enter Try.func46, Try.ntmps46
  go_wp2_with fail
  go_ret
  exact ⟨rfl, ⟨_, Blk.new w _ _, Owns.nil ..⟩, (Below.refl _ w).alloc (Nat.le_refl _) _, by simp⟩
theorem endC_any (n0 c S : Nat) (r : List UInt8) (w : World) (hc : Cutter w n0 c S r) (hn0 : n0 ≤ c) :
    Calls Try.prog 48 #[.pointer (some ⟨c, 0, none⟩)] w fun e w' => ∃ v, e = .returned v ∧ Owns w' w.heap.size 9 1 es v ((Pc.tl r).map mkS) ∧ Cutter w' n0 c 0 [] ∧ KT n0 w.heap.size w w' := by
  obtain ⟨v, hb, ho⟩ := hc
  have c0 := hb.cell 0
  have c1 := hb.cell 1
  have f0 := hb.frozen 0
  have f1 := hb.frozen 1
  have hcv := conv_own ho
  have hg0 := grownBy_set w c 0 (.int .u32 0)
  have hb0 : Blk (w.setCell ⟨c, 0, none⟩ (.int .u32 0)) c 138 #[.int .u32 0, v] := hb.set_ 0 (.int .u32 0)
  have hb1 : Blk ((w.setCell ⟨c, 0, none⟩ (.int .u32 0)).setCell ⟨c, 1, none⟩ (.slice none 0 0)) c 138 #[.int .u32 0, .slice none 0 0] := hb0.set_ 1 (.slice none 0 0)
  have hg1 := grownBy_set (w.setCell ⟨c, 0, none⟩ (.int .u32 0)) c 1 (.slice none 0 0)
  have k1 := ((KT.refl n0 w.heap.size w).grown (Nat.le_refl _) hg0 (fun k hk => by cases hk; exact .inr ⟨hn0, hb.isT⟩)).grown hg0.size hg1 (fun k hk => by cases hk; exact .inr ⟨hn0, hb0.isT⟩)
  have hz : ((w.setCell ⟨c, 0, none⟩ (.int .u32 0)).setCell ⟨c, 1, none⟩ (.slice none 0 0)).heap.size = w.heap.size := by simp
  by_cases hr : r = []
  · subst hr
    have hm : mkS [] = ByteArray.empty := rfl
    rw [hm] at hcv
    go_enter Try.func48, Try.ntmps48
    go_wp2_with fail
    go_ret
    exact ⟨_, rfl, Owns.nil .., ⟨_, hb1, Owns.nil ..⟩, k1⟩
  · have hm : (mkS r).toList.isEmpty = false := isEmpty_no _ (by rw [mkS_size]; exact List.length_pos_iff.2 hr)
    have ht : (Pc.tl r).map mkS = [mkS r] := by simp [Pc.tl, hr]
    rw [ht]
    go_enter Try.func48, Try.ntmps48
    go_wp2_with fail
    go_ret
    refine ⟨_, rfl, ?_, ⟨_, hb1.alloc _, Owns.nil ..⟩, k1.alloc (by rw [hz]; exact Nat.le_refl _) _⟩
    have := Owns.lit (size := 1) (enc := es) ((w.setCell ⟨c, 0, none⟩ (.int .u32 0)).setCell ⟨c, 1, none⟩ (.slice none 0 0)) w.heap.size (e := 9) #[.string (mkS r)] [mkS r] (by rw [hz]; exact Nat.le_refl _) (by simp [maxLen]) rfl rfl
    rw [hz] at this
    exact this
theorem cut_len (s : List UInt8) (h : s.length ≤ 140737488355328) : ((Pc.cuts gear 0 [] s).1.length + (Pc.tl (Pc.cuts gear 0 [] s).2.2).length) * 16 ≤ 140737488355328 := by
  have h1 := flat_ge _ (Pc.cuts_sizes gear 0 [] s (by decide)).1
  have h2 := congrArg List.length (Pc.cuts_flat gear 0 [] s)
  have h3 : (Pc.tl (Pc.cuts gear 0 [] s).2.2).length ≤ (Pc.cuts gear 0 [] s).2.2.length := by
    unfold Pc.tl
    split
    · simp
    · have := List.length_pos_iff.2 ‹_›
      simp only [List.length_cons, List.length_nil]
      omega
  have h4 : (Pc.tl (Pc.cuts gear 0 [] s).2.2).length ≤ 1 := by unfold Pc.tl; split <;> simp
  simp only [List.length_append, List.length_nil, Nat.zero_add] at h2
  generalize (Pc.tl (Pc.cuts gear 0 [] s).2.2).length = a at *
  generalize (Pc.cuts gear 0 [] s).2.2.length = b at *
  generalize (Pc.cuts gear 0 [] s).1.flatten.length = d at *
  generalize (Pc.cuts gear 0 [] s).1.length = f at *
  omega
set_option maxHeartbeats 1000000 in
theorem ckCut_any (s : ByteArray) (w : World) (hs : s.size ≤ 140737488355328) :
    Calls Try.prog 19 #[.string s] w fun e w' => ∃ v, e = .returned v ∧ Owns w' w.heap.size 9 1 es v ((Pc.cut gear (sl s)).map mkS) ∧ Below w.heap.size w w' := by
  have HL := Lib.hid (cut_len (sl s) (by rw [sl_len]; exact hs))
  have HT : Hid ((Pc.cut gear (sl s)).map mkS = (Pc.cuts gear 0 [] (sl s)).1.map mkS ++ (Pc.tl (Pc.cuts gear 0 [] (sl s)).2.2).map mkS) := List.map_append ..
  go_enter Try.func19, Try.ntmps19
  go_wp2_with fail
  refine (newC_any _).mono ?_
  rintro e w1 ⟨rfl, hc1, b1, z1⟩
  go_wp2_with fail
  refine (write_any _ _ _ _ s w1 hc1 (Nat.le_refl _) (by decide) (by decide) (by simp only [List.length_nil, Nat.zero_add]; exact hs)).mono ?_
  rintro e w2 ⟨v2, rfl, ho2, hc2, k2⟩
  go_wp2_with fail
  refine (endC_any _ _ _ _ w2 hc2 (Nat.le_refl _)).mono ?_
  rintro e w3 ⟨v3, rfl, ho3, hc3, k3⟩
  have hoA := ho2.ktS k3
  have hxl : (((Pc.cuts gear 0 [] (sl s)).1.map mkS).length + ((Pc.tl (Pc.cuts gear 0 [] (sl s)).2.2).map mkS).length) * 16 ≤ 140737488355328 := by
    rw [List.length_map, List.length_map]; exact HL.out
  generalize (Pc.cuts gear 0 [] (sl s)).1.map mkS = xs at *
  generalize (Pc.tl (Pc.cuts gear 0 [] (sl s)).2.2).map mkS = ys at *
  have bA := (b1.trans (k2.below b1.size)).trans (k3.below (Nat.le_trans b1.size k2.size))
  have hsz : w1.heap.size ≤ w3.heap.size := Nat.le_trans k2.size k3.size
  have HO := Lib.hid (SlR.of_owns ho3)
  have HA := Lib.hid hoA
  clear hc1 hc2 hc3 ho2 ho3 hoA HL
  go_wp2_with (at_builtin; go_must (refine wpList_append_slr rfl (.tmp 7) (.tmp 9) _ rfl w1.heap.size 9 (.string ByteArray.empty) 1 16 es Try.underlying42 stringInfo rfl (by decide) (fun _ => rfl) _ xs rfl HA.out _ ys rfl HO.out (es_one _) (by simp only [maxLen]; omega) hxl hsz ?_); intro v' w4 hown hgrow)
  go_ret
  refine ⟨_, rfl, ?_, bA.grown hgrow (Nat.le_trans b1.size hsz) (fun k hk => Nat.le_trans b1.size (HA.out.lt k hk).1)⟩
  rw [HT.out]
  exact hown.mono b1.size
end Go.Proofs.Ythhhlaoiampinaa
