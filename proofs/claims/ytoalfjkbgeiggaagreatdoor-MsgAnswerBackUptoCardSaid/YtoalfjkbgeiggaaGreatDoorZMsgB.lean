/- msg: ReadResponse. -/
import Derived.Test.YtoalfjkbgeiggaaGreatDoorZMsgA
namespace Go.Proofs.YtoalfjkbgeiggaaGreatDoor
set_option maxRecDepth 20000
open Go.RowKit
open Ck Ms Bd Ln
theorem four_setR (w2 : World) (g : Nat) {x0 x1 x2 x3 : Value} (u0 u1 u2 u3 : Value) (h : Blk w2 g 39 #[x0, x1, x2, x3]) :
    Blk ((((w2.setCell ⟨g, 0, none⟩ u0).setCell ⟨g, 1, none⟩ u1).setCell ⟨g, 2, none⟩ u2).setCell ⟨g, 3, none⟩ u3) g 39 #[u0, u1, u2, u3] :=
  (((h.set_ 0 u0).set_ 1 u1).set_ 2 u2).set_ 3 u3
set_option maxHeartbeats 4000000 in
theorem readResp_nil (m : ByteArray) (w : World) (hm : HasMax w) :
    Calls Tryz.prog 14 #[.string m, .string ⟨#[]⟩] w fun e w' => e = .returned (.tuple #[.agg #[.int .i64 0, .string ⟨#[]⟩, .slice none 0 0, .string ⟨#[]⟩], .int .i64 0, .int .i64 8]) ∧ Below w.heap.size w w' := by
  have HMX := Lib.hid hm
  clear hm
  go_enter Tryz.func14, Tryz.ntmps14
  go_wp2_with fail
  have hB0 := Blk.new w 39 #[.int .i64 0, .string ByteArray.empty, .slice none 0 0, .string ByteArray.empty]
  have b0 : Below w.heap.size w (w.alloc (.cells #[.int .i64 0, .string ByteArray.empty, .slice none 0 0, .string ByteArray.empty] 39)) := (Below.refl _ w).alloc (Nat.le_refl _) _
  refine (parseS_empty _ (HMX.out.below b0)).mono ?_
  rintro e w1 ⟨rfl, b1⟩
  have hB1 := Blk.below hB0 b1 hB0.lt
  have bb1 := b0.trans (b1.mono b0.size)
  clear hB0 b0 b1
  have d0 := hB1.cell 0
  have d1 := hB1.cell 1
  have d2 := hB1.cell 2
  have d3 := hB1.cell 3
  have z0 := hB1.frozen 0
  have z1 := hB1.frozen 1
  have z2 := hB1.frozen 2
  have z3 := hB1.frozen 3
  have hX := four_setR w1 w.heap.size (.int .i64 0) (.string ⟨#[]⟩) (.slice none 0 0) (.string ⟨#[]⟩) hB1
  have BX := (((bb1.setCell (p := ⟨w.heap.size, 0, none⟩) (Nat.le_refl _) (.int .i64 0)).setCell (p := ⟨w.heap.size, 1, none⟩) (Nat.le_refl _) (.string ⟨#[]⟩)).setCell (p := ⟨w.heap.size, 2, none⟩) (Nat.le_refl _) (.slice none 0 0)).setCell (p := ⟨w.heap.size, 3, none⟩) (Nat.le_refl _) (.string ⟨#[]⟩)
  go_wp2_with fail
  generalize (((w1.setCell ⟨w.heap.size, 0, none⟩ (.int .i64 0)).setCell ⟨w.heap.size, 1, none⟩ (.string ⟨#[]⟩)).setCell ⟨w.heap.size, 2, none⟩ (.slice none 0 0)).setCell ⟨w.heap.size, 3, none⟩ (.string ⟨#[]⟩) = wx at *
  have k0 : wx.cell? ⟨w.heap.size, 0, none⟩ = some (.int .i64 0) := hX.cell 0
  have k1 : wx.cell? ⟨w.heap.size, 1, none⟩ = some (.string ⟨#[]⟩) := hX.cell 1
  have k2 : wx.cell? ⟨w.heap.size, 2, none⟩ = some (.slice none 0 0) := hX.cell 2
  have k3 : wx.cell? ⟨w.heap.size, 3, none⟩ = some (.string ⟨#[]⟩) := hX.cell 3
  refine bodyPost_ret (v := .tuple #[.agg #[.int .i64 0, .string ⟨#[]⟩, .slice none 0 0, .string ⟨#[]⟩], .int .i64 0, .int .i64 8]) (by simp [results, Tryz.results14, go_sem, k0, k1, k2, k3]) rfl ⟨rfl, BX⟩
set_option maxHeartbeats 4000000 in
theorem readResp_ok (m : ByteArray) (c : Nat) (r R : ByteArray) (l : List Fp) (b : List UInt8) (n : Nat) (w : World) (h0 : 100 ≤ c) (h1 : c ≤ 599) (hr : isRs r = true) (hR : R.size ≤ 2097152) (hrf : readF false m c (sl R) = .ok (l, b, n)) (hm : HasMax w) (he : HasErr w) :
    Calls Tryz.prog 14 #[.string m, .string (statS c r ++ R)] w fun e w' => (∃ v, e = .returned (.tuple #[.agg #[.int .i64 (c : Int), .string r, v, .string (mkS b)], .int .i64 (((statS c r).size + n : Nat) : Int), .int .i64 0]) ∧ SlR w' e_ss v l) ∧ Below w.heap.size w w' := by
  have hnR := readF_len hrf
  rw [sl_len] at hnR
  have hr100 := (isRs_iff hr).1
  have hz15 := statS_size h0 h1 r
  have HQ := Lib.hid (fun w' (hb : Below w.heap.size w w') => parseS_good c r R w' h0 h1 hr hR (hm.below hb) (he.below hb))
  have HMX := Lib.hid hm
  have HER := Lib.hid he
  obtain ⟨F, hF⟩ : ∃ F, statS c r = F := ⟨_, rfl⟩
  rw [hF] at HQ hz15 ⊢
  have hex : (F ++ R).extract F.size (F ++ R).size = R := by
    apply sl_inj
    rw [sl_extract_end, sl_append, ← sl_len, List.drop_left' rfl]
  have hsz : (F ++ R).size = F.size + R.size := ByteArray.size_append
  obtain ⟨S, hS⟩ : ∃ S, F ++ R = S := ⟨_, rfl⟩
  rw [hS] at HQ hex hsz ⊢
  have hFS : F.size ≤ S.size := by omega
  have hwr : IntKind.i64.wrap ((F.size : Int) + (n : Int)) = (F.size : Int) + (n : Int) := by rw [IntKind.wrap_i64]; omega
  have HNUM : Hid ((F.size : Int) + (n : Int) = ((F.size + n : Nat) : Int)) := by show _ = _; omega
  clear hm he hF hS hr100 hsz hz15
  go_enter Tryz.func14, Tryz.ntmps14
  go_wp2_with fail
  have hB0 := Blk.new w 39 #[.int .i64 0, .string ByteArray.empty, .slice none 0 0, .string ByteArray.empty]
  have b0 : Below w.heap.size w (w.alloc (.cells #[.int .i64 0, .string ByteArray.empty, .slice none 0 0, .string ByteArray.empty] 39)) := (Below.refl _ w).alloc (Nat.le_refl _) _
  refine (HQ.out _ b0).mono ?_
  rintro e w1 ⟨rfl, b1⟩
  have hB1 := Blk.below hB0 b1 hB0.lt
  have bb1 := b0.trans (b1.mono b0.size)
  clear hB0 b0 b1 HQ
  have hlt := hB1.lt
  have hF0 := Blk.new w1 49 #[.bool false, .string m, .int .i64 (c : Int), .slice none 0 0]
  have bF := (Below.refl w1.heap.size w1).alloc (Nat.le_refl _) (.cells #[.bool false, .string m, .int .i64 (c : Int), .slice none 0 0] 49)
  have HRD := Lib.hid (readFr_any w1 w1.heap.size false m c (.slice none 0 0) R _ hF0 bF (Nat.le_refl _) (by omega) (HMX.out.below bb1) (HER.out.below bb1))
  rw [hrf] at HRD
  clear hrf
  go_wp2_with fail
  refine HRD.out.mono ?_
  rintro e w2 ⟨⟨rfl, v, hF2, ho2⟩, b2⟩
  obtain ⟨A3, cap3, rfl⟩ := ho2.slice
  have b12 := bF.trans b2
  have hB2 := Blk.below hB1 b12 hlt
  have d0 := hB2.cell 0
  have d1 := hB2.cell 1
  have d2 := hB2.cell 2
  have d3 := hB2.cell 3
  have z0 := hB2.frozen 0
  have z1 := hB2.frozen 1
  have z2 := hB2.frozen 2
  have z3 := hB2.frozen 3
  have e3 := hF2.cell 3
  have bb2 := bb1.trans (b12.mono bb1.size)
  have hfar : (Value.slice A3 l.length cap3).ownBlock ≠ some w.heap.size := by
    intro h
    have := (ho2.lt _ h).1
    omega
  have hX := four_setR w2 w.heap.size (.int .i64 (c : Int)) (.string r) (.slice A3 l.length cap3) (.string (mkS b)) hB2
  have BX := (((bb2.setCell (p := ⟨w.heap.size, 0, none⟩) (Nat.le_refl _) (.int .i64 (c : Int))).setCell (p := ⟨w.heap.size, 1, none⟩) (Nat.le_refl _) (.string r)).setCell (p := ⟨w.heap.size, 2, none⟩) (Nat.le_refl _) (.slice A3 l.length cap3)).setCell (p := ⟨w.heap.size, 3, none⟩) (Nat.le_refl _) (.string (mkS b))
  have OX := (((ho2.setFar ⟨w.heap.size, 0, none⟩ (.int .i64 (c : Int)) hfar).setFar ⟨w.heap.size, 1, none⟩ (.string r) hfar).setFar ⟨w.heap.size, 2, none⟩ (.slice A3 l.length cap3) hfar).setFar ⟨w.heap.size, 3, none⟩ (.string (mkS b)) hfar
  go_wp2_with fail
  generalize (((w2.setCell ⟨w.heap.size, 0, none⟩ (.int .i64 (c : Int))).setCell ⟨w.heap.size, 1, none⟩ (.string r)).setCell ⟨w.heap.size, 2, none⟩ (.slice A3 l.length cap3)).setCell ⟨w.heap.size, 3, none⟩ (.string (mkS b)) = wx at *
  have k0 : wx.cell? ⟨w.heap.size, 0, none⟩ = some (.int .i64 (c : Int)) := hX.cell 0
  have k1 : wx.cell? ⟨w.heap.size, 1, none⟩ = some (.string r) := hX.cell 1
  have k2 : wx.cell? ⟨w.heap.size, 2, none⟩ = some (.slice A3 l.length cap3) := hX.cell 2
  have k3 : wx.cell? ⟨w.heap.size, 3, none⟩ = some (.string (mkS b)) := hX.cell 3
  refine bodyPost_ret (v := .tuple #[.agg #[.int .i64 (c : Int), .string r, .slice A3 l.length cap3, .string (mkS b)], .int .i64 ((F.size : Int) + (n : Int)), .int .i64 0]) (by simp [results, Tryz.results14, go_sem, k0, k1, k2, k3]) rfl ⟨⟨_, by rw [HNUM.out], SlR.of_owns OX⟩, BX⟩
end Go.Proofs.YtoalfjkbgeiggaaGreatDoor
