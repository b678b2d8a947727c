/- msg: ReadRequest. -/
import Derived.Test.YtoalfjkbgeiggaaGreatDoorZMsgR
namespace Go.Proofs.YtoalfjkbgeiggaaGreatDoor
set_option maxRecDepth 20000
open Go.RowKit
open Ck Ms Bd Ln
theorem four_set (w2 : World) (g : Nat) {x0 x1 x2 x3 : Value} (u0 u1 u2 u3 : Value) (h : Blk w2 g 24 #[x0, x1, x2, x3]) :
    Blk ((((w2.setCell ⟨g, 0, none⟩ u0).setCell ⟨g, 1, none⟩ u1).setCell ⟨g, 2, none⟩ u2).setCell ⟨g, 3, none⟩ u3) g 24 #[u0, u1, u2, u3] :=
  (((h.set_ 0 u0).set_ 1 u1).set_ 2 u2).set_ 3 u3
namespace Ms
def ReqAns (n0 : Nat) (a : Except Int (ByteArray × ByteArray × List Fp × List UInt8 × Nat)) (e : Ending) (w' : World) : Prop :=
  match a with
  | .error c => e = .returned (.tuple #[vRq ByteArray.empty ByteArray.empty (.slice none 0 0) ByteArray.empty, .int .i64 0, .int .i64 c]) ∧ c ≠ 0
  | .ok (m, t, l, b, n) => ∃ v, e = .returned (.tuple #[vRq m t v (mkS b), .int .i64 (n : Int), .int .i64 0]) ∧ Owns w' n0 57 2 e_ss v l
end Ms
set_option maxHeartbeats 4000000 in
theorem readReq_any (s : ByteArray) (w : World) (hs : s.size < 4294967281) (hm : HasMax w) (he : HasErr w) :
    Calls Tryz.prog 10 #[.string s] w fun e w' => ReqAns w.heap.size (readR (sl s)) e w' ∧ Below w.heap.size w w' := by
  have HQ := Lib.hid (fun w' hm' => parseReq_any s w' hs hm')
  have HMX := Lib.hid hm
  have HER := Lib.hid he
  obtain ⟨A, hA⟩ : ∃ A, readR (sl s) = A := ⟨_, rfl⟩
  have HA := Lib.hid hA
  unfold readR at HA
  have hat := parseR_at (s := sl s)
  unfold Ln.ParseAns at HQ
  obtain ⟨P, hpr⟩ : ∃ P, parseR (sl s) = P := ⟨_, rfl⟩
  obtain ⟨m, t, at_, c⟩ := P
  rw [hpr] at HA HQ hat
  dsimp only at HA HQ hat
  rw [hA]
  clear hA hm he hpr
  go_enter Tryz.func10, Tryz.ntmps10
  go_wp2_with fail
  have hB0 := Blk.new w 24 #[.string ByteArray.empty, .string ByteArray.empty, .slice none 0 0, .string ByteArray.empty]
  have b0 : Below w.heap.size w (w.alloc (.cells #[.string ByteArray.empty, .string ByteArray.empty, .slice none 0 0, .string ByteArray.empty] 24)) := (Below.refl _ w).alloc (Nat.le_refl _) _
  refine (HQ.out _ (HMX.out.below b0)).mono ?_
  rintro e w1 ⟨rfl, b1⟩
  have hB1 := Blk.below hB0 b1 hB0.lt
  have bb1 := b0.trans (b1.mono b0.size)
  clear hB0 b0 b1 HQ
  have d0 := hB1.cell 0
  have d1 := hB1.cell 1
  have d2 := hB1.cell 2
  have d3 := hB1.cell 3
  have z0 := hB1.frozen 0
  have z1 := hB1.frozen 1
  have z2 := hB1.frozen 2
  have z3 := hB1.frozen 3
  by_cases hc : c = 0
  · subst hc
    obtain ⟨hat1, hat2⟩ := hat rfl
    obtain ⟨K, rfl⟩ : ∃ K : Nat, at_ = (K : Int) := ⟨at_.toNat, by omega⟩
    rw [Int.toNat_natCast, sl_len] at hat1
    rw [if_neg (by simp), Int.toNat_natCast] at HA
    obtain ⟨R, hR⟩ : ∃ R, s.extract K s.size = R := ⟨_, rfl⟩
    have hRl : Hid (sl R = (sl s).drop K) := by show _ = _; rw [← hR, sl_extract_end]
    have hRz : R.size ≤ s.size := by rw [← hR, ext_size _ _ _ (Nat.le_refl _)]; omega
    have hF0 := Blk.new w1 49 #[.bool true, .string m, .int .i64 0, .slice none 0 0]
    have bF := (Below.refl w1.heap.size w1).alloc (Nat.le_refl _) (.cells #[.bool true, .string m, .int .i64 0, .slice none 0 0] 49)
    have HRD := Lib.hid (readFr_any w1 w1.heap.size true m 0 (.slice none 0 0) R _ hF0 bF (Nat.le_refl _) (by omega) (HMX.out.below bb1) (HER.out.below bb1))
    rw [hRl.out] at HRD
    have hlt := hB1.lt
    cases hrf : readF true m 0 ((sl s).drop K) with
    | error c =>
      rw [hrf] at HRD HA
      have hA : A = .error c := HA.out.symm
      subst hA
      clear hrf
      go_wp2_with fail
      refine HRD.out.mono ?_
      rintro e w2 ⟨⟨rfl, hc⟩, b2⟩
      have b12 := bF.trans b2
      have hB2 := Blk.below hB1 b12 hlt
      clear d0 d1 d2 d3 z0 z1 z2 z3
      have d0 := hB2.cell 0
      have d1 := hB2.cell 1
      have d2 := hB2.cell 2
      have d3 := hB2.cell 3
      have z0 := hB2.frozen 0
      have z1 := hB2.frozen 1
      have z2 := hB2.frozen 2
      have z3 := hB2.frozen 3
      have hne : (c != 0) = true := by rw [bne_iff_ne]; exact hc
      have bb2 := bb1.trans (b12.mono bb1.size)
      have hX := four_set w2 w.heap.size (.string ⟨#[]⟩) (.string ⟨#[]⟩) (.slice none 0 0) (.string ⟨#[]⟩) hB2
      have BX := (((bb2.setCell (p := ⟨w.heap.size, 0, none⟩) (Nat.le_refl _) (.string ⟨#[]⟩)).setCell (p := ⟨w.heap.size, 1, none⟩) (Nat.le_refl _) (.string ⟨#[]⟩)).setCell (p := ⟨w.heap.size, 2, none⟩) (Nat.le_refl _) (.slice none 0 0)).setCell (p := ⟨w.heap.size, 3, none⟩) (Nat.le_refl _) (.string ⟨#[]⟩)
      go_wp2_with fail
      generalize (((w2.setCell ⟨w.heap.size, 0, none⟩ (.string ⟨#[]⟩)).setCell ⟨w.heap.size, 1, none⟩ (.string ⟨#[]⟩)).setCell ⟨w.heap.size, 2, none⟩ (.slice none 0 0)).setCell ⟨w.heap.size, 3, none⟩ (.string ⟨#[]⟩) = wx at *
      have k0 : wx.cell? ⟨w.heap.size, 0, none⟩ = some (.string ⟨#[]⟩) := hX.cell 0
      have k1 : wx.cell? ⟨w.heap.size, 1, none⟩ = some (.string ⟨#[]⟩) := hX.cell 1
      have k2 : wx.cell? ⟨w.heap.size, 2, none⟩ = some (.slice none 0 0) := hX.cell 2
      have k3 : wx.cell? ⟨w.heap.size, 3, none⟩ = some (.string ⟨#[]⟩) := hX.cell 3
      refine bodyPost_ret (v := .tuple #[vRq ⟨#[]⟩ ⟨#[]⟩ (.slice none 0 0) ⟨#[]⟩, .int .i64 0, .int .i64 c]) (by simp [results, Tryz.results10, go_sem, vRq, k0, k1, k2, k3]) rfl ⟨⟨rfl, hc⟩, BX⟩
    | ok x =>
      obtain ⟨l, b, n⟩ := x
      rw [hrf] at HRD HA
      have hA : A = .ok (m, t, l, b, K + n) := HA.out.symm
      subst hA
      have hnR := readF_len hrf
      rw [List.length_drop, sl_len] at hnR
      have hnum : (K : Int) + (n : Int) = ((K + n : Nat) : Int) := by omega
      have hwr : IntKind.i64.wrap ((K : Int) + (n : Int)) = (K : Int) + (n : Int) := by rw [IntKind.wrap_i64]; omega
      have HNUM := Lib.hid hnum
      clear hrf hnum
      go_wp2_with fail
      refine HRD.out.mono ?_
      rintro e w2 ⟨⟨rfl, v, hF2, ho2⟩, b2⟩
      obtain ⟨A3, cap3, rfl⟩ := ho2.slice
      have b12 := bF.trans b2
      have hB2 := Blk.below hB1 b12 hlt
      clear d0 d1 d2 d3 z0 z1 z2 z3
      have d0 := hB2.cell 0
      have d1 := hB2.cell 1
      have d2 := hB2.cell 2
      have d3 := hB2.cell 3
      have z0 := hB2.frozen 0
      have z1 := hB2.frozen 1
      have z2 := hB2.frozen 2
      have z3 := hB2.frozen 3
      have e3 := hF2.cell 3
      have bb2 := bb1.trans (b12.mono bb1.size)
      have hfar : (Value.slice A3 l.length cap3).ownBlock ≠ some w.heap.size := by
        intro h
        have := (ho2.lt _ h).1
        omega
      have hX := four_set w2 w.heap.size (.string m) (.string t) (.slice A3 l.length cap3) (.string (mkS b)) hB2
      have BX := (((bb2.setCell (p := ⟨w.heap.size, 0, none⟩) (Nat.le_refl _) (.string m)).setCell (p := ⟨w.heap.size, 1, none⟩) (Nat.le_refl _) (.string t)).setCell (p := ⟨w.heap.size, 2, none⟩) (Nat.le_refl _) (.slice A3 l.length cap3)).setCell (p := ⟨w.heap.size, 3, none⟩) (Nat.le_refl _) (.string (mkS b))
      have OX := (((ho2.setFar ⟨w.heap.size, 0, none⟩ (.string m) hfar).setFar ⟨w.heap.size, 1, none⟩ (.string t) hfar).setFar ⟨w.heap.size, 2, none⟩ (.slice A3 l.length cap3) hfar).setFar ⟨w.heap.size, 3, none⟩ (.string (mkS b)) hfar
      go_wp2_with fail
      generalize (((w2.setCell ⟨w.heap.size, 0, none⟩ (.string m)).setCell ⟨w.heap.size, 1, none⟩ (.string t)).setCell ⟨w.heap.size, 2, none⟩ (.slice A3 l.length cap3)).setCell ⟨w.heap.size, 3, none⟩ (.string (mkS b)) = wx at *
      have k0 : wx.cell? ⟨w.heap.size, 0, none⟩ = some (.string m) := hX.cell 0
      have k1 : wx.cell? ⟨w.heap.size, 1, none⟩ = some (.string t) := hX.cell 1
      have k2 : wx.cell? ⟨w.heap.size, 2, none⟩ = some (.slice A3 l.length cap3) := hX.cell 2
      have k3 : wx.cell? ⟨w.heap.size, 3, none⟩ = some (.string (mkS b)) := hX.cell 3
      refine bodyPost_ret (v := .tuple #[vRq m t (.slice A3 l.length cap3) (mkS b), .int .i64 ((K : Int) + (n : Int)), .int .i64 0]) (by simp [results, Tryz.results10, go_sem, vRq, k0, k1, k2, k3]) rfl ⟨⟨_, by rw [HNUM.out], OX.mono bb1.size⟩, BX⟩
  · have hA : A = .error c := by rw [← HA.out, if_pos hc]
    subst hA
    have hne : (c != 0) = true := by rw [bne_iff_ne]; exact hc
    have hX := four_set w1 w.heap.size (.string ⟨#[]⟩) (.string ⟨#[]⟩) (.slice none 0 0) (.string ⟨#[]⟩) hB1
    have BX := (((bb1.setCell (p := ⟨w.heap.size, 0, none⟩) (Nat.le_refl _) (.string ⟨#[]⟩)).setCell (p := ⟨w.heap.size, 1, none⟩) (Nat.le_refl _) (.string ⟨#[]⟩)).setCell (p := ⟨w.heap.size, 2, none⟩) (Nat.le_refl _) (.slice none 0 0)).setCell (p := ⟨w.heap.size, 3, none⟩) (Nat.le_refl _) (.string ⟨#[]⟩)
    clear hat HA
    go_wp2_with fail
    generalize (((w1.setCell ⟨w.heap.size, 0, none⟩ (.string ⟨#[]⟩)).setCell ⟨w.heap.size, 1, none⟩ (.string ⟨#[]⟩)).setCell ⟨w.heap.size, 2, none⟩ (.slice none 0 0)).setCell ⟨w.heap.size, 3, none⟩ (.string ⟨#[]⟩) = wx at *
    have k0 : wx.cell? ⟨w.heap.size, 0, none⟩ = some (.string ⟨#[]⟩) := hX.cell 0
    have k1 : wx.cell? ⟨w.heap.size, 1, none⟩ = some (.string ⟨#[]⟩) := hX.cell 1
    have k2 : wx.cell? ⟨w.heap.size, 2, none⟩ = some (.slice none 0 0) := hX.cell 2
    have k3 : wx.cell? ⟨w.heap.size, 3, none⟩ = some (.string ⟨#[]⟩) := hX.cell 3
    refine bodyPost_ret (v := .tuple #[vRq ⟨#[]⟩ ⟨#[]⟩ (.slice none 0 0) ⟨#[]⟩, .int .i64 0, .int .i64 c]) (by simp [results, Tryz.results10, go_sem, vRq, k0, k1, k2, k3]) rfl ⟨⟨rfl, hc⟩, BX⟩
end Go.Proofs.YtoalfjkbgeiggaaGreatDoor
