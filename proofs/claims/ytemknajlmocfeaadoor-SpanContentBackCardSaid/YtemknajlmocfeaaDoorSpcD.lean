/- SpanContentBack: the walk. -/
import Derived.Test.YtemknajlmocfeaaDoorSpcC
namespace Go.Proofs.YtemknajlmocfeaaDoor
open Go.RowKit
namespace Spc
theorem conL_len {x y n : Int} (h : conB x y n = true) : (mkS (conL x y n)).size ≤ 100 := by
  obtain ⟨n1, n2, n3⟩ := conB_num h
  have l1 := itoa_len n1
  have l2 := itoa_len n2
  have l3 := itoa_len n3
  rw [mkS_size]
  unfold conL
  simp only [List.length_append, List.length_cons, List.length_nil]
  omega
theorem parseC_empty (w : World) (he : Bd.HasErr w) :
    Calls Tryd.prog 7 #[.string ⟨#[]⟩] w fun e w' => e = .returned (.tuple #[.agg #[.int .i64 0, .int .i64 0], .int .i64 0, .int .i64 3]) ∧ Below w.heap.size w w' := by
  refine (parseC_any ⟨#[]⟩ w (by decide) he).mono fun e w' ⟨⟨x, y, n, er, h, hp⟩, hb⟩ => ⟨?_, hb⟩
  rcases hp with ⟨_, _, h1⟩ | ⟨rfl, rfl, rfl, rfl, _⟩
  · have := congrArg List.length h1
    unfold conL at this
    rw [List.length_append] at this
    simp at this
    have h0 : (sl ⟨#[]⟩).length = 0 := rfl
    omega
  · exact h
theorem parseC_con {x y n : Int} (h : conB x y n = true) (w : World) (he : Bd.HasErr w) :
    Calls Tryd.prog 7 #[.string (mkS (conL x y n))] w fun e w' => e = .returned (.tuple #[.agg #[.int .i64 x, .int .i64 y], .int .i64 n, .int .i64 0]) ∧ Below w.heap.size w w' := by
  refine (parseC_any (mkS (conL x y n)) w (by have := conL_len h; omega) he).mono fun e w' ⟨⟨x', y', n', er, h0, hp⟩, hb⟩ => ⟨?_, hb⟩
  rw [sl_mkS] at hp
  rcases hp with ⟨rfl, h1, h2⟩ | ⟨_, _, _, _, h2⟩
  · obtain ⟨rfl, rfl, rfl⟩ := conL_inj h h1 h2
    exact h0
  · exact absurd rfl (h2 x y n h)
/-- What ParseContent answers: a span whose text this is, or the error. -/
theorem parseC_two (s : ByteArray) (w : World) (hs : s.size ≤ 140737488351232) (he : Bd.HasErr w) :
    Calls Tryd.prog 7 #[.string s] w fun e w' => ((∃ x y n, e = .returned (.tuple #[.agg #[.int .i64 x, .int .i64 y], .int .i64 n, .int .i64 0]) ∧ Hid (conB x y n = true ∧ mkS (conL x y n) = s)) ∨ e = .returned (.tuple #[.agg #[.int .i64 0, .int .i64 0], .int .i64 0, .int .i64 3])) ∧ Below w.heap.size w w' := by
  refine (parseC_any s w hs he).mono fun e w' ⟨⟨x, y, n, er, h, hp⟩, hb⟩ => ⟨?_, hb⟩
  rcases hp with ⟨rfl, h1, h2⟩ | ⟨rfl, rfl, rfl, rfl, _⟩
  · exact .inl ⟨x, y, n, h, h1, sl_inj (by rw [sl_mkS, h2])⟩
  · exact .inr h
set_option maxHeartbeats 4000000 in
theorem spanContentBack_walk (x y n : Int) (s : ByteArray) (w : World) (hs : s.size ≤ 140737488351232) (he : Bd.HasErr w) :
    Calls Tryd.prog 3 #[.agg #[.int .i64 x, .int .i64 y], .int .i64 n, .string s] w fun e w' => e = .returned (.bool true) ∧ Below w.heap.size w w' := by
  have HE := Lib.hid (fun w' (hb : Below w.heap.size w w') => he.below hb)
  have HS := Lib.hid (fun w' hb => parseC_two s w' hs (HE.out w' hb))
  have H0 := Lib.hid (fun w' hb => parseC_empty w' (HE.out w' hb))
  have b0 : Below w.heap.size w (w.alloc (.cells #[.int .i64 x, .int .i64 y] 23)) := (Below.refl _ w).alloc (Nat.le_refl _) _
  clear he hs
  cases hcon : conB x y n
  · have HP := Lib.hid (fun w' => printC_no x y n w' hcon)
    clear hcon
    go_enter Tryd.func3, Tryd.ntmps3
    go_wp2_with fail
    refine (HP.out _).mono ?_
    rintro e w1 ⟨rfl, b1⟩
    have B1 := belT b0 b1
    go_wp2_with fail
    refine (HS.out _ B1).mono ?_
    rintro e w2 ⟨⟨x1, y1, n1, rfl, hc⟩ | rfl, b2⟩
    · have B2 := belT B1 b2
      have HQ := Lib.hid (fun w' hb => printC_ok x1 y1 n1 w' hc.out.1 (HE.out w' hb).p10)
      rw [hc.out.2] at HQ
      clear hc
      go_wp2_with fail
      refine (H0.out _ (B2.alloc B2.size _)).mono ?_
      rintro e w3 ⟨rfl, b3⟩
      have B3 := belT (B2.alloc B2.size (.cells #[.int .i64 x1, .int .i64 y1] 23)) b3
      have q0 : w3.cell? ⟨w2.heap.size, 0, none⟩ = some (.int .i64 x1) := (b3.cell (p := ⟨w2.heap.size, 0, none⟩) (by simp)).trans (World.cell?_alloc_at _ _ _ _ rfl)
      have q1 : w3.cell? ⟨w2.heap.size, 1, none⟩ = some (.int .i64 y1) := (b3.cell (p := ⟨w2.heap.size, 1, none⟩) (by simp)).trans (World.cell?_alloc_at _ _ _ _ rfl)
      have hlt : w2.heap.size < w3.heap.size := by have := b3.size; simp at this; omega
      go_wp2_with fail
      refine (HQ.out _ (B3.alloc B3.size _)).mono ?_
      rintro e w4 ⟨rfl, b4⟩
      have B4 := belT (B3.alloc B3.size (.cells #[.int .i64 0, .int .i64 0] 23)) b4
      go_wp2_with fail
      go_ret
      exact ⟨rfl, B4⟩
    · have B2 := belT B1 b2
      go_wp2_with fail
      refine (H0.out _ (B2.alloc B2.size _)).mono ?_
      rintro e w3 ⟨rfl, b3⟩
      have B3 := belT (B2.alloc B2.size (.cells #[.int .i64 0, .int .i64 0] 23)) b3
      go_wp2_with fail
      go_ret
      exact ⟨rfl, B3.alloc B3.size _⟩
  · have HP := Lib.hid (fun w' hb => printC_ok x y n w' hcon (HE.out w' hb).p10)
    have HT := Lib.hid (fun w' hb => parseC_con hcon w' (HE.out w' hb))
    generalize mkS (conL x y n) = T at *
    clear hcon
    go_enter Tryd.func3, Tryd.ntmps3
    go_wp2_with fail
    refine (HP.out _ b0).mono ?_
    rintro e w1 ⟨rfl, b1⟩
    have B1 := belT b0 b1
    have p0 : w1.cell? ⟨w.heap.size, 0, none⟩ = some (.int .i64 x) := (b1.cell (p := ⟨w.heap.size, 0, none⟩) (by simp)).trans (World.cell?_alloc_at _ _ _ _ rfl)
    have p1 : w1.cell? ⟨w.heap.size, 1, none⟩ = some (.int .i64 y) := (b1.cell (p := ⟨w.heap.size, 1, none⟩) (by simp)).trans (World.cell?_alloc_at _ _ _ _ rfl)
    have hl1 : w.heap.size < w1.heap.size := by have := b1.size; simp at this; omega
    have HC := Lib.hid (fun w' (hb : Below w1.heap.size w1 w') => And.intro ((hb.cell (p := ⟨w.heap.size, 0, none⟩) hl1).trans p0) ((hb.cell (p := ⟨w.heap.size, 1, none⟩) hl1).trans p1))
    clear p0 p1
    go_wp2_with fail
    refine (HS.out _ B1).mono ?_
    rintro e w2 ⟨⟨x1, y1, n1, rfl, hc⟩ | rfl, b2⟩
    · have B2 := belT B1 b2
      have HQ := Lib.hid (fun w' hb => printC_ok x1 y1 n1 w' hc.out.1 (HE.out w' hb).p10)
      rw [hc.out.2] at HQ
      clear hc
      go_wp2_with fail
      refine (H0.out _ (B2.alloc B2.size _)).mono ?_
      rintro e w3 ⟨rfl, b3⟩
      have B3 := belT (B2.alloc B2.size (.cells #[.int .i64 x1, .int .i64 y1] 23)) b3
      have G3 := belT (b2.alloc b2.size (.cells #[.int .i64 x1, .int .i64 y1] 23)) b3
      have q0 : w3.cell? ⟨w2.heap.size, 0, none⟩ = some (.int .i64 x1) := (b3.cell (p := ⟨w2.heap.size, 0, none⟩) (by simp)).trans (World.cell?_alloc_at _ _ _ _ rfl)
      have q1 : w3.cell? ⟨w2.heap.size, 1, none⟩ = some (.int .i64 y1) := (b3.cell (p := ⟨w2.heap.size, 1, none⟩) (by simp)).trans (World.cell?_alloc_at _ _ _ _ rfl)
      have hlt : w2.heap.size < w3.heap.size := by have := b3.size; simp at this; omega
      go_wp2_with fail
      refine (HQ.out _ (B3.alloc B3.size _)).mono ?_
      rintro e w4 ⟨rfl, b4⟩
      have B4 := belT (B3.alloc B3.size (.cells #[.int .i64 0, .int .i64 0] 23)) b4
      have G4 := belT (G3.alloc G3.size (.cells #[.int .i64 0, .int .i64 0] 23)) b4
      clear q0 q1
      go_wp2_with fail
      refine (HT.out _ B4).mono ?_
      rintro e w5 ⟨rfl, b5⟩
      have B5 := belT B4 b5
      have G5 := belT G4 b5
      obtain ⟨c0, c1⟩ := HC.out _ G5
      have hl5 : w.heap.size < w5.heap.size := by have := G5.size; omega
      go_wp2_with fail
      go_ret
      exact ⟨rfl, B5.alloc B5.size _⟩
    · have B2 := belT B1 b2
      go_wp2_with fail
      refine (H0.out _ (B2.alloc B2.size _)).mono ?_
      rintro e w3 ⟨rfl, b3⟩
      have B3 := belT (B2.alloc B2.size (.cells #[.int .i64 0, .int .i64 0] 23)) b3
      have G3 := belT (b2.alloc b2.size (.cells #[.int .i64 0, .int .i64 0] 23)) b3
      go_wp2_with fail
      refine (HT.out _ (B3.alloc B3.size _)).mono ?_
      rintro e w5 ⟨rfl, b5⟩
      have B5 := belT (B3.alloc B3.size (.cells #[.int .i64 0, .int .i64 0] 23)) b5
      have G5 := belT (G3.alloc G3.size (.cells #[.int .i64 0, .int .i64 0] 23)) b5
      obtain ⟨c0, c1⟩ := HC.out _ G5
      have hl5 : w.heap.size < w5.heap.size := by have := G5.size; omega
      go_wp2_with fail
      go_ret
      exact ⟨rfl, B5.alloc B5.size _⟩
end Spc
end Go.Proofs.YtemknajlmocfeaaDoor
