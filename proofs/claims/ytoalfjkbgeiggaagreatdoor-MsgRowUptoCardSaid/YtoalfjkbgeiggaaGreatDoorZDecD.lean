/- body.trailer: as step says. -/
import Derived.Test.YtoalfjkbgeiggaaGreatDoorZDecC
namespace Go.Proofs.YtoalfjkbgeiggaaGreatDoor
set_option maxRecDepth 20000
open Go.RowKit
open Ck
theorem parseA_size (s : ByteArray) : parseF s.size 0 (sl s) = parseA (sl s) := by unfold parseA; rw [sl_len]
set_option maxHeartbeats 2000000 in
theorem trailer_any (n0 d : Nat) (s rest : ByteArray) (body : List UInt8) (w : World) (hd : Dec w n0 d .trailer rest body false) (hs : s.size < 4294967281) (hm : HasMaxN n0 w) :
    Calls Tryz.prog 105 #[.pointer (some ⟨d, 0, none⟩), .string s] w fun e w' => StepAns n0 d .trailer rest body (Ck.step .trailer body (sl s)) e w' ∧ Below n0 w w' := by
  obtain ⟨left, v, hbk, hown, hnd, hbl, hk⟩ := hd
  have hnw : n0 ≤ w.heap.size := Nat.le_of_lt (Nat.lt_of_le_of_lt hnd hbk.lt)
  have HP := Lib.hid (parseF_any s w hs hm.1 (Nat.lt_of_lt_of_le hm.2 hnw))
  have HS := Lib.hid (step_trailer body (sl s))
  rw [sl_len] at HS
  have HB := Lib.hid hbk
  have HO := Lib.hid hown
  clear hbk hown hm hk
  go_enter Tryz.func105, Tryz.ntmps105
  go_wp2_with fail
  refine HP.out.mono ?_
  rintro e w1 ⟨ans, b1⟩
  have hb1 := HB.out.below b1 HB.out.lt
  have f4 := hb1.frozen 4
  have c4 := hb1.cell 4
  have ho1 := HO.out.below b1
  have hne := ho1.ne_blk hb1 (by decide)
  rcases ans with ⟨l, r, v', hp, rfl, -⟩ | ⟨c, hp, rfl⟩
  · rw [parseA_size] at hp
    rw [hp] at HS
    have hb2 := hb1.set_ 4 (.bool true)
    have ho2 := ho1.setFar ⟨d, 4, none⟩ (.bool true) hne
    have B2 := (b1.mono hnw).setCell (p := ⟨d, 4, none⟩) hnd (.bool true)
    clear hp
    go_wp2_with fail
    go_ret2
    rw [HS.out]
    exact ⟨⟨rfl, left, _, hb2, ho2, hnd, hbl, fun j hj => by cases hj⟩, B2⟩
  · have hcode := parse_code _ _ _ _ hp
    rw [parseA_size] at hp
    rw [hp] at HS
    have hc0 : (c == 0) = false := by rw [beq_eq_false_iff_ne]; omega
    have hb2 := hb1.set_ 4 (.bool false)
    have ho2 := ho1.setFar ⟨d, 4, none⟩ (.bool false) hne
    have B2 := (b1.mono hnw).setCell (p := ⟨d, 4, none⟩) hnd (.bool false)
    clear hp
    go_wp2_with fail
    go_ret2
    rw [HS.out]
    dsimp only
    by_cases h8 : c = 8
    · subst h8
      exact ⟨⟨⟨_, rfl⟩, left, _, hb2, ho2, hnd, hbl, fun j hj => by cases hj⟩, B2⟩
    · rw [if_neg h8]
      exact ⟨⟨⟨_, rfl⟩, by omega, h8, _, _, _, _, hb2⟩, B2⟩
end Go.Proofs.YtoalfjkbgeiggaaGreatDoor
