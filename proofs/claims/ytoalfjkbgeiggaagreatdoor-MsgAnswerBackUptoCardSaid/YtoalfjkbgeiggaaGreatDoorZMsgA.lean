/- msg: WriteResponse, ReadResponse, SameResponse. -/
import Derived.Test.YtoalfjkbgeiggaaGreatDoorZMsgU
import Derived.Test.YtoalfjkbgeiggaaGreatDoorZStatW
namespace Go.Proofs.YtoalfjkbgeiggaaGreatDoor
set_option maxRecDepth 20000
open Go.RowKit
open Ck Ms Bd Ln
/-- A response, as a value. -/
def vRs (c : Int) (r : ByteArray) (v : Value) (b : ByteArray) : Value := .agg #[.int .i64 c, .string r, v, .string b]
theorem sameResp_true (c : Int) (r b : ByteArray) (u1 u2 : Value) (l : List Fp) (w : World) (h1 : SlR w e_ss u1 l) (h2 : SlR w e_ss u2 l) (hl : l.length ≤ 140737488351232) :
    Calls Tryz.prog 16 #[vRs c r u1 b, vRs c r u2 b] w fun e w' => e = .returned (.bool true) ∧ Below w.heap.size w w' := by
  have H1 := Lib.hid (fun (w' : World) (hb : Below w.heap.size w w') => h1.below hb)
  have H2 := Lib.hid (fun (w' : World) (hb : Below w.heap.size w w') => h2.below hb)
  unfold vRs
  go_enter Tryz.func16, Tryz.ntmps16
  go_wp2_with fail
  have bb : Below w.heap.size w ((w.alloc (.cells #[.int .i64 c, .string r, u1, .string b] 39)).alloc (.cells #[.int .i64 c, .string r, u2, .string b] 39)) := ((Below.refl _ w).alloc (Nat.le_refl _) _).alloc (by simp) _
  have q0 : ((w.alloc (.cells #[.int .i64 c, .string r, u1, .string b] 39)).alloc (.cells #[.int .i64 c, .string r, u2, .string b] 39)).cell? ⟨w.heap.size, 3, none⟩ = some (.string b) := by go_simp
  have q1 : ((w.alloc (.cells #[.int .i64 c, .string r, u1, .string b] 39)).alloc (.cells #[.int .i64 c, .string r, u2, .string b] 39)).cell? ⟨w.heap.size + 1, 3, none⟩ = some (.string b) := by go_simp
  have hz : w.heap.size + 1 + 1 = ((w.alloc (.cells #[.int .i64 c, .string r, u1, .string b] 39)).alloc (.cells #[.int .i64 c, .string r, u2, .string b] 39)).heap.size := by simp
  generalize (w.alloc (.cells #[.int .i64 c, .string r, u1, .string b] 39)).alloc (.cells #[.int .i64 c, .string r, u2, .string b] 39) = w2 at *
  refine (eqFld_any u1 u2 l l w2 (H1.out _ bb) (H2.out _ bb) hl hl).mono ?_
  rintro e w3 ⟨rfl, b3⟩
  have r0 := (b3.cell (p := ⟨w.heap.size, 3, none⟩) (by show w.heap.size < _; omega)).trans q0
  have r1 := (b3.cell (p := ⟨w.heap.size + 1, 3, none⟩) (by show w.heap.size + 1 < _; omega)).trans q1
  have hd : decide (l = l) = true := decide_eq_true rfl
  rw [hd]
  go_wp2_with fail
  go_ret
  exact ⟨by simp, bb.trans (b3.mono bb.size)⟩
/-- What WriteResponse answers. -/
def RespAns (m : ByteArray) (c : Int) (r : ByteArray) (l : List Fp) (b : List UInt8) (e : Ending) : Prop :=
  (∃ k : Int, k ≠ 0 ∧ e = .returned (.tuple #[.string ByteArray.empty, .int .i64 k])) ∨
  (∃ (n : Nat) (x : List UInt8), c = (n : Int) ∧ 100 ≤ n ∧ n ≤ 599 ∧ isRs r = true ∧ writeF false m c l b = .ok x ∧ e = .returned (.tuple #[.string (statS n r ++ mkS x), .int .i64 0]))
set_option maxHeartbeats 2000000 in
theorem writeResp_any (m : ByteArray) (c : Int) (r : ByteArray) (v : Value) (l : List Fp) (b : ByteArray) (w : World) (h : SlR w e_ss v l) (hwt : wt l ≤ 1048576) (hr : r.size ≤ 1048576) (hb : b.size ≤ 1048576) (hm : HasMax w) (hz : HasTz w) (he : HasErr w) :
    Calls Tryz.prog 13 #[.string m, .agg #[.int .i64 c, .string r, v, .string b]] w fun e w' => RespAns m c r l (sl b) e ∧ Below w.heap.size w w' := by
  have bA := (Below.refl w.heap.size w).alloc (Nat.le_refl _) (.cells #[.int .i64 c, .string r, v, .string b] 39)
  have hX1 := Blk.new w 39 #[.int .i64 c, .string r, v, .string b]
  by_cases hok : (100 ≤ c ∧ c ≤ 599) ∧ isRs r = true
  · obtain ⟨⟨h0, h1⟩, hrs⟩ := hok
    obtain ⟨n, rfl⟩ : ∃ n : Nat, c = (n : Int) := ⟨c.toNat, by omega⟩
    have HP := Lib.hid (printS_good n r _ (by omega) (by omega) hrs (hm.below bA) (he.below bA).p10)
    have hz15 := statS_size (c := n) (by omega) (by omega) r
    have hr100 := (isRs_iff hrs).1
    have HW := Lib.hid (fun wc (hbc : Below w.heap.size w wc) => writeFr_any false m n v l (statS n r) b wc (h.below hbc) hwt (by omega) hb (hz.below hbc) (he.below hbc))
    have HGOOD := Lib.hid (show 100 ≤ n ∧ n ≤ 599 from ⟨by omega, by omega⟩)
    obtain ⟨F, hF⟩ : ∃ F, statS n r = F := ⟨_, rfl⟩
    have HF := Lib.hid hF
    rw [hF] at HP HW
    obtain ⟨A, hA⟩ : ∃ A, writeF false m n l (sl b) = A := ⟨_, rfl⟩
    have HA := Lib.hid hA
    rw [hA] at HW
    obtain ⟨Av, cv, rfl, -⟩ := h.form
    clear hm hz he hF hz15 hA h0 h1
    go_enter Tryz.func13, Tryz.ntmps13
    go_wp2_with fail
    refine HP.out.mono ?_
    rintro e w1 ⟨rfl, g1⟩
    have hX2 := Blk.below hX1 g1 hX1.lt
    have bX2 := bA.trans (g1.mono bA.size)
    have d0 := hX2.cell 0
    have d1 := hX2.cell 1
    have d2 := hX2.cell 2
    have d3 := hX2.cell 3
    go_wp2_with fail
    refine (HW.out _ bX2).mono ?_
    rintro e w2 ⟨ha, g2⟩
    have B2 := bX2.trans (g2.mono bX2.size)
    cases A with
    | error k =>
      obtain ⟨rfl, hk⟩ := ha
      go_wp2_with fail
      go_ret2
      exact ⟨.inl ⟨k, hk, rfl⟩, B2⟩
    | ok x =>
      unfold WrAns at ha
      dsimp only at ha
      subst ha
      go_wp2_with fail
      go_ret2
      exact ⟨.inr ⟨n, x, rfl, HGOOD.out.1, HGOOD.out.2, hrs, HA.out, ret_si (by rw [HF.out]) rfl⟩, B2⟩
  · have HP := Lib.hid (printS_bad c r _ hr (hm.below bA) (by
      by_cases hrs : isRs r = true
      · left
        rcases Int.lt_or_le c 100 with h | h
        · exact .inl h
        · right
          rcases Int.lt_or_le 599 c with h' | h'
          · exact h'
          · exact absurd ⟨⟨h, h'⟩, hrs⟩ hok
      · right; simpa using hrs))
    obtain ⟨Av, cv, rfl, -⟩ := h.form
    clear hm hz he hok
    go_enter Tryz.func13, Tryz.ntmps13
    go_wp2_with fail
    refine HP.out.mono ?_
    rintro e w1 ⟨⟨k, rfl, hk⟩, g1⟩
    have bX2 := bA.trans (g1.mono bA.size)
    have hne : (k != 0) = true := by rw [bne_iff_ne]; exact hk
    go_wp2_with fail
    go_ret2
    exact ⟨.inl ⟨k, hk, rfl⟩, bX2⟩
end Go.Proofs.YtoalfjkbgeiggaaGreatDoor
