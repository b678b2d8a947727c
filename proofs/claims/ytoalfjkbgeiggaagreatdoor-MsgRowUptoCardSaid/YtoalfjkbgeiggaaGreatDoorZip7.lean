/- strconv.FormatInt at base 16: what its helpers answer. -/
import Derived.Test.YtoalfjkbgeiggaaGreatDoorZip0
import Derived.Test.YtoalfjkbgeiggaaGreatDoorZip4
import Derived.Test.YtoalfjkbgeiggaaGreatDoorChecked
import Derived.Test.YtoalfjkbgeiggaaGreatDoorZShelf
import Derived.Handy
import Derived.WalkLawsBesides
import Derived.Lib.ConvBytes
import Derived.Lib.Walk
import Derived.IntWalk
import Derived.Test.YtoalfjkbgeiggaaGreatDoorZip3
import Derived.Test.YtoalfjkbgeiggaaGreatDoorZip1
namespace Go.Proofs.YtoalfjkbgeiggaaGreatDoor
set_option maxRecDepth 20000
open Go.RowKit
/-- What strconv's formatBits reads of math/bits' table. -/
def HasTz (w : World) : Prop := w.cell? ⟨7, 15, none⟩ = some (.int .u8 4)
theorem pow2_any (w : World) :
    Calls Tryz.prog 115 #[.int .i64 16] w fun e w' => e = .returned (.bool true) ∧ w = w' := by
  go_enter Tryz.func115, Tryz.ntmps115
  go_wp2_with fail
  go_ret
  exact ⟨rfl, rfl⟩
theorem tz64_any (w : World) (h : HasTz w) :
    Calls Tryz.prog 128 #[.int .u64 16] w fun e w' => e = .returned (.int .i64 4) ∧ w = w' := by
  unfold HasTz at h
  have hq : IntKind.u64.wrap (bits BinOp.and IntKind.u64 16 (IntKind.u64.wrap (-16)) * 285870213051353865) / 288230376151711744 = 15 := by decide +kernel
  go_enter Tryz.func128, Tryz.ntmps128
  go_wp2_with fail
  go_ret
  exact ⟨rfl, rfl⟩
theorem tz_any (w : World) (h : HasTz w) :
    Calls Tryz.prog 116 #[.int .u64 16] w fun e w' => e = .returned (.int .i64 4) ∧ w = w' := by
  go_enter Tryz.func116, Tryz.ntmps116
  go_wp2_with fail
  refine (tz64_any _ h).mono ?_
  rintro e w' ⟨rfl, rfl⟩
  go_wp2_with fail
  go_ret
  exact ⟨rfl, rfl⟩
end Go.Proofs.YtoalfjkbgeiggaaGreatDoor
namespace Go.Proofs.YtoalfjkbgeiggaaGreatDoor
set_option maxRecDepth 20000
open Go.RowKit
namespace Ck
/-- The digits of u ahead of those that lie. -/
def hexF : Nat → Nat → List UInt8 → List UInt8
  | 0, u, l => hd u :: l
  | k + 1, u, l => if u < 16 then hd u :: l else hexF k (u / 16) (hd (u % 16) :: l)
theorem hexF_eq {n : Nat} (h : n < 65536) : hexF 3 n [] = hexL n := by
  unfold hexL
  by_cases h1 : n < 16
  · rw [hexF, if_pos h1, if_pos h1]
  · rw [hexF, if_neg h1, if_neg h1]
    by_cases h2 : n < 256
    · rw [hexF, if_pos (by omega), if_pos h2]
    · rw [hexF, if_neg (by omega), if_neg h2]
      by_cases h3 : n < 4096
      · rw [hexF, if_pos (by omega), if_pos h3, show n / 16 / 16 = n / 256 by omega]
      · rw [hexF, if_neg (by omega), if_neg h3, hexF, show n / 16 / 16 / 16 = n / 4096 by omega, show n / 16 / 16 % 16 = n / 256 % 16 by omega]
theorem hd_at : ∀ u, u < 16 → ("0123456789abcdefghijklmnopqrstuvwxyz".toUTF8.data.toList)[u]? = some (hd u) := by decide +kernel
end Ck
open Ck
/-- A row of 65 bytes, of which the last lie. -/
def Row65 (w : World) (b : Nat) (l : List UInt8) : Prop :=
  l.length ≤ 65 ∧ (∀ j, j < 65 → ∃ v, w.cell? ⟨b, j, none⟩ = some v) ∧ (∀ j, j < 65 → w.frozen? ⟨b, j, none⟩ = false) ∧ ∀ j (h : j < l.length), w.cell? ⟨b, 65 - l.length + j, none⟩ = some (.int .u8 (l[j].toNat : Int))
theorem Row65.put {w : World} {b : Nat} {l : List UInt8} (h : Row65 w b l) (hl : l.length < 65) (x : UInt8) : Row65 (w.setCell ⟨b, 65 - l.length - 1, none⟩ (.int .u8 (x.toNat : Int))) b (x :: l) := by
  obtain ⟨h1, h2, h3, h4⟩ := h
  refine ⟨by simp only [List.length_cons]; omega, fun j hj => ?_, fun j hj => ?_, fun j hj => ?_⟩
  · by_cases e : j = 65 - l.length - 1
    · subst e
      obtain ⟨v, hv⟩ := h2 _ hj
      exact ⟨_, World.cell?_setCell_same _ _ _ hv⟩
    · obtain ⟨v, hv⟩ := h2 _ hj
      exact ⟨v, by rw [World.cell?_setCell_other _ _ _ _ (by simp only [ne_eq, Addr.mk.injEq, true_and, and_true]; omega)]; exact hv⟩
  · rw [World.frozen?_setCell]; exact h3 j hj
  · cases j with
    | zero =>
      obtain ⟨v, hv⟩ := h2 (65 - l.length - 1) (by omega)
      have := World.cell?_setCell_same w ⟨b, 65 - l.length - 1, none⟩ (.int .u8 (x.toNat : Int)) hv
      rw [show 65 - (x :: l).length + 0 = 65 - l.length - 1 by simp only [List.length_cons]; omega]
      exact this
    | succ i =>
      have hi : i < l.length := by simpa using hj
      rw [World.cell?_setCell_other _ _ _ _ (by simp only [List.length_cons, ne_eq, Addr.mk.injEq]; omega), List.getElem_cons_succ, ← h4 i hi]
      congr 2
      simp only [List.length_cons]; omega
end Go.Proofs.YtoalfjkbgeiggaaGreatDoor
namespace Go.Proofs.YtoalfjkbgeiggaaGreatDoor
set_option maxRecDepth 20000
open Go.RowKit
namespace Ck
theorem hexB_iff (c : UInt8) : hexB c = true ↔ (48 ≤ (c.toNat : Int) ∧ (c.toNat : Int) ≤ 57) ∨ (97 ≤ (c.toNat : Int) ∧ (c.toNat : Int) ≤ 102) ∨ (65 ≤ (c.toNat : Int) ∧ (c.toNat : Int) ≤ 70) := by
  simp [hexB, u8_le]
  omega
theorem plainB_iff (c : UInt8) : Tok.plainB c = true ↔ (32 ≤ (c.toNat : Int) ∧ (c.toNat : Int) ≤ 126) ∨ ((c.toNat : Int) = 9) := by
  simp [Tok.plainB, u8_le, ← UInt8.toNat_inj]
  omega
theorem pre_eq {m k : Nat} {p : UInt8 → Bool} {s : List UInt8} (hk : k ≤ m) (hall : (s.take k).all p = true) (hend : k = m ∨ s.length ≤ k ∨ ∃ c r, s.drop k = c :: r ∧ p c = false) : pre m p s = s.take k := by
  unfold pre
  have e : s.take m = s.take k ++ (s.drop k).take (m - k) := by
    rw [← List.take_add]; congr 1; omega
  rw [e, List.takeWhile_append_of_pos (fun a ha => List.all_eq_true.1 hall a ha)]
  have : ((s.drop k).take (m - k)).takeWhile p = [] := by
    rcases hend with rfl | h | ⟨c, r, h, hc⟩
    · simp
    · rw [List.drop_of_length_le h]; simp
    · rw [h]
      cases m - k with
      | zero => simp
      | succ n => rw [List.take_succ_cons, List.takeWhile_cons, hc]; simp
  rw [this, List.append_nil]
theorem all_take {p : UInt8 → Bool} {s : List UInt8} {k : Nat} (h : (s.take k).all p = true) (hk : k < s.length) (hp : p s[k] = true) : (s.take (k + 1)).all p = true := by
  rw [List.take_add_one, List.getElem?_eq_getElem hk, List.all_append, h]
  simp [hp]
end Ck
set_option maxHeartbeats 1600000 in
theorem isHex_any (c : UInt8) (w : World) :
    Calls Tryz.prog 100 #[.int .u8 c.toNat] w fun e w' => e = .returned (.bool (Ck.hexB c)) ∧ w = w' := by
  have hb := c.toNat_lt
  have hI := Ck.hexB_iff c
  have h0 : 0 ≤ (c.toNat : Int) := by omega
  have h255 : (c.toNat : Int) ≤ 255 := by omega
  have hC : (0 ≤ (c.toNat : Int) ∧ (c.toNat : Int) ≤ 47) ∨ (48 ≤ (c.toNat : Int) ∧ (c.toNat : Int) ≤ 57) ∨ (58 ≤ (c.toNat : Int) ∧ (c.toNat : Int) ≤ 64) ∨ (65 ≤ (c.toNat : Int) ∧ (c.toNat : Int) ≤ 70) ∨ (71 ≤ (c.toNat : Int) ∧ (c.toNat : Int) ≤ 96) ∨ (97 ≤ (c.toNat : Int) ∧ (c.toNat : Int) ≤ 102) ∨ (103 ≤ (c.toNat : Int) ∧ (c.toNat : Int) ≤ 255) := by omega
  generalize hx : (c.toNat : Int) = x at *
  rcases hC with ⟨l, u⟩ | ⟨l, u⟩ | ⟨l, u⟩ | ⟨l, u⟩ | ⟨l, u⟩ | ⟨l, u⟩ | ⟨l, u⟩
  · have hS : Hid (Ck.hexB c = false) := by
      show _ = _; rw [Bool.eq_false_iff]; intro h; have := hI.1 h; omega
    have f0 : decide ((48 : Int) ≤ x) = false := decide_eq_false (by omega)
    have f1 : decide (x ≤ (57 : Int)) = true := decide_eq_true (by omega)
    have f2 : decide ((97 : Int) ≤ x) = false := decide_eq_false (by omega)
    have f3 : decide (x ≤ (102 : Int)) = true := decide_eq_true (by omega)
    have f4 : decide ((65 : Int) ≤ x) = false := decide_eq_false (by omega)
    have f5 : decide (x ≤ (70 : Int)) = true := decide_eq_true (by omega)
    clear hI hb l u
    go_enter Tryz.func100, Tryz.ntmps100
    go_wp2_with fail
    go_ret
    exact ⟨ret_bool hS.out.symm, rfl⟩
  · have hS : Hid (Ck.hexB c = true) := by
      show _ = _; exact hI.2 (by omega)
    have f0 : decide ((48 : Int) ≤ x) = true := decide_eq_true (by omega)
    have f1 : decide (x ≤ (57 : Int)) = true := decide_eq_true (by omega)
    have f2 : decide ((97 : Int) ≤ x) = false := decide_eq_false (by omega)
    have f3 : decide (x ≤ (102 : Int)) = true := decide_eq_true (by omega)
    have f4 : decide ((65 : Int) ≤ x) = false := decide_eq_false (by omega)
    have f5 : decide (x ≤ (70 : Int)) = true := decide_eq_true (by omega)
    clear hI hb l u
    go_enter Tryz.func100, Tryz.ntmps100
    go_wp2_with fail
    go_ret
    exact ⟨ret_bool hS.out.symm, rfl⟩
  · have hS : Hid (Ck.hexB c = false) := by
      show _ = _; rw [Bool.eq_false_iff]; intro h; have := hI.1 h; omega
    have f0 : decide ((48 : Int) ≤ x) = true := decide_eq_true (by omega)
    have f1 : decide (x ≤ (57 : Int)) = false := decide_eq_false (by omega)
    have f2 : decide ((97 : Int) ≤ x) = false := decide_eq_false (by omega)
    have f3 : decide (x ≤ (102 : Int)) = true := decide_eq_true (by omega)
    have f4 : decide ((65 : Int) ≤ x) = false := decide_eq_false (by omega)
    have f5 : decide (x ≤ (70 : Int)) = true := decide_eq_true (by omega)
    clear hI hb l u
    go_enter Tryz.func100, Tryz.ntmps100
    go_wp2_with fail
    go_ret
    exact ⟨ret_bool hS.out.symm, rfl⟩
  · have hS : Hid (Ck.hexB c = true) := by
      show _ = _; exact hI.2 (by omega)
    have f0 : decide ((48 : Int) ≤ x) = true := decide_eq_true (by omega)
    have f1 : decide (x ≤ (57 : Int)) = false := decide_eq_false (by omega)
    have f2 : decide ((97 : Int) ≤ x) = false := decide_eq_false (by omega)
    have f3 : decide (x ≤ (102 : Int)) = true := decide_eq_true (by omega)
    have f4 : decide ((65 : Int) ≤ x) = true := decide_eq_true (by omega)
    have f5 : decide (x ≤ (70 : Int)) = true := decide_eq_true (by omega)
    clear hI hb l u
    go_enter Tryz.func100, Tryz.ntmps100
    go_wp2_with fail
    go_ret
    exact ⟨ret_bool hS.out.symm, rfl⟩
  · have hS : Hid (Ck.hexB c = false) := by
      show _ = _; rw [Bool.eq_false_iff]; intro h; have := hI.1 h; omega
    have f0 : decide ((48 : Int) ≤ x) = true := decide_eq_true (by omega)
    have f1 : decide (x ≤ (57 : Int)) = false := decide_eq_false (by omega)
    have f2 : decide ((97 : Int) ≤ x) = false := decide_eq_false (by omega)
    have f3 : decide (x ≤ (102 : Int)) = true := decide_eq_true (by omega)
    have f4 : decide ((65 : Int) ≤ x) = true := decide_eq_true (by omega)
    have f5 : decide (x ≤ (70 : Int)) = false := decide_eq_false (by omega)
    clear hI hb l u
    go_enter Tryz.func100, Tryz.ntmps100
    go_wp2_with fail
    go_ret
    exact ⟨ret_bool hS.out.symm, rfl⟩
  · have hS : Hid (Ck.hexB c = true) := by
      show _ = _; exact hI.2 (by omega)
    have f0 : decide ((48 : Int) ≤ x) = true := decide_eq_true (by omega)
    have f1 : decide (x ≤ (57 : Int)) = false := decide_eq_false (by omega)
    have f2 : decide ((97 : Int) ≤ x) = true := decide_eq_true (by omega)
    have f3 : decide (x ≤ (102 : Int)) = true := decide_eq_true (by omega)
    have f4 : decide ((65 : Int) ≤ x) = true := decide_eq_true (by omega)
    have f5 : decide (x ≤ (70 : Int)) = false := decide_eq_false (by omega)
    clear hI hb l u
    go_enter Tryz.func100, Tryz.ntmps100
    go_wp2_with fail
    go_ret
    exact ⟨ret_bool hS.out.symm, rfl⟩
  · have hS : Hid (Ck.hexB c = false) := by
      show _ = _; rw [Bool.eq_false_iff]; intro h; have := hI.1 h; omega
    have f0 : decide ((48 : Int) ≤ x) = true := decide_eq_true (by omega)
    have f1 : decide (x ≤ (57 : Int)) = false := decide_eq_false (by omega)
    have f2 : decide ((97 : Int) ≤ x) = true := decide_eq_true (by omega)
    have f3 : decide (x ≤ (102 : Int)) = false := decide_eq_false (by omega)
    have f4 : decide ((65 : Int) ≤ x) = true := decide_eq_true (by omega)
    have f5 : decide (x ≤ (70 : Int)) = false := decide_eq_false (by omega)
    clear hI hb l u
    go_enter Tryz.func100, Tryz.ntmps100
    go_wp2_with fail
    go_ret
    exact ⟨ret_bool hS.out.symm, rfl⟩
set_option maxHeartbeats 1600000 in
theorem bodyPlain_any (c : UInt8) (w : World) :
    Calls Tryz.prog 101 #[.int .u8 c.toNat] w fun e w' => e = .returned (.bool (Tok.plainB c)) ∧ w = w' := by
  have hb := c.toNat_lt
  have hI := Ck.plainB_iff c
  have h0 : 0 ≤ (c.toNat : Int) := by omega
  have h255 : (c.toNat : Int) ≤ 255 := by omega
  have hC : (0 ≤ (c.toNat : Int) ∧ (c.toNat : Int) ≤ 8) ∨ (9 ≤ (c.toNat : Int) ∧ (c.toNat : Int) ≤ 9) ∨ (10 ≤ (c.toNat : Int) ∧ (c.toNat : Int) ≤ 31) ∨ (32 ≤ (c.toNat : Int) ∧ (c.toNat : Int) ≤ 126) ∨ (127 ≤ (c.toNat : Int) ∧ (c.toNat : Int) ≤ 255) := by omega
  generalize hx : (c.toNat : Int) = x at *
  rcases hC with ⟨l, u⟩ | ⟨l, u⟩ | ⟨l, u⟩ | ⟨l, u⟩ | ⟨l, u⟩
  · have hS : Hid (Tok.plainB c = false) := by
      show _ = _; rw [Bool.eq_false_iff]; intro h; have := hI.1 h; omega
    have f0 : decide ((32 : Int) ≤ x) = false := decide_eq_false (by omega)
    have f1 : decide (x ≤ (126 : Int)) = true := decide_eq_true (by omega)
    have f2 : (x == (9 : Int)) = false := by rw [beq_eq_false_iff_ne]; omega
    clear hI hb l u
    go_enter Tryz.func101, Tryz.ntmps101
    go_wp2_with fail
    go_ret
    exact ⟨ret_bool hS.out.symm, rfl⟩
  · have hS : Hid (Tok.plainB c = true) := by
      show _ = _; exact hI.2 (by omega)
    have f0 : decide ((32 : Int) ≤ x) = false := decide_eq_false (by omega)
    have f1 : decide (x ≤ (126 : Int)) = true := decide_eq_true (by omega)
    have f2 : (x == (9 : Int)) = true := by rw [beq_iff_eq]; omega
    clear hI hb l u
    go_enter Tryz.func101, Tryz.ntmps101
    go_wp2_with fail
    go_ret
    exact ⟨ret_bool hS.out.symm, rfl⟩
  · have hS : Hid (Tok.plainB c = false) := by
      show _ = _; rw [Bool.eq_false_iff]; intro h; have := hI.1 h; omega
    have f0 : decide ((32 : Int) ≤ x) = false := decide_eq_false (by omega)
    have f1 : decide (x ≤ (126 : Int)) = true := decide_eq_true (by omega)
    have f2 : (x == (9 : Int)) = false := by rw [beq_eq_false_iff_ne]; omega
    clear hI hb l u
    go_enter Tryz.func101, Tryz.ntmps101
    go_wp2_with fail
    go_ret
    exact ⟨ret_bool hS.out.symm, rfl⟩
  · have hS : Hid (Tok.plainB c = true) := by
      show _ = _; exact hI.2 (by omega)
    have f0 : decide ((32 : Int) ≤ x) = true := decide_eq_true (by omega)
    have f1 : decide (x ≤ (126 : Int)) = true := decide_eq_true (by omega)
    have f2 : (x == (9 : Int)) = false := by rw [beq_eq_false_iff_ne]; omega
    clear hI hb l u
    go_enter Tryz.func101, Tryz.ntmps101
    go_wp2_with fail
    go_ret
    exact ⟨ret_bool hS.out.symm, rfl⟩
  · have hS : Hid (Tok.plainB c = false) := by
      show _ = _; rw [Bool.eq_false_iff]; intro h; have := hI.1 h; omega
    have f0 : decide ((32 : Int) ≤ x) = true := decide_eq_true (by omega)
    have f1 : decide (x ≤ (126 : Int)) = false := decide_eq_false (by omega)
    have f2 : (x == (9 : Int)) = false := by rw [beq_eq_false_iff_ne]; omega
    clear hI hb l u
    go_enter Tryz.func101, Tryz.ntmps101
    go_wp2_with fail
    go_ret
    exact ⟨ret_bool hS.out.symm, rfl⟩
end Go.Proofs.YtoalfjkbgeiggaaGreatDoor
namespace Go.Proofs.YtoalfjkbgeiggaaGreatDoor
set_option maxRecDepth 20000
open Go.RowKit
namespace Ck
theorem hexN_snoc (l : List UInt8) (c : UInt8) : hexN (l ++ [c]) = 16 * hexN l + hexV c := by
  unfold hexN; rw [List.foldl_append]; rfl
theorem hexV_le (c : UInt8) (h : hexB c = true) : hexV c ≤ 15 := by
  have := (hexB_iff c).1 h
  unfold hexV
  split
  · omega
  · split <;> omega
theorem hexN_lt' : ∀ (l : List UInt8) (n : Nat), l.all hexB = true → l.foldl (fun n c => 16 * n + hexV c) n < (n + 1) * 16 ^ l.length
  | [], n, _ => by simp
  | c :: l, n, h => by
    rw [List.all_cons, Bool.and_eq_true] at h
    have h2 := hexV_le c h.1
    have h1 := hexN_lt' l (16 * n + hexV c) h.2
    rw [List.foldl_cons, List.length_cons, Nat.pow_succ]
    refine Nat.lt_of_lt_of_le h1 ?_
    rw [Nat.mul_comm (16 ^ l.length) 16, ← Nat.mul_assoc]
    exact Nat.mul_le_mul_right _ (by omega)
theorem hexN_lt (l : List UInt8) (h : l.all hexB = true) : hexN l < 16 ^ l.length := by
  have := hexN_lt' l 0 h
  rwa [Nat.zero_add, Nat.one_mul] at this
theorem or32 : ∀ c : Fin 256, (65 ≤ c.val ∧ c.val ≤ 70) ∨ (97 ≤ c.val ∧ c.val ≤ 102) → bits BinOp.or IntKind.u8 (c.val : Int) 32 = 87 + ((if c.val ≤ 57 then c.val - 48 else if 97 ≤ c.val then c.val - 87 else c.val - 55 : Nat) : Int) := by decide +kernel
end Ck
open Ck
theorem u8_small {x : Int} (h0 : 0 ≤ x) (h1 : x ≤ 255) : IntKind.u8.wrap x = x := by
  rw [IntKind.wrap_u8]; omega
theorem u64_small {x : Int} (h0 : 0 ≤ x) (h1 : x ≤ 18446744073709551615) : IntKind.u64.wrap x = x := by
  rw [IntKind.wrap_u64]; omega
set_option maxHeartbeats 4000000 in
theorem parseUint16_any (t : ByteArray) (ht : (sl t).all hexB = true) (h1 : 1 ≤ t.size) (h4 : t.size ≤ 4) (w : World) :
    Calls Tryz.prog 106 #[.string t, .int .i64 16, .int .i64 32] w fun e w' => e = .returned (.tuple #[.int .u64 (hexN (sl t) : Nat), .nilIface]) ∧ Below w.heap.size w w' := by
  have hemp : t.toList.isEmpty = false := isEmpty_no t h1
  have hcv := Lib.run_convert_string_bytes (P := Tryz.prog) w 9 82 5 t (u := .string) Tryz.underlying9 Tryz.underlying82 Tryz.underlying5
  have hB := Lib.hid (fun (j : Nat) (hj : j < t.size) => Lib.bytesWorld_cell w 5 t j hj)
  have hbel := Lib.bytesWorld_below w 5 t
  generalize Lib.bytesWorld w 5 t = W1 at *
  have hmv : IntKind.u64.wrap (IntKind.u64.wrap 4294967296 - 1) = 4294967295 := by
    rw [IntKind.wrap_u64, IntKind.wrap_u64]
    decide
  have HLN : Hid ((sl t).length = t.size) := sl_len t
  have HD : Hid (t.data.toList = sl t) := rfl
  generalize hL : sl t = L at *
  have HALL := Lib.hid ht
  clear ht
  go_enter Tryz.func106, Tryz.ntmps106
  go_wp2_with fail
  go_loop [12, 13, 101] (fun vu vn vi => ∃ (k : Nat) (a : Int), vu = .bool false ∧ vn = .int .u64 a ∧ vi = .int .i64 k ∧ k ≤ t.size ∧ Hid (a = ((hexN (L.take k) : Nat) : Int))) (fun _ _ vi => t.size - (intOf vi).toNat)
  case atStart => exact ⟨0, 0, rfl, rfl, rfl, by omega, rfl⟩
  case round =>
    obtain ⟨k, a, rfl, rfl, rfl, hk, hh⟩ := hrel
    by_cases hkn : k < t.size
    · have hc := hB.out k hkn
      have hkl : k < L.length := by rw [HLN.out]; exact hkn
      have hget : t.data.toList.getD k 0 = L[k] := by rw [HD.out]; simp [List.getD, List.getElem?_eq_getElem hkl]
      rw [hget] at hc
      have htk : Hid (hexN (L.take (k + 1)) = 16 * hexN (L.take k) + hexV L[k]) := by
        show _ = _
        rw [List.take_add_one, List.getElem?_eq_getElem hkl, Option.toList_some, hexN_snoc]
      have hlt : Hid (hexN (L.take k) < 4096) := by
        have ha : (L.take k).all hexB = true := List.all_eq_true.2 (fun x hx => List.all_eq_true.1 HALL.out x (List.mem_of_mem_take hx))
        have h := hexN_lt _ ha
        have hl : (L.take k).length ≤ 3 := by rw [List.length_take]; omega
        exact Nat.lt_of_lt_of_le h (Nat.le_trans (Nat.pow_le_pow_right (by omega) hl) (by decide))
      have hcB : hexB L[k] = true := List.all_eq_true.1 HALL.out _ (List.getElem_mem hkl)
      clear hget
      generalize L[k] = c at *
      have hI := (hexB_iff c).1 hcB
      have hv15 := hexV_le c hcB
      have hor := or32 ⟨c.toNat, c.toNat_lt⟩
      have hvd : hexV c = (if c.toNat ≤ 57 then c.toNat - 48 else if 97 ≤ c.toNat then c.toNat - 87 else c.toNat - 55 : Nat) := rfl
      dsimp only at hor
      rw [← hvd] at hor
      have ha0 : 0 ≤ a := by rw [hh.out]; omega
      have ha1 : a < 4096 := by have h1 := hh.out; have h2 := hlt.out; omega
      have hn1 : IntKind.u64.wrap (a * 16) = a * 16 := u64_small (by omega) (by omega)
      have hn2 : IntKind.u64.wrap (a * 16 + (hexV c : Int)) = a * 16 + (hexV c : Int) := u64_small (by omega) (by omega)
      have hne : decide (1152921504606846976 ≤ a) = false := decide_eq_false (by omega)
      have hx1 : decide (a * 16 + (hexV c : Int) < a * 16) = false := decide_eq_false (by omega)
      have hx2 : decide ((4294967295 : Int) < a * 16 + (hexV c : Int)) = false := decide_eq_false (by omega)
      have hwv : IntKind.u64.wrap (hexV c : Int) = (hexV c : Int) := u64_small (by omega) (by omega)
      have hd16 : decide ((16 : Int) ≤ (hexV c : Int)) = false := decide_eq_false (by omega)
      have HNX : Hid (a * 16 + (hexV c : Int) = ((hexN (L.take (k + 1)) : Nat) : Int)) := by
        show _ = _
        rw [htk.out, hh.out]; omega
      have hu95 : ((c.toNat : Int) == 95) = false := by rw [beq_eq_false_iff_ne]; omega
      have HOR := Lib.hid hor
      have h0c : (0 : Int) ≤ (c.toNat : Int) := by omega
      have h255 : (c.toNat : Int) ≤ 255 := by have := c.toNat_lt; omega
      by_cases hdig : (c.toNat : Int) ≤ 57
      · have hv : (c.toNat : Int) - 48 = (hexV c : Int) := by rw [hvd, if_pos (by omega)]; omega
        have f1 : decide ((48 : Int) ≤ (c.toNat : Int)) = true := decide_eq_true (by omega)
        have f2 : decide ((c.toNat : Int) ≤ 57) = true := decide_eq_true hdig
        have hw : IntKind.u8.wrap ((c.toNat : Int) - 48) = (hexV c : Int) := by rw [u8_small (by omega) (by omega)]; exact hv
        clear hdig hI hor hvd hv hcB hh hlt htk
        generalize (hexV c : Int) = v at *
        generalize (c.toNat : Int) = x at *
        go_wp2_with fail
        go_round
        case rel => exact ⟨k + 1, _, rfl, rfl, by go_num, hkn, HNX⟩
        case measure => simp [intOf]; omega
      · have f2 : decide ((c.toNat : Int) ≤ 57) = false := decide_eq_false hdig
        have hor' : bits BinOp.or IntKind.u8 (c.toNat : Int) 32 = 87 + (hexV c : Int) := hor (by omega)
        have hv10 : 10 ≤ hexV c := by unfold hexV; rw [if_neg (by omega)]; split <;> omega
        have hv10' : (10 : Int) ≤ (hexV c : Int) := by omega
        clear hv10
        obtain ⟨y, hy⟩ : ∃ y : Int, y = 87 + (hexV c : Int) := ⟨_, rfl⟩
        rw [← hy] at hor'
        have y1 : (97 : Int) ≤ y := by omega
        have y2 : y ≤ 102 := by omega
        have g1 : decide ((97 : Int) ≤ y) = true := decide_eq_true y1
        have g2 : decide (y ≤ 122) = true := decide_eq_true (by omega)
        have w1 : IntKind.u8.wrap (y - 97) = y - 97 := u8_small (by omega) (by omega)
        have w2 : IntKind.u8.wrap (y - 97 + 10) = (hexV c : Int) := by rw [u8_small (by omega) (by omega)]; omega
        have w3 : y - 97 + 10 = (hexV c : Int) := by omega
        clear hI hor hvd hcB hh hlt htk hy
        generalize (hexV c : Int) = v at *
        generalize (c.toNat : Int) = x at *
        go_wp2_with (go_at_call 124; refine (Tryz.internal_strconv_lower _ _).mono ?_; rintro e w' ⟨rfl, rfl⟩; rw [hor'])
        go_round
        case rel => exact ⟨k + 1, _, rfl, rfl, by go_num, hkn, HNX⟩
        case measure => simp [intOf]; omega
    · have hE : L.take k = L := List.take_of_length_le (by rw [HLN.out]; omega)
      rw [hE] at hh
      have ha := hh.out
      subst ha
      go_wp2_with fail
      go_ret2
      exact ⟨rfl, hbel⟩
set_option maxHeartbeats 2000000 in
theorem parseInt16i_any (t : ByteArray) (ht : (sl t).all hexB = true) (h1 : 1 ≤ t.size) (h4 : t.size ≤ 4) (w : World) :
    Calls Tryz.prog 80 #[.string t, .int .i64 16, .int .i64 32] w fun e w' => e = .returned (.tuple #[.int .i64 (hexN (sl t) : Nat), .nilIface]) ∧ Below w.heap.size w w' := by
  have hemp : t.toList.isEmpty = false := isEmpty_no t h1
  have HP := Lib.hid (parseUint16_any t ht h1 h4)
  have hlt : hexN (sl t) < 65536 := Nat.lt_of_lt_of_le (hexN_lt _ ht) (Nat.le_trans (Nat.pow_le_pow_right (by omega) (by rw [sl_len]; exact h4)) (by decide))
  have hc0 : hexB t[0] = true := by
    rw [← sl_getElem t 0 h1]
    exact List.all_eq_true.1 ht _ (List.getElem_mem _)
  have hI := (hexB_iff _).1 hc0
  have e43 : ((t[0].toNat : Int) == 43) = false := by rw [beq_eq_false_iff_ne]; omega
  have e45 : ((t[0].toNat : Int) == 45) = false := by rw [beq_eq_false_iff_ne]; omega
  clear hI hc0
  generalize hexN (sl t) = n at *
  have hn1 : decide ((2147483648 : Int) ≤ (n : Int)) = false := decide_eq_false (by omega)
  go_enter Tryz.func80, Tryz.ntmps80
  go_wp2_with fail
  refine (HP.out w).mono ?_
  rintro e w1 ⟨rfl, b1⟩
  go_wp2_with fail
  go_ret2
  exact ⟨rfl, b1⟩
set_option maxHeartbeats 2000000 in
theorem parseInt16_any (t : ByteArray) (ht : (sl t).all hexB = true) (h1 : 1 ≤ t.size) (h4 : t.size ≤ 4) (w : World) :
    Calls Tryz.prog 103 #[.string t, .int .i64 16, .int .i64 32] w fun e w' => e = .returned (.tuple #[.int .i64 (hexN (sl t) : Nat), .nilIface]) ∧ Below w.heap.size w w' := by
  have HP := Lib.hid (parseInt16i_any t ht h1 h4)
  generalize hexN (sl t) = n at *
  go_enter Tryz.func103, Tryz.ntmps103
  go_wp2_with fail
  refine (HP.out w).mono ?_
  rintro e w1 ⟨rfl, b1⟩
  go_wp2_with fail
  go_ret2
  exact ⟨rfl, b1⟩
end Go.Proofs.YtoalfjkbgeiggaaGreatDoor
namespace Go.Proofs.YtoalfjkbgeiggaaGreatDoor
set_option maxRecDepth 20000
open Go.RowKit
open Ck
theorem Row65.new (w : World) (t : TypeId) (cs : Array Value) (h : cs = Array.replicate 65 (.int .u8 0)) : Row65 (w.alloc (.cells cs t)) w.heap.size [] := by
  subst h
  refine ⟨by simp, fun j hj => ⟨.int .u8 0, ?_⟩, fun j hj => World.frozen?_alloc_at _ _ _ _ rfl, fun j hj => absurd hj (by simp)⟩
  rw [World.cell?_alloc_new, Array.getElem?_replicate, if_pos hj]
theorem dg_all : ∀ x : Fin 16, (⟨#[48, 49, 50, 51, 52, 53, 54, 55, 56, 57, 97, 98, 99, 100, 101, 102, 103, 104, 105, 106, 107, 108, 109, 110, 111, 112, 113, 114, 115, 116, 117, 118, 119, 120, 121, 122]⟩ : ByteArray).data[x.val]? = some (hd x.val) := by decide +kernel
theorem dg_at (x : Nat) (hx : x < 16) (h : x < (⟨#[48, 49, 50, 51, 52, 53, 54, 55, 56, 57, 97, 98, 99, 100, 101, 102, 103, 104, 105, 106, 107, 108, 109, 110, 111, 112, 113, 114, 115, 116, 117, 118, 119, 120, 121, 122]⟩ : ByteArray).size) : (⟨#[48, 49, 50, 51, 52, 53, 54, 55, 56, 57, 97, 98, 99, 100, 101, 102, 103, 104, 105, 106, 107, 108, 109, 110, 111, 112, 113, 114, 115, 116, 117, 118, 119, 120, 121, 122]⟩ : ByteArray)[x]'h = hd x := by
  have := dg_all ⟨x, hx⟩
  rw [Array.getElem?_eq_some_iff] at this
  exact this.2
theorem HasTz.alloc {w : World} (h : HasTz w) (o : Obj) : HasTz (w.alloc o) := by
  unfold HasTz at *
  rw [World.cell?_alloc_some _ _ _ (by rw [h]; rfl)]
  exact h
theorem hexF_small {k x : Nat} {l : List UInt8} (h : x < 16) : hexF k x l = hd x :: l := by
  cases k with
  | zero => rfl
  | succ k => rw [hexF, if_pos h]
theorem conv_row {w : World} {b m : Nat} {l : List UInt8} (h : Row65 w b l) (hm : m + l.length = 65) : (convert 82 9 (.slice (some ⟨b, m, none⟩) (65 - m) (65 - m))).run Tryz.prog w = .ok (.string (mkS l)) w := by
  have e : 65 - m = l.length := by omega
  rw [e]
  refine run_convert_bytes_back w 82 9 5 ⟨b, m, none⟩ l.length l Tryz.underlying82 Tryz.underlying5 Tryz.underlying9 (fun j hj => ?_)
  have := h.2.2.2 j hj
  rw [show 65 - l.length + j = m + j by omega] at this
  have e : ((⟨b, m, none⟩ : Addr).add j) = ⟨b, m + j, none⟩ := by unfold Addr.add; split <;> simp_all
  rw [e]
  exact this
set_option maxHeartbeats 1600000 in
theorem formatBits_any (n : Nat) (h1 : 1 ≤ n) (hn : n < 65536) (w : World) (h : HasTz w) :
    Calls Tryz.prog 92 #[.slice none 0 0, .int .u64 n, .int .i64 16, .bool false, .bool false] w fun e w' => e = .returned (.tuple #[.slice none 0 0, .string (mkS (hexL n))]) ∧ Below w.heap.size w w' := by
  have HL := Lib.hid (hexF_eq hn)
  generalize hexL n = L at *
  go_enter Tryz.func92, Tryz.ntmps92
  go_wp2_with fail
  refine (pow2_any _).mono ?_
  rintro e w' ⟨rfl, rfl⟩
  go_wp2_with fail
  refine (tz_any _ (h.alloc _)).mono ?_
  rintro e w' ⟨rfl, rfl⟩
  have hz : Tryz.zeroCells150 = Array.replicate 65 (.int .u8 0) := by rfl
  have HR0 := Lib.hid (Row65.new w 150 _ hz)
  have B0 : Below w.heap.size w (w.alloc (.cells Tryz.zeroCells150 150)) := (Below.refl _ _).alloc (Nat.le_refl _) _
  generalize w.alloc (.cells Tryz.zeroCells150 150) = wa at *
  clear hz h
  go_wp2_with fail
  go_loopw [13, 1] (fun i u wr => ∃ (k : Nat) (x : Nat) (l : List UInt8), (∃ m : Nat, i = .int .i64 (m : Int) ∧ m + l.length = 65) ∧ u = .int .u64 (x : Int) ∧ 1 ≤ x ∧ x < 16 ^ (k + 1) ∧ k + l.length = 3 ∧ hexF k x l = L ∧ Row65 wr w.heap.size l ∧ Below w.heap.size w wr) (fun i _ _ => (intOf i).toNat)
  case atStart => exact ⟨3, n, [], ⟨65, rfl, rfl⟩, rfl, h1, by omega, rfl, HL.out, HR0.out, B0⟩
  case round =>
    obtain ⟨k, x, l, ⟨m, rfl, hm⟩, rfl, hx1, hx, hkl, hf, hrow, hbel⟩ := hrel
    have HR := Lib.hid hrow
    obtain ⟨v, hv⟩ := hrow.2.1 (m - 1) (by omega)
    have hfz := hrow.2.2.1 (m - 1) (by omega)
    have hm1 : 1 ≤ m := by omega
    have hm65 : m ≤ 65 := by omega
    have hmc : ((m : Int) - 1).toNat = m - 1 := by omega
    have hx64 : x < 65536 := by
      have : 16 ^ (k + 1) ≤ 16 ^ 4 := Nat.pow_le_pow_right (by omega) (by omega)
      omega
    by_cases hlt : x < 16
    · have hal : Tryz.prog.arrayLen 150 = 65 := by kernel_rfl
      have hsl : ∀ W, (Instr.sliceAt 150 (.pointer (some ⟨w.heap.size, 0, none⟩)) (some (.int .i64 ((m : Int) - 1))) none none).run Tryz.prog W = .ok (.slice (some ⟨w.heap.size, m - 1, none⟩) (65 - (m - 1)) (65 - (m - 1))) W := fun W => by
        rw [run_sliceAt_array_l W 150 ⟨w.heap.size, 0, none⟩ (by kernel_rfl) .i64 ((m : Int) - 1) (by omega) (by rw [hal]; omega)]
        rw [hal]
        go_simp
        omega
      have hcv : ∀ h, (convert 82 9 (.slice (some ⟨w.heap.size, m - 1, none⟩) (65 - (m - 1)) (65 - (m - 1)))).run Tryz.prog (wr.setCell ⟨w.heap.size, m - 1, none⟩ (.int .u8 (((⟨#[48, 49, 50, 51, 52, 53, 54, 55, 56, 57, 97, 98, 99, 100, 101, 102, 103, 104, 105, 106, 107, 108, 109, 110, 111, 112, 113, 114, 115, 116, 117, 118, 119, 120, 121, 122]⟩ : ByteArray)[x]'h).toNat : Int))) = .ok (.string (mkS L)) (wr.setCell ⟨w.heap.size, m - 1, none⟩ (.int .u8 (((⟨#[48, 49, 50, 51, 52, 53, 54, 55, 56, 57, 97, 98, 99, 100, 101, 102, 103, 104, 105, 106, 107, 108, 109, 110, 111, 112, 113, 114, 115, 116, 117, 118, 119, 120, 121, 122]⟩ : ByteArray)[x]'h).toNat : Int))) := fun h => by
        have hp := HR.out.put (by omega) (hd x)
        rw [dg_at x hlt h, ← hf, hexF_small hlt, show m - 1 = 65 - l.length - 1 by omega]
        exact conv_row hp (by simp only [List.length_cons]; omega)
      have hbl := fun v => hbel.setCell (p := ⟨w.heap.size, m - 1, none⟩) (Nat.le_refl _) v
      clear hx hrow hal
      go_wp2_with fail
      go_ret2
      exact ⟨rfl, hbl _⟩
    · have hk : 1 ≤ k := by
        rcases Nat.eq_zero_or_pos k with h0 | h0
        · subst h0; simp at hx; omega
        · exact h0
      obtain ⟨r, hr⟩ : ∃ r, r = x % 16 := ⟨_, rfl⟩
      have hr16 : r < 16 := by omega
      have hbm : bits BinOp.and IntKind.u64 (x : Int) 15 = (r : Int) := by
        rw [hr]
        have := bits_mask .u64 64 (by decide) (fun n h0 h1 => by rw [IntKind.wrap_u64]; omega) 4 (by decide) (x : Int) (by omega) (by omega)
        rw [show ((x % 16 : Nat) : Int) = (x : Int) % 16 by omega]
        exact this
      have HRX := Lib.hid hr
      have HXX := Lib.hid hx
      have hbl := fun v => hbel.setCell (p := ⟨w.heap.size, m - 1, none⟩) (Nat.le_refl _) v
      clear hx hrow hr
      go_wp2_with fail
      go_roundw
      case rel =>
        obtain ⟨k', rfl⟩ : ∃ k', k = k' + 1 := ⟨k - 1, by omega⟩
        refine ⟨k', x / 16, hd r :: l, ⟨m - 1, by congr 1; omega, by simp only [List.length_cons]; omega⟩, by congr 1, by omega, ?_, by simp only [List.length_cons]; omega, ?_, ?_, hbl _⟩
        · have := HXX.out
          rw [Nat.pow_succ] at this
          omega
        · rw [hexF, if_neg hlt] at hf
          rw [HRX.out]; exact hf
        · rw [dg_at r hr16]
          have := HR.out.put (by omega) (hd r)
          rw [show 65 - l.length - 1 = m - 1 by omega] at this
          exact this
      case measure => simp [intOf]; omega
set_option maxHeartbeats 1000000 in
theorem formatInt16i_any (n : Nat) (h1 : 1 ≤ n) (hn : n < 65536) (w : World) (h : HasTz w) :
    Calls Tryz.prog 65 #[.int .i64 n, .int .i64 16] w fun e w' => e = .returned (.string (mkS (hexL n))) ∧ Below w.heap.size w w' := by
  have HF := Lib.hid (formatBits_any n h1 hn w h)
  have h0 : decide ((n : Int) < 0) = false := decide_eq_false (by omega)
  have hw : IntKind.u64.wrap (n : Int) = (n : Int) := u64_small (by omega) (by omega)
  generalize hexL n = L at *
  go_enter Tryz.func65, Tryz.ntmps65
  go_wp2_with fail
  refine HF.out.mono ?_
  rintro e w1 ⟨rfl, b1⟩
  go_wp2_with fail
  go_ret
  exact ⟨rfl, b1⟩
theorem formatInt16_any (n : Nat) (h1 : 1 ≤ n) (hn : n < 65536) (w : World) (h : HasTz w) :
    Calls Tryz.prog 47 #[.int .i64 n, .int .i64 16] w fun e w' => e = .returned (.string (mkS (hexL n))) ∧ Below w.heap.size w w' := by
  have HF := Lib.hid (formatInt16i_any n h1 hn w h)
  generalize hexL n = L at *
  go_enter Tryz.func47, Tryz.ntmps47
  go_wp2_with fail
  refine HF.out.mono ?_
  rintro e w1 ⟨rfl, b1⟩
  go_wp2_with fail
  go_ret
  exact ⟨rfl, b1⟩
end Go.Proofs.YtoalfjkbgeiggaaGreatDoor
