/- body.isHex, body.isPlain; how many bytes of a kind stand ahead. Printed by mkchkd.py. -/
import Derived.Test.YtoalfjkbgeiggaaDoorChkE
import Derived.Test.YtoalfjkbgeiggaaDoorIdx
namespace Go.Proofs.YtoalfjkbgeiggaaDoor
set_option maxRecDepth 20000
open Go.RowKit
namespace Ck
theorem hexB_iff (c : UInt8) : hexB c = true ↔ (48 ≤ (c.toNat : Int) ∧ (c.toNat : Int) ≤ 57) ∨ (97 ≤ (c.toNat : Int) ∧ (c.toNat : Int) ≤ 102) ∨ (65 ≤ (c.toNat : Int) ∧ (c.toNat : Int) ≤ 70) := by
  simp [hexB, u8_le]
  omega
theorem plainB_iff (c : UInt8) : Tok.plainB c = true ↔ (32 ≤ (c.toNat : Int) ∧ (c.toNat : Int) ≤ 126) ∨ ((c.toNat : Int) = 9) := by
  simp [Tok.plainB, u8_le, ← UInt8.toNat_inj]
  omega
theorem pre_eq {m k : Nat} {p : UInt8 → Bool} {s : List UInt8} (hk : k ≤ m) (hall : (s.take k).all p = true) (hend : k = m ∨ s.length ≤ k ∨ ∃ c r, s.drop k = c :: r ∧ p c = false) : pre m p s = s.take k := by
  unfold pre
  have e : s.take m = s.take k ++ (s.drop k).take (m - k) := by
    rw [← List.take_add]; congr 1; omega
  rw [e, List.takeWhile_append_of_pos (fun a ha => List.all_eq_true.1 hall a ha)]
  have : ((s.drop k).take (m - k)).takeWhile p = [] := by
    rcases hend with rfl | h | ⟨c, r, h, hc⟩
    · simp
    · rw [List.drop_of_length_le h]; simp
    · rw [h]
      cases m - k with
      | zero => simp
      | succ n => rw [List.take_succ_cons, List.takeWhile_cons, hc]; simp
  rw [this, List.append_nil]
theorem all_take {p : UInt8 → Bool} {s : List UInt8} {k : Nat} (h : (s.take k).all p = true) (hk : k < s.length) (hp : p s[k] = true) : (s.take (k + 1)).all p = true := by
  rw [List.take_add_one, List.getElem?_eq_getElem hk, List.all_append, h]
  simp [hp]
end Ck
set_option maxHeartbeats 1600000 in
theorem isHex_any (c : UInt8) (w : World) :
    Calls Tryd.prog 19 #[.int .u8 c.toNat] w fun e w' => e = .returned (.bool (Ck.hexB c)) ∧ w = w' := by
  have hb := c.toNat_lt
  have hI := Ck.hexB_iff c
  have h0 : 0 ≤ (c.toNat : Int) := by omega
  have h255 : (c.toNat : Int) ≤ 255 := by omega
  have hC : (0 ≤ (c.toNat : Int) ∧ (c.toNat : Int) ≤ 47) ∨ (48 ≤ (c.toNat : Int) ∧ (c.toNat : Int) ≤ 57) ∨ (58 ≤ (c.toNat : Int) ∧ (c.toNat : Int) ≤ 64) ∨ (65 ≤ (c.toNat : Int) ∧ (c.toNat : Int) ≤ 70) ∨ (71 ≤ (c.toNat : Int) ∧ (c.toNat : Int) ≤ 96) ∨ (97 ≤ (c.toNat : Int) ∧ (c.toNat : Int) ≤ 102) ∨ (103 ≤ (c.toNat : Int) ∧ (c.toNat : Int) ≤ 255) := by omega
  generalize hx : (c.toNat : Int) = x at *
  rcases hC with ⟨l, u⟩ | ⟨l, u⟩ | ⟨l, u⟩ | ⟨l, u⟩ | ⟨l, u⟩ | ⟨l, u⟩ | ⟨l, u⟩
  · have hS : Hid (Ck.hexB c = false) := by
      show _ = _; rw [Bool.eq_false_iff]; intro h; have := hI.1 h; omega
    have f0 : decide ((48 : Int) ≤ x) = false := decide_eq_false (by omega)
    have f1 : decide (x ≤ (57 : Int)) = true := decide_eq_true (by omega)
    have f2 : decide ((97 : Int) ≤ x) = false := decide_eq_false (by omega)
    have f3 : decide (x ≤ (102 : Int)) = true := decide_eq_true (by omega)
    have f4 : decide ((65 : Int) ≤ x) = false := decide_eq_false (by omega)
    have f5 : decide (x ≤ (70 : Int)) = true := decide_eq_true (by omega)
    clear hI hb l u
    go_enter Tryd.func19, Tryd.ntmps19
    go_wp2_with fail
    go_ret
    exact ⟨ret_bool hS.out.symm, rfl⟩
  · have hS : Hid (Ck.hexB c = true) := by
      show _ = _; exact hI.2 (by omega)
    have f0 : decide ((48 : Int) ≤ x) = true := decide_eq_true (by omega)
    have f1 : decide (x ≤ (57 : Int)) = true := decide_eq_true (by omega)
    have f2 : decide ((97 : Int) ≤ x) = false := decide_eq_false (by omega)
    have f3 : decide (x ≤ (102 : Int)) = true := decide_eq_true (by omega)
    have f4 : decide ((65 : Int) ≤ x) = false := decide_eq_false (by omega)
    have f5 : decide (x ≤ (70 : Int)) = true := decide_eq_true (by omega)
    clear hI hb l u
    go_enter Tryd.func19, Tryd.ntmps19
    go_wp2_with fail
    go_ret
    exact ⟨ret_bool hS.out.symm, rfl⟩
  · have hS : Hid (Ck.hexB c = false) := by
      show _ = _; rw [Bool.eq_false_iff]; intro h; have := hI.1 h; omega
    have f0 : decide ((48 : Int) ≤ x) = true := decide_eq_true (by omega)
    have f1 : decide (x ≤ (57 : Int)) = false := decide_eq_false (by omega)
    have f2 : decide ((97 : Int) ≤ x) = false := decide_eq_false (by omega)
    have f3 : decide (x ≤ (102 : Int)) = true := decide_eq_true (by omega)
    have f4 : decide ((65 : Int) ≤ x) = false := decide_eq_false (by omega)
    have f5 : decide (x ≤ (70 : Int)) = true := decide_eq_true (by omega)
    clear hI hb l u
    go_enter Tryd.func19, Tryd.ntmps19
    go_wp2_with fail
    go_ret
    exact ⟨ret_bool hS.out.symm, rfl⟩
  · have hS : Hid (Ck.hexB c = true) := by
      show _ = _; exact hI.2 (by omega)
    have f0 : decide ((48 : Int) ≤ x) = true := decide_eq_true (by omega)
    have f1 : decide (x ≤ (57 : Int)) = false := decide_eq_false (by omega)
    have f2 : decide ((97 : Int) ≤ x) = false := decide_eq_false (by omega)
    have f3 : decide (x ≤ (102 : Int)) = true := decide_eq_true (by omega)
    have f4 : decide ((65 : Int) ≤ x) = true := decide_eq_true (by omega)
    have f5 : decide (x ≤ (70 : Int)) = true := decide_eq_true (by omega)
    clear hI hb l u
    go_enter Tryd.func19, Tryd.ntmps19
    go_wp2_with fail
    go_ret
    exact ⟨ret_bool hS.out.symm, rfl⟩
  · have hS : Hid (Ck.hexB c = false) := by
      show _ = _; rw [Bool.eq_false_iff]; intro h; have := hI.1 h; omega
    have f0 : decide ((48 : Int) ≤ x) = true := decide_eq_true (by omega)
    have f1 : decide (x ≤ (57 : Int)) = false := decide_eq_false (by omega)
    have f2 : decide ((97 : Int) ≤ x) = false := decide_eq_false (by omega)
    have f3 : decide (x ≤ (102 : Int)) = true := decide_eq_true (by omega)
    have f4 : decide ((65 : Int) ≤ x) = true := decide_eq_true (by omega)
    have f5 : decide (x ≤ (70 : Int)) = false := decide_eq_false (by omega)
    clear hI hb l u
    go_enter Tryd.func19, Tryd.ntmps19
    go_wp2_with fail
    go_ret
    exact ⟨ret_bool hS.out.symm, rfl⟩
  · have hS : Hid (Ck.hexB c = true) := by
      show _ = _; exact hI.2 (by omega)
    have f0 : decide ((48 : Int) ≤ x) = true := decide_eq_true (by omega)
    have f1 : decide (x ≤ (57 : Int)) = false := decide_eq_false (by omega)
    have f2 : decide ((97 : Int) ≤ x) = true := decide_eq_true (by omega)
    have f3 : decide (x ≤ (102 : Int)) = true := decide_eq_true (by omega)
    have f4 : decide ((65 : Int) ≤ x) = true := decide_eq_true (by omega)
    have f5 : decide (x ≤ (70 : Int)) = false := decide_eq_false (by omega)
    clear hI hb l u
    go_enter Tryd.func19, Tryd.ntmps19
    go_wp2_with fail
    go_ret
    exact ⟨ret_bool hS.out.symm, rfl⟩
  · have hS : Hid (Ck.hexB c = false) := by
      show _ = _; rw [Bool.eq_false_iff]; intro h; have := hI.1 h; omega
    have f0 : decide ((48 : Int) ≤ x) = true := decide_eq_true (by omega)
    have f1 : decide (x ≤ (57 : Int)) = false := decide_eq_false (by omega)
    have f2 : decide ((97 : Int) ≤ x) = true := decide_eq_true (by omega)
    have f3 : decide (x ≤ (102 : Int)) = false := decide_eq_false (by omega)
    have f4 : decide ((65 : Int) ≤ x) = true := decide_eq_true (by omega)
    have f5 : decide (x ≤ (70 : Int)) = false := decide_eq_false (by omega)
    clear hI hb l u
    go_enter Tryd.func19, Tryd.ntmps19
    go_wp2_with fail
    go_ret
    exact ⟨ret_bool hS.out.symm, rfl⟩
set_option maxHeartbeats 1600000 in
theorem bodyPlain_any (c : UInt8) (w : World) :
    Calls Tryd.prog 20 #[.int .u8 c.toNat] w fun e w' => e = .returned (.bool (Tok.plainB c)) ∧ w = w' := by
  have hb := c.toNat_lt
  have hI := Ck.plainB_iff c
  have h0 : 0 ≤ (c.toNat : Int) := by omega
  have h255 : (c.toNat : Int) ≤ 255 := by omega
  have hC : (0 ≤ (c.toNat : Int) ∧ (c.toNat : Int) ≤ 8) ∨ (9 ≤ (c.toNat : Int) ∧ (c.toNat : Int) ≤ 9) ∨ (10 ≤ (c.toNat : Int) ∧ (c.toNat : Int) ≤ 31) ∨ (32 ≤ (c.toNat : Int) ∧ (c.toNat : Int) ≤ 126) ∨ (127 ≤ (c.toNat : Int) ∧ (c.toNat : Int) ≤ 255) := by omega
  generalize hx : (c.toNat : Int) = x at *
  rcases hC with ⟨l, u⟩ | ⟨l, u⟩ | ⟨l, u⟩ | ⟨l, u⟩ | ⟨l, u⟩
  · have hS : Hid (Tok.plainB c = false) := by
      show _ = _; rw [Bool.eq_false_iff]; intro h; have := hI.1 h; omega
    have f0 : decide ((32 : Int) ≤ x) = false := decide_eq_false (by omega)
    have f1 : decide (x ≤ (126 : Int)) = true := decide_eq_true (by omega)
    have f2 : (x == (9 : Int)) = false := by rw [beq_eq_false_iff_ne]; omega
    clear hI hb l u
    go_enter Tryd.func20, Tryd.ntmps20
    go_wp2_with fail
    go_ret
    exact ⟨ret_bool hS.out.symm, rfl⟩
  · have hS : Hid (Tok.plainB c = true) := by
      show _ = _; exact hI.2 (by omega)
    have f0 : decide ((32 : Int) ≤ x) = false := decide_eq_false (by omega)
    have f1 : decide (x ≤ (126 : Int)) = true := decide_eq_true (by omega)
    have f2 : (x == (9 : Int)) = true := by rw [beq_iff_eq]; omega
    clear hI hb l u
    go_enter Tryd.func20, Tryd.ntmps20
    go_wp2_with fail
    go_ret
    exact ⟨ret_bool hS.out.symm, rfl⟩
  · have hS : Hid (Tok.plainB c = false) := by
      show _ = _; rw [Bool.eq_false_iff]; intro h; have := hI.1 h; omega
    have f0 : decide ((32 : Int) ≤ x) = false := decide_eq_false (by omega)
    have f1 : decide (x ≤ (126 : Int)) = true := decide_eq_true (by omega)
    have f2 : (x == (9 : Int)) = false := by rw [beq_eq_false_iff_ne]; omega
    clear hI hb l u
    go_enter Tryd.func20, Tryd.ntmps20
    go_wp2_with fail
    go_ret
    exact ⟨ret_bool hS.out.symm, rfl⟩
  · have hS : Hid (Tok.plainB c = true) := by
      show _ = _; exact hI.2 (by omega)
    have f0 : decide ((32 : Int) ≤ x) = true := decide_eq_true (by omega)
    have f1 : decide (x ≤ (126 : Int)) = true := decide_eq_true (by omega)
    have f2 : (x == (9 : Int)) = false := by rw [beq_eq_false_iff_ne]; omega
    clear hI hb l u
    go_enter Tryd.func20, Tryd.ntmps20
    go_wp2_with fail
    go_ret
    exact ⟨ret_bool hS.out.symm, rfl⟩
  · have hS : Hid (Tok.plainB c = false) := by
      show _ = _; rw [Bool.eq_false_iff]; intro h; have := hI.1 h; omega
    have f0 : decide ((32 : Int) ≤ x) = true := decide_eq_true (by omega)
    have f1 : decide (x ≤ (126 : Int)) = false := decide_eq_false (by omega)
    have f2 : (x == (9 : Int)) = false := by rw [beq_eq_false_iff_ne]; omega
    clear hI hb l u
    go_enter Tryd.func20, Tryd.ntmps20
    go_wp2_with fail
    go_ret
    exact ⟨ret_bool hS.out.symm, rfl⟩
end Go.Proofs.YtoalfjkbgeiggaaDoor
