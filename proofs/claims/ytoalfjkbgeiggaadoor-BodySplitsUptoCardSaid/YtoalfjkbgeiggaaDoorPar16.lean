/- strconv.ParseInt at base 16 of one to four digits. -/
import Derived.Test.YtoalfjkbgeiggaaDoorChkD
import Derived.Lib.ConvBytes
import Derived.Test.YtoalfjkbgeiggaaDoorShelf
namespace Go.Proofs.YtoalfjkbgeiggaaDoor
set_option maxRecDepth 20000
open Go.RowKit
namespace Ck
theorem hexN_snoc (l : List UInt8) (c : UInt8) : hexN (l ++ [c]) = 16 * hexN l + hexV c := by
  unfold hexN; rw [List.foldl_append]; rfl
theorem hexV_le (c : UInt8) (h : hexB c = true) : hexV c ≤ 15 := by
  have := (hexB_iff c).1 h
  unfold hexV
  split
  · omega
  · split <;> omega
theorem hexN_lt' : ∀ (l : List UInt8) (n : Nat), l.all hexB = true → l.foldl (fun n c => 16 * n + hexV c) n < (n + 1) * 16 ^ l.length
  | [], n, _ => by simp
  | c :: l, n, h => by
    rw [List.all_cons, Bool.and_eq_true] at h
    have h2 := hexV_le c h.1
    have h1 := hexN_lt' l (16 * n + hexV c) h.2
    rw [List.foldl_cons, List.length_cons, Nat.pow_succ]
    refine Nat.lt_of_lt_of_le h1 ?_
    rw [Nat.mul_comm (16 ^ l.length) 16, ← Nat.mul_assoc]
    exact Nat.mul_le_mul_right _ (by omega)
theorem hexN_lt (l : List UInt8) (h : l.all hexB = true) : hexN l < 16 ^ l.length := by
  have := hexN_lt' l 0 h
  rwa [Nat.zero_add, Nat.one_mul] at this
theorem or32 : ∀ c : Fin 256, (65 ≤ c.val ∧ c.val ≤ 70) ∨ (97 ≤ c.val ∧ c.val ≤ 102) → bits BinOp.or IntKind.u8 (c.val : Int) 32 = 87 + ((if c.val ≤ 57 then c.val - 48 else if 97 ≤ c.val then c.val - 87 else c.val - 55 : Nat) : Int) := by decide +kernel
end Ck
open Ck
theorem u8_small {x : Int} (h0 : 0 ≤ x) (h1 : x ≤ 255) : IntKind.u8.wrap x = x := by
  rw [IntKind.wrap_u8]; omega
theorem u64_small {x : Int} (h0 : 0 ≤ x) (h1 : x ≤ 18446744073709551615) : IntKind.u64.wrap x = x := by
  rw [IntKind.wrap_u64]; omega
set_option maxHeartbeats 4000000 in
theorem parseUint16_any (t : ByteArray) (ht : (sl t).all hexB = true) (h1 : 1 ≤ t.size) (h4 : t.size ≤ 4) (w : World) :
    Calls Tryd.prog 39 #[.string t, .int .i64 16, .int .i64 32] w fun e w' => e = .returned (.tuple #[.int .u64 (hexN (sl t) : Nat), .nilIface]) ∧ Below w.heap.size w w' := by
  have hemp : t.toList.isEmpty = false := isEmpty_no t h1
  have hcv := Lib.run_convert_string_bytes (P := Tryd.prog) w 9 39 5 t (u := .string) Tryd.underlying9 Tryd.underlying39 Tryd.underlying5
  have hB := Lib.hid (fun (j : Nat) (hj : j < t.size) => Lib.bytesWorld_cell w 5 t j hj)
  have hbel := Lib.bytesWorld_below w 5 t
  generalize Lib.bytesWorld w 5 t = W1 at *
  have hmv : IntKind.u64.wrap (IntKind.u64.wrap 4294967296 - 1) = 4294967295 := by
    rw [IntKind.wrap_u64, IntKind.wrap_u64]
    decide
  have HLN : Hid ((sl t).length = t.size) := sl_len t
  have HD : Hid (t.data.toList = sl t) := rfl
  generalize hL : sl t = L at *
  have HALL := Lib.hid ht
  clear ht
  go_enter Tryd.func39, Tryd.ntmps39
  go_wp2_with fail
  go_loop [12, 13, 101] (fun vu vn vi => ∃ (k : Nat) (a : Int), vu = .bool false ∧ vn = .int .u64 a ∧ vi = .int .i64 k ∧ k ≤ t.size ∧ Hid (a = ((hexN (L.take k) : Nat) : Int))) (fun _ _ vi => t.size - (intOf vi).toNat)
  case atStart => exact ⟨0, 0, rfl, rfl, rfl, by omega, rfl⟩
  case round =>
    obtain ⟨k, a, rfl, rfl, rfl, hk, hh⟩ := hrel
    by_cases hkn : k < t.size
    · have hc := hB.out k hkn
      have hkl : k < L.length := by rw [HLN.out]; exact hkn
      have hget : t.data.toList.getD k 0 = L[k] := by rw [HD.out]; simp [List.getD, List.getElem?_eq_getElem hkl]
      rw [hget] at hc
      have htk : Hid (hexN (L.take (k + 1)) = 16 * hexN (L.take k) + hexV L[k]) := by
        show _ = _
        rw [List.take_add_one, List.getElem?_eq_getElem hkl, Option.toList_some, hexN_snoc]
      have hlt : Hid (hexN (L.take k) < 4096) := by
        have ha : (L.take k).all hexB = true := List.all_eq_true.2 (fun x hx => List.all_eq_true.1 HALL.out x (List.mem_of_mem_take hx))
        have h := hexN_lt _ ha
        have hl : (L.take k).length ≤ 3 := by rw [List.length_take]; omega
        exact Nat.lt_of_lt_of_le h (Nat.le_trans (Nat.pow_le_pow_right (by omega) hl) (by decide))
      have hcB : hexB L[k] = true := List.all_eq_true.1 HALL.out _ (List.getElem_mem hkl)
      clear hget
      generalize L[k] = c at *
      have hI := (hexB_iff c).1 hcB
      have hv15 := hexV_le c hcB
      have hor := or32 ⟨c.toNat, c.toNat_lt⟩
      have hvd : hexV c = (if c.toNat ≤ 57 then c.toNat - 48 else if 97 ≤ c.toNat then c.toNat - 87 else c.toNat - 55 : Nat) := rfl
      dsimp only at hor
      rw [← hvd] at hor
      have ha0 : 0 ≤ a := by rw [hh.out]; omega
      have ha1 : a < 4096 := by have h1 := hh.out; have h2 := hlt.out; omega
      have hn1 : IntKind.u64.wrap (a * 16) = a * 16 := u64_small (by omega) (by omega)
      have hn2 : IntKind.u64.wrap (a * 16 + (hexV c : Int)) = a * 16 + (hexV c : Int) := u64_small (by omega) (by omega)
      have hne : decide (1152921504606846976 ≤ a) = false := decide_eq_false (by omega)
      have hx1 : decide (a * 16 + (hexV c : Int) < a * 16) = false := decide_eq_false (by omega)
      have hx2 : decide ((4294967295 : Int) < a * 16 + (hexV c : Int)) = false := decide_eq_false (by omega)
      have hwv : IntKind.u64.wrap (hexV c : Int) = (hexV c : Int) := u64_small (by omega) (by omega)
      have hd16 : decide ((16 : Int) ≤ (hexV c : Int)) = false := decide_eq_false (by omega)
      have HNX : Hid (a * 16 + (hexV c : Int) = ((hexN (L.take (k + 1)) : Nat) : Int)) := by
        show _ = _
        rw [htk.out, hh.out]; omega
      have hu95 : ((c.toNat : Int) == 95) = false := by rw [beq_eq_false_iff_ne]; omega
      have HOR := Lib.hid hor
      have h0c : (0 : Int) ≤ (c.toNat : Int) := by omega
      have h255 : (c.toNat : Int) ≤ 255 := by have := c.toNat_lt; omega
      by_cases hdig : (c.toNat : Int) ≤ 57
      · have hv : (c.toNat : Int) - 48 = (hexV c : Int) := by rw [hvd, if_pos (by omega)]; omega
        have f1 : decide ((48 : Int) ≤ (c.toNat : Int)) = true := decide_eq_true (by omega)
        have f2 : decide ((c.toNat : Int) ≤ 57) = true := decide_eq_true hdig
        have hw : IntKind.u8.wrap ((c.toNat : Int) - 48) = (hexV c : Int) := by rw [u8_small (by omega) (by omega)]; exact hv
        clear hdig hI hor hvd hv hcB hh hlt htk
        generalize (hexV c : Int) = v at *
        generalize (c.toNat : Int) = x at *
        go_wp2_with fail
        go_round
        case rel => exact ⟨k + 1, _, rfl, rfl, by go_num, hkn, HNX⟩
        case measure => simp [intOf]; omega
      · have f2 : decide ((c.toNat : Int) ≤ 57) = false := decide_eq_false hdig
        have hor' : bits BinOp.or IntKind.u8 (c.toNat : Int) 32 = 87 + (hexV c : Int) := hor (by omega)
        have hv10 : 10 ≤ hexV c := by unfold hexV; rw [if_neg (by omega)]; split <;> omega
        have hv10' : (10 : Int) ≤ (hexV c : Int) := by omega
        clear hv10
        obtain ⟨y, hy⟩ : ∃ y : Int, y = 87 + (hexV c : Int) := ⟨_, rfl⟩
        rw [← hy] at hor'
        have y1 : (97 : Int) ≤ y := by omega
        have y2 : y ≤ 102 := by omega
        have g1 : decide ((97 : Int) ≤ y) = true := decide_eq_true y1
        have g2 : decide (y ≤ 122) = true := decide_eq_true (by omega)
        have w1 : IntKind.u8.wrap (y - 97) = y - 97 := u8_small (by omega) (by omega)
        have w2 : IntKind.u8.wrap (y - 97 + 10) = (hexV c : Int) := by rw [u8_small (by omega) (by omega)]; omega
        have w3 : y - 97 + 10 = (hexV c : Int) := by omega
        clear hI hor hvd hcB hh hlt htk hy
        generalize (hexV c : Int) = v at *
        generalize (c.toNat : Int) = x at *
        go_wp2_with (go_at_call 50; refine (Tryd.internal_strconv_lower _ _).mono ?_; rintro e w' ⟨rfl, rfl⟩; rw [hor'])
        go_round
        case rel => exact ⟨k + 1, _, rfl, rfl, by go_num, hkn, HNX⟩
        case measure => simp [intOf]; omega
    · have hE : L.take k = L := List.take_of_length_le (by rw [HLN.out]; omega)
      rw [hE] at hh
      have ha := hh.out
      subst ha
      go_wp2_with fail
      go_ret2
      exact ⟨rfl, hbel⟩
set_option maxHeartbeats 2000000 in
theorem parseInt16i_any (t : ByteArray) (ht : (sl t).all hexB = true) (h1 : 1 ≤ t.size) (h4 : t.size ≤ 4) (w : World) :
    Calls Tryd.prog 31 #[.string t, .int .i64 16, .int .i64 32] w fun e w' => e = .returned (.tuple #[.int .i64 (hexN (sl t) : Nat), .nilIface]) ∧ Below w.heap.size w w' := by
  have hemp : t.toList.isEmpty = false := isEmpty_no t h1
  have HP := Lib.hid (parseUint16_any t ht h1 h4)
  have hlt : hexN (sl t) < 65536 := Nat.lt_of_lt_of_le (hexN_lt _ ht) (Nat.le_trans (Nat.pow_le_pow_right (by omega) (by rw [sl_len]; exact h4)) (by decide))
  have hc0 : hexB t[0] = true := by
    rw [← sl_getElem t 0 h1]
    exact List.all_eq_true.1 ht _ (List.getElem_mem _)
  have hI := (hexB_iff _).1 hc0
  have e43 : ((t[0].toNat : Int) == 43) = false := by rw [beq_eq_false_iff_ne]; omega
  have e45 : ((t[0].toNat : Int) == 45) = false := by rw [beq_eq_false_iff_ne]; omega
  clear hI hc0
  generalize hexN (sl t) = n at *
  have hn1 : decide ((2147483648 : Int) ≤ (n : Int)) = false := decide_eq_false (by omega)
  go_enter Tryd.func31, Tryd.ntmps31
  go_wp2_with fail
  refine (HP.out w).mono ?_
  rintro e w1 ⟨rfl, b1⟩
  go_wp2_with fail
  go_ret2
  exact ⟨rfl, b1⟩
set_option maxHeartbeats 2000000 in
theorem parseInt16_any (t : ByteArray) (ht : (sl t).all hexB = true) (h1 : 1 ≤ t.size) (h4 : t.size ≤ 4) (w : World) :
    Calls Tryd.prog 22 #[.string t, .int .i64 16, .int .i64 32] w fun e w' => e = .returned (.tuple #[.int .i64 (hexN (sl t) : Nat), .nilIface]) ∧ Below w.heap.size w w' := by
  have HP := Lib.hid (parseInt16i_any t ht h1 h4)
  generalize hexN (sl t) = n at *
  go_enter Tryd.func22, Tryd.ntmps22
  go_wp2_with fail
  refine (HP.out w).mono ?_
  rintro e w1 ⟨rfl, b1⟩
  go_wp2_with fail
  go_ret2
  exact ⟨rfl, b1⟩
end Go.Proofs.YtoalfjkbgeiggaaDoor
