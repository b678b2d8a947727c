/- strconv.FormatInt at base 16 of 1 .. 65535: formatBits. -/
import Derived.Test.YtoalfjkbgeiggaaDoorHexB
import Derived.Test.YtoalfjkbgeiggaaDoorPar16
namespace Go.Proofs.YtoalfjkbgeiggaaDoor
set_option maxRecDepth 20000
open Go.RowKit
open Ck
theorem Row65.new (w : World) (t : TypeId) (cs : Array Value) (h : cs = Array.replicate 65 (.int .u8 0)) : Row65 (w.alloc (.cells cs t)) w.heap.size [] := by
  subst h
  refine ⟨by simp, fun j hj => ⟨.int .u8 0, ?_⟩, fun j hj => World.frozen?_alloc_at _ _ _ _ rfl, fun j hj => absurd hj (by simp)⟩
  rw [World.cell?_alloc_new, Array.getElem?_replicate, if_pos hj]
theorem dg_all : ∀ x : Fin 16, (⟨#[48, 49, 50, 51, 52, 53, 54, 55, 56, 57, 97, 98, 99, 100, 101, 102, 103, 104, 105, 106, 107, 108, 109, 110, 111, 112, 113, 114, 115, 116, 117, 118, 119, 120, 121, 122]⟩ : ByteArray).data[x.val]? = some (hd x.val) := by decide +kernel
theorem dg_at (x : Nat) (hx : x < 16) (h : x < (⟨#[48, 49, 50, 51, 52, 53, 54, 55, 56, 57, 97, 98, 99, 100, 101, 102, 103, 104, 105, 106, 107, 108, 109, 110, 111, 112, 113, 114, 115, 116, 117, 118, 119, 120, 121, 122]⟩ : ByteArray).size) : (⟨#[48, 49, 50, 51, 52, 53, 54, 55, 56, 57, 97, 98, 99, 100, 101, 102, 103, 104, 105, 106, 107, 108, 109, 110, 111, 112, 113, 114, 115, 116, 117, 118, 119, 120, 121, 122]⟩ : ByteArray)[x]'h = hd x := by
  have := dg_all ⟨x, hx⟩
  rw [Array.getElem?_eq_some_iff] at this
  exact this.2
theorem HasTz.alloc {w : World} (h : HasTz w) (o : Obj) : HasTz (w.alloc o) := by
  unfold HasTz at *
  rw [World.cell?_alloc_some _ _ _ (by rw [h]; rfl)]
  exact h
theorem hexF_small {k x : Nat} {l : List UInt8} (h : x < 16) : hexF k x l = hd x :: l := by
  cases k with
  | zero => rfl
  | succ k => rw [hexF, if_pos h]
theorem conv_row {w : World} {b m : Nat} {l : List UInt8} (h : Row65 w b l) (hm : m + l.length = 65) : (convert 39 9 (.slice (some ⟨b, m, none⟩) (65 - m) (65 - m))).run Tryd.prog w = .ok (.string (mkS l)) w := by
  have e : 65 - m = l.length := by omega
  rw [e]
  refine run_convert_bytes_back w 39 9 5 ⟨b, m, none⟩ l.length l Tryd.underlying39 Tryd.underlying5 Tryd.underlying9 (fun j hj => ?_)
  have := h.2.2.2 j hj
  rw [show 65 - l.length + j = m + j by omega] at this
  have e : ((⟨b, m, none⟩ : Addr).add j) = ⟨b, m + j, none⟩ := by unfold Addr.add; split <;> simp_all
  rw [e]
  exact this
set_option maxHeartbeats 1600000 in
theorem formatBits_any (n : Nat) (h1 : 1 ≤ n) (hn : n < 65536) (w : World) (h : HasTz w) :
    Calls Tryd.prog 29 #[.slice none 0 0, .int .u64 n, .int .i64 16, .bool false, .bool false] w fun e w' => e = .returned (.tuple #[.slice none 0 0, .string (mkS (hexL n))]) ∧ Below w.heap.size w w' := by
  have HL := Lib.hid (hexF_eq hn)
  generalize hexL n = L at *
  go_enter Tryd.func29, Tryd.ntmps29
  go_wp2_with fail
  refine (pow2_any _).mono ?_
  rintro e w' ⟨rfl, rfl⟩
  go_wp2_with fail
  refine (tz_any _ (h.alloc _)).mono ?_
  rintro e w' ⟨rfl, rfl⟩
  have hz : Tryd.zeroCells73 = Array.replicate 65 (.int .u8 0) := by rfl
  have HR0 := Lib.hid (Row65.new w 73 _ hz)
  have B0 : Below w.heap.size w (w.alloc (.cells Tryd.zeroCells73 73)) := (Below.refl _ _).alloc (Nat.le_refl _) _
  generalize w.alloc (.cells Tryd.zeroCells73 73) = wa at *
  clear hz h
  go_wp2_with fail
  go_loopw [13, 1] (fun i u wr => ∃ (k : Nat) (x : Nat) (l : List UInt8), (∃ m : Nat, i = .int .i64 (m : Int) ∧ m + l.length = 65) ∧ u = .int .u64 (x : Int) ∧ 1 ≤ x ∧ x < 16 ^ (k + 1) ∧ k + l.length = 3 ∧ hexF k x l = L ∧ Row65 wr w.heap.size l ∧ Below w.heap.size w wr) (fun i _ _ => (intOf i).toNat)
  case atStart => exact ⟨3, n, [], ⟨65, rfl, rfl⟩, rfl, h1, by omega, rfl, HL.out, HR0.out, B0⟩
  case round =>
    obtain ⟨k, x, l, ⟨m, rfl, hm⟩, rfl, hx1, hx, hkl, hf, hrow, hbel⟩ := hrel
    have HR := Lib.hid hrow
    obtain ⟨v, hv⟩ := hrow.2.1 (m - 1) (by omega)
    have hfz := hrow.2.2.1 (m - 1) (by omega)
    have hm1 : 1 ≤ m := by omega
    have hm65 : m ≤ 65 := by omega
    have hmc : ((m : Int) - 1).toNat = m - 1 := by omega
    have hx64 : x < 65536 := by
      have : 16 ^ (k + 1) ≤ 16 ^ 4 := Nat.pow_le_pow_right (by omega) (by omega)
      omega
    by_cases hlt : x < 16
    · have hal : Tryd.prog.arrayLen 73 = 65 := by kernel_rfl
      have hsl : ∀ W, (Instr.sliceAt 73 (.pointer (some ⟨w.heap.size, 0, none⟩)) (some (.int .i64 ((m : Int) - 1))) none none).run Tryd.prog W = .ok (.slice (some ⟨w.heap.size, m - 1, none⟩) (65 - (m - 1)) (65 - (m - 1))) W := fun W => by
        rw [run_sliceAt_array_l W 73 ⟨w.heap.size, 0, none⟩ (by kernel_rfl) .i64 ((m : Int) - 1) (by omega) (by rw [hal]; omega)]
        rw [hal]
        go_simp
        omega
      have hcv : ∀ h, (convert 39 9 (.slice (some ⟨w.heap.size, m - 1, none⟩) (65 - (m - 1)) (65 - (m - 1)))).run Tryd.prog (wr.setCell ⟨w.heap.size, m - 1, none⟩ (.int .u8 (((⟨#[48, 49, 50, 51, 52, 53, 54, 55, 56, 57, 97, 98, 99, 100, 101, 102, 103, 104, 105, 106, 107, 108, 109, 110, 111, 112, 113, 114, 115, 116, 117, 118, 119, 120, 121, 122]⟩ : ByteArray)[x]'h).toNat : Int))) = .ok (.string (mkS L)) (wr.setCell ⟨w.heap.size, m - 1, none⟩ (.int .u8 (((⟨#[48, 49, 50, 51, 52, 53, 54, 55, 56, 57, 97, 98, 99, 100, 101, 102, 103, 104, 105, 106, 107, 108, 109, 110, 111, 112, 113, 114, 115, 116, 117, 118, 119, 120, 121, 122]⟩ : ByteArray)[x]'h).toNat : Int))) := fun h => by
        have hp := HR.out.put (by omega) (hd x)
        rw [dg_at x hlt h, ← hf, hexF_small hlt, show m - 1 = 65 - l.length - 1 by omega]
        exact conv_row hp (by simp only [List.length_cons]; omega)
      have hbl := fun v => hbel.setCell (p := ⟨w.heap.size, m - 1, none⟩) (Nat.le_refl _) v
      clear hx hrow hal
      go_wp2_with fail
      go_ret2
      exact ⟨rfl, hbl _⟩
    · have hk : 1 ≤ k := by
        rcases Nat.eq_zero_or_pos k with h0 | h0
        · subst h0; simp at hx; omega
        · exact h0
      obtain ⟨r, hr⟩ : ∃ r, r = x % 16 := ⟨_, rfl⟩
      have hr16 : r < 16 := by omega
      have hbm : bits BinOp.and IntKind.u64 (x : Int) 15 = (r : Int) := by
        rw [hr]
        have := bits_mask .u64 64 (by decide) (fun n h0 h1 => by rw [IntKind.wrap_u64]; omega) 4 (by decide) (x : Int) (by omega) (by omega)
        rw [show ((x % 16 : Nat) : Int) = (x : Int) % 16 by omega]
        exact this
      have HRX := Lib.hid hr
      have HXX := Lib.hid hx
      have hbl := fun v => hbel.setCell (p := ⟨w.heap.size, m - 1, none⟩) (Nat.le_refl _) v
      clear hx hrow hr
      go_wp2_with fail
      go_roundw
      case rel =>
        obtain ⟨k', rfl⟩ : ∃ k', k = k' + 1 := ⟨k - 1, by omega⟩
        refine ⟨k', x / 16, hd r :: l, ⟨m - 1, by congr 1; omega, by simp only [List.length_cons]; omega⟩, by congr 1, by omega, ?_, by simp only [List.length_cons]; omega, ?_, ?_, hbl _⟩
        · have := HXX.out
          rw [Nat.pow_succ] at this
          omega
        · rw [hexF, if_neg hlt] at hf
          rw [HRX.out]; exact hf
        · rw [dg_at r hr16]
          have := HR.out.put (by omega) (hd r)
          rw [show 65 - l.length - 1 = m - 1 by omega] at this
          exact this
      case measure => simp [intOf]; omega
set_option maxHeartbeats 1000000 in
theorem formatInt16i_any (n : Nat) (h1 : 1 ≤ n) (hn : n < 65536) (w : World) (h : HasTz w) :
    Calls Tryd.prog 18 #[.int .i64 n, .int .i64 16] w fun e w' => e = .returned (.string (mkS (hexL n))) ∧ Below w.heap.size w w' := by
  have HF := Lib.hid (formatBits_any n h1 hn w h)
  have h0 : decide ((n : Int) < 0) = false := decide_eq_false (by omega)
  have hw : IntKind.u64.wrap (n : Int) = (n : Int) := u64_small (by omega) (by omega)
  generalize hexL n = L at *
  go_enter Tryd.func18, Tryd.ntmps18
  go_wp2_with fail
  refine HF.out.mono ?_
  rintro e w1 ⟨rfl, b1⟩
  go_wp2_with fail
  go_ret
  exact ⟨rfl, b1⟩
theorem formatInt16_any (n : Nat) (h1 : 1 ≤ n) (hn : n < 65536) (w : World) (h : HasTz w) :
    Calls Tryd.prog 14 #[.int .i64 n, .int .i64 16] w fun e w' => e = .returned (.string (mkS (hexL n))) ∧ Below w.heap.size w w' := by
  have HF := Lib.hid (formatInt16i_any n h1 hn w h)
  generalize hexL n = L at *
  go_enter Tryd.func14, Tryd.ntmps14
  go_wp2_with fail
  refine HF.out.mono ?_
  rintro e w1 ⟨rfl, b1⟩
  go_wp2_with fail
  go_ret
  exact ⟨rfl, b1⟩
end Go.Proofs.YtoalfjkbgeiggaaDoor
