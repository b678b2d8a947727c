/- What token's Lower computes. -/
import Derived.Test.YthhhlaoiampinaaDoorBuf
namespace Go.Proofs.YthhhlaoiampinaaDoor
open Go.RowKit
namespace Tok
def lowB (c : UInt8) : UInt8 := if 65 ≤ c ∧ c ≤ 90 then c + 32 else c
def low (l : List UInt8) : List UInt8 := l.map lowB
theorem lowB_up {c : UInt8} (h0 : 65 ≤ (c.toNat : Int)) (h1 : (c.toNat : Int) ≤ 90) : ((lowB c).toNat : Int) = (c.toNat : Int) + 32 := by
  unfold lowB
  rw [if_pos ⟨by rw [u8_le]; exact h0, by rw [u8_le]; exact h1⟩, UInt8.toNat_add]
  have : (32 : UInt8).toNat = 32 := rfl
  rw [this]; omega
theorem lowB_no {c : UInt8} (h : (c.toNat : Int) < 65 ∨ 90 < (c.toNat : Int)) : lowB c = c := by
  unfold lowB
  rw [if_neg]
  rw [u8_le, u8_le]
  have : ((65 : UInt8).toNat : Int) = 65 := rfl
  have : ((90 : UInt8).toNat : Int) = 90 := rfl
  omega
theorem lowB_low (c : UInt8) : lowB (lowB c) = lowB c := by
  by_cases h : 65 ≤ (c.toNat : Int) ∧ (c.toNat : Int) ≤ 90
  · apply lowB_no; rw [lowB_up h.1 h.2]; omega
  · rw [lowB_no (c := c) (by omega), lowB_no (c := c) (by omega)]
theorem low_low (l : List UInt8) : low (low l) = low l := by
  unfold low; rw [List.map_map]; exact List.map_congr_left (fun a _ => lowB_low a)
theorem low_len (l : List UInt8) : (low l).length = l.length := List.length_map ..
/-- When k of them are lowered. -/
def lowTo (l : List UInt8) (k : Nat) : List UInt8 := low (l.take k) ++ l.drop k
theorem lowTo_len (l : List UInt8) (k : Nat) : (lowTo l k).length = l.length := by simp [lowTo, low]; omega
theorem lowTo_at {l : List UInt8} {k : Nat} (h : k < l.length) : (lowTo l k)[k]'(by rw [lowTo_len]; exact h) = l[k] := by
  unfold lowTo
  rw [List.getElem_append_right (by simp [low]; omega)]
  simp only [List.getElem_drop]
  congr 1
  simp [low]; omega
theorem lowTo_set {l : List UInt8} {k : Nat} (h : k < l.length) : (lowTo l k).set k (lowB l[k]) = lowTo l (k + 1) := by
  unfold lowTo
  have hl : (low (l.take k)).length = k := by simp [low]; omega
  rw [List.set_append_right _ _ (by omega), hl, Nat.sub_self, List.drop_eq_getElem_cons h, List.set_cons_zero, List.take_add_one, List.getElem?_eq_getElem h]
  unfold low
  rw [List.map_append, List.append_assoc]
  rfl
theorem lowTo_keep {l : List UInt8} {k : Nat} (h : k < l.length) (he : lowB l[k] = l[k]) : lowTo l (k + 1) = lowTo l k := by
  rw [← lowTo_set h, he]
  have := lowTo_at h
  rw [← this, List.set_getElem_self]
end Tok
set_option maxHeartbeats 800000 in
theorem lower_any (s : ByteArray) (w : World) (hs : s.size ≤ 140737488351232) :
    Calls Tryd.prog 13 #[.string s] w fun e w' => e = .returned (.string (mkS (Tok.low (sl s)))) ∧ Below w.heap.size w w' := by
  go_enter Tryd.func13, Tryd.ntmps13
  go_wp2_with ((refine wpList_to_bytes rfl (.tmp 6) 9 46 5 rfl Tryd.underlying9 Tryd.underlying46 Tryd.underlying5 s rfl ?_); intro cp w2 hcp hbuf b2 hsz2)
  go_loopw [10] (fun i wr => ∃ k : Nat, k ≤ s.size ∧ i = .int .i64 k ∧ Buf wr w.heap.size (Tok.lowTo (sl s) k) ∧ Below w.heap.size w wr) (fun i _ => s.size - (intOf i).toNat)
  case atStart => exact ⟨0, by omega, rfl, hbuf, b2⟩
  case round =>
    obtain ⟨k, hk, rfl, hb, hbel⟩ := hrel
    have hgl := hb.1
    by_cases hlt : k < s.size
    · have hkl : k < (sl s).length := by rw [sl_len]; exact hlt
      have hkl' : k < (Tok.lowTo (sl s) k).length := by rw [Tok.lowTo_len]; exact hkl
      have c0 := hb.cell k hkl'
      have f0 := hb.free k hkl'
      rw [Tok.lowTo_at hkl] at c0
      have HP := Lib.hid (hb.put k hkl' (Tok.lowB (sl s)[k]))
      have HS : Hid ((Tok.lowTo (sl s) k).set k (Tok.lowB (sl s)[k]) = Tok.lowTo (sl s) (k + 1)) := Tok.lowTo_set hkl
      have HK : Hid (Tok.lowB (sl s)[k] = (sl s)[k] → Tok.lowTo (sl s) (k + 1) = Tok.lowTo (sl s) k) := fun h => Tok.lowTo_keep hkl h
      generalize (sl s)[k] = c at c0 HP HS HK
      have HB := Lib.hid hb
      have hcb := c.toNat_lt
      simp only [bv] at c0
      clear hb hkl hkl'
      by_cases hup : 65 ≤ (c.toNat : Int) ∧ (c.toNat : Int) ≤ 90
      · obtain ⟨u1, u2⟩ := hup
        have HL := Lib.hid (Tok.lowB_up u1 u2)
        go_wp2
        go_roundw
        case rel =>
          refine ⟨k + 1, by omega, by go_num, ?_, hbel.setCell (p := ⟨w.heap.size, k, none⟩) (Nat.le_refl _) _⟩
          rw [← HS.out, show Value.int IntKind.u8 ((c.toNat : Int) + 97 - 65) = bv (Tok.lowB c) from by unfold bv; rw [HL.out]; congr 1; omega]
          exact HP.out
        case measure => simp [intOf]; omega
      · have HN := Lib.hid (Tok.lowB_no (c := c) (by omega))
        go_wp2
        all_goals
          go_roundw
          case rel => exact ⟨k + 1, by omega, by go_num, by rw [HK.out HN.out]; exact HB.out, hbel⟩
          case measure => simp [intOf]; omega
    · obtain rfl : k = s.size := by omega
      have hE : Tok.lowTo (sl s) s.size = Tok.low (sl s) := by
        unfold Tok.lowTo; rw [List.take_of_length_le (by rw [sl_len]; omega), List.drop_eq_nil_of_le (by rw [sl_len]; omega), List.append_nil]
      rw [hE] at hb
      have hrs := run_string_buf (dst := 9) Tryd.underlying46 Tryd.underlying5 Tryd.underlying9 hb cp
      rw [Tok.low_len, sl_len] at hrs
      clear hE hb
      go_wp2
      go_ret
      exact ⟨rfl, hbel⟩
end Go.Proofs.YthhhlaoiampinaaDoor
