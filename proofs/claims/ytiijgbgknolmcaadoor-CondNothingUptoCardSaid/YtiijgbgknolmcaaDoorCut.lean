/- strings.CutPrefix. -/
import Derived.Test.YtiijgbgknolmcaaDoorShelf
import Derived.Test.YtiijgbgknolmcaaDoorBytes
import Derived.Test.YtiijgbgknolmcaaDoorCut1
import Derived.Deep.QuietTactic
import Derived.BigQuiet
import Derived.IntWalk
namespace Go.Proofs.YtiijgbgknolmcaaDoor
open Go.RowKit
theorem hasPrefix_any (s p : ByteArray) (w : World) :
    Calls Tryd.prog 102 #[.string s, .string p] w fun e w' => e = .returned (.bool (decide (sl p <+: sl s))) ∧ w = w' := by
  by_cases hz : p.size ≤ s.size
  · have d0 : decide (p.size ≤ s.size) = true := decide_eq_true hz
    have i0 : (p.size : Int) ≤ (s.size : Int) := by omega
    have HX : Hid (((s.extract 0 p.size).toList == p.toList) = decide (sl p <+: sl s)) := by
      show _ = _
      rw [ba_toList, ba_toList, sl_extract, Bool.eq_iff_iff, beq_iff_eq, decide_eq_true_iff, List.prefix_iff_eq_take, Nat.sub_zero, List.drop_zero, sl_len]
      exact eq_comm
    generalize hb : ((s.extract 0 p.size).toList == p.toList) = b at HX
    go_enter Tryd.func102, Tryd.ntmps102
    go_wp2_with fail
    go_ret
    exact ⟨ret_bool HX.out, rfl⟩
  · have d0 : decide (p.size ≤ s.size) = false := decide_eq_false hz
    have HX : Hid (decide (sl p <+: sl s) = false) := by
      show _ = _
      rw [decide_eq_false_iff_not]
      intro h
      have := h.length_le
      rw [sl_len, sl_len] at this
      exact hz this
    clear hz
    go_enter Tryd.func102, Tryd.ntmps102
    go_wp2_with fail
    go_ret
    exact ⟨ret_bool HX.out.symm, rfl⟩
/-- What CutPrefix answers. -/
def CutPre (s p : ByteArray) (e : Ending) : Prop :=
  (∃ r, sl s = sl p ++ r ∧ e = .returned (.tuple #[.string (mkS r), .bool true])) ∨ ((¬ sl p <+: sl s) ∧ e = .returned (.tuple #[.string s, .bool false]))
theorem slite_cutPrefix_any (s p : ByteArray) (w : World) :
    Calls Tryd.prog 87 #[.string s, .string p] w fun e w' => CutPre s p e ∧ w = w' := by
  by_cases hp : sl p <+: sl s
  · obtain ⟨r, hr⟩ := hp
    have HR := Lib.hid hr
    have hz : (p.size : Int) ≤ (s.size : Int) := by
      have := congrArg List.length hr
      rw [List.length_append, sl_len, sl_len] at this; omega
    have hc : s.extract p.size s.size = mkS r := by
      apply sl_inj
      rw [sl_extract_end, sl_mkS, ← hr, ← sl_len, List.drop_left' rfl]
    have hpre := Lib.hid (hasPrefix_any s p)
    rw [decide_eq_true (show sl p <+: sl s from ⟨r, hr⟩)] at hpre
    clear hr
    go_enter Tryd.func87, Tryd.ntmps87
    go_wp2_with fail
    refine (hpre.out _).mono ?_
    rintro e w' ⟨rfl, rfl⟩
    go_wp2_with fail
    go_ret2
    exact ⟨.inl ⟨r, HR.out.symm, rfl⟩, rfl⟩
  · have hpre := Lib.hid (hasPrefix_any s p)
    rw [decide_eq_false hp] at hpre
    have HP := Lib.hid hp
    clear hp
    go_enter Tryd.func87, Tryd.ntmps87
    go_wp2_with fail
    refine (hpre.out _).mono ?_
    rintro e w' ⟨rfl, rfl⟩
    go_wp2_with fail
    go_ret2
    exact ⟨.inr ⟨HP.out, rfl⟩, rfl⟩
theorem cutPrefix_any (s p : ByteArray) (w : World) :
    Calls Tryd.prog 74 #[.string s, .string p] w fun e w' => CutPre s p e ∧ w = w' := by
  go_enter Tryd.func74, Tryd.ntmps74
  go_wp2_with fail
  refine (slite_cutPrefix_any s p _).mono ?_
  rintro e w' ⟨h, rfl⟩
  rcases h with ⟨r, hr, rfl⟩ | ⟨hr, rfl⟩
  · have HR := Lib.hid hr
    clear hr
    go_wp2_with fail
    go_ret2
    exact ⟨.inl ⟨r, HR.out, rfl⟩, rfl⟩
  · have HR := Lib.hid hr
    clear hr
    go_wp2_with fail
    go_ret2
    exact ⟨.inr ⟨HR.out, rfl⟩, rfl⟩
end Go.Proofs.YtiijgbgknolmcaaDoor
