/- strings.CutPrefix; strings.Cut at one byte, of whatever text. -/
import Derived.Test.YtpoaffhhkmochaaShelf
import Derived.Test.YtpoaffhhkmochaaBytes
import Derived.Deep.QuietTactic
import Derived.BigQuiet
import Derived.IntWalk
namespace Go.Proofs.Ytpoaffhhkmochaa
open Go.RowKit
theorem hasPrefix_any (s p : ByteArray) (w : World) :
    Calls Try.prog 93 #[.string s, .string p] w fun e w' => e = .returned (.bool (decide (sl p <+: sl s))) ∧ w = w' := by
  by_cases hz : p.size ≤ s.size
  · have d0 : decide (p.size ≤ s.size) = true := decide_eq_true hz
    have i0 : (p.size : Int) ≤ (s.size : Int) := by omega
    have HX : Hid (((s.extract 0 p.size).toList == p.toList) = decide (sl p <+: sl s)) := by
      show _ = _
      rw [ba_toList, ba_toList, sl_extract, Bool.eq_iff_iff, beq_iff_eq, decide_eq_true_iff, List.prefix_iff_eq_take, Nat.sub_zero, List.drop_zero, sl_len]
      exact eq_comm
    generalize hb : ((s.extract 0 p.size).toList == p.toList) = b at HX
    go_enter Try.func93, Try.ntmps93
    go_wp2_with fail
    go_ret
    exact ⟨ret_bool HX.out, rfl⟩
  · have d0 : decide (p.size ≤ s.size) = false := decide_eq_false hz
    have HX : Hid (decide (sl p <+: sl s) = false) := by
      show _ = _
      rw [decide_eq_false_iff_not]
      intro h
      have := h.length_le
      rw [sl_len, sl_len] at this
      exact hz this
    clear hz
    go_enter Try.func93, Try.ntmps93
    go_wp2_with fail
    go_ret
    exact ⟨ret_bool HX.out.symm, rfl⟩
/-- What CutPrefix answers. -/
def CutPre (s p : ByteArray) (e : Ending) : Prop :=
  (∃ r, sl s = sl p ++ r ∧ e = .returned (.tuple #[.string (mkS r), .bool true])) ∨ ((¬ sl p <+: sl s) ∧ e = .returned (.tuple #[.string s, .bool false]))
theorem slite_cutPrefix_any (s p : ByteArray) (w : World) :
    Calls Try.prog 73 #[.string s, .string p] w fun e w' => CutPre s p e ∧ w = w' := by
  by_cases hp : sl p <+: sl s
  · obtain ⟨r, hr⟩ := hp
    have HR := Lib.hid hr
    have hz : (p.size : Int) ≤ (s.size : Int) := by
      have := congrArg List.length hr
      rw [List.length_append, sl_len, sl_len] at this; omega
    have hc : s.extract p.size s.size = mkS r := by
      apply sl_inj
      rw [sl_extract_end, sl_mkS, ← hr, ← sl_len, List.drop_left' rfl]
    have hpre := Lib.hid (hasPrefix_any s p)
    rw [decide_eq_true (show sl p <+: sl s from ⟨r, hr⟩)] at hpre
    clear hr
    go_enter Try.func73, Try.ntmps73
    go_wp2_with fail
    refine (hpre.out _).mono ?_
    rintro e w' ⟨rfl, rfl⟩
    go_wp2_with fail
    go_ret2
    exact ⟨.inl ⟨r, HR.out.symm, rfl⟩, rfl⟩
  · have hpre := Lib.hid (hasPrefix_any s p)
    rw [decide_eq_false hp] at hpre
    have HP := Lib.hid hp
    clear hp
    go_enter Try.func73, Try.ntmps73
    go_wp2_with fail
    refine (hpre.out _).mono ?_
    rintro e w' ⟨rfl, rfl⟩
    go_wp2_with fail
    go_ret2
    exact ⟨.inr ⟨HP.out, rfl⟩, rfl⟩
theorem cutPrefix_any (s p : ByteArray) (w : World) :
    Calls Try.prog 53 #[.string s, .string p] w fun e w' => CutPre s p e ∧ w = w' := by
  go_enter Try.func53, Try.ntmps53
  go_wp2_with fail
  refine (slite_cutPrefix_any s p _).mono ?_
  rintro e w' ⟨h, rfl⟩
  rcases h with ⟨r, hr, rfl⟩ | ⟨hr, rfl⟩
  · have HR := Lib.hid hr
    clear hr
    go_wp2_with fail
    go_ret2
    exact ⟨.inl ⟨r, HR.out, rfl⟩, rfl⟩
  · have HR := Lib.hid hr
    clear hr
    go_wp2_with fail
    go_ret2
    exact ⟨.inr ⟨HR.out, rfl⟩, rfl⟩
/-- What Cut answers at one byte. -/
def CutOne (s : ByteArray) (c : UInt8) (e : Ending) : Prop :=
  (∃ a b, sl s = a ++ c :: b ∧ c ∉ a ∧ e = .returned (.tuple #[.string (mkS a), .string (mkS b), .bool true])) ∨ (c ∉ sl s ∧ e = .returned (.tuple #[.string s, .string ByteArray.empty, .bool false]))
theorem indexByte_case (l : List UInt8) (c : UInt8) : (∃ k : Nat, ∃ hk : k < l.length, Lib.indexByte l c = (k : Int) ∧ l[k] = c ∧ c ∉ l.take k) ∨ (Lib.indexByte l c = -1 ∧ c ∉ l) := by
  induction l with
  | nil => exact .inr ⟨rfl, by simp⟩
  | cons b l ih =>
    by_cases hb : b = c
    · refine .inl ⟨0, by simp, ?_, hb, by simp⟩
      simp [Lib.indexByte, hb]
    · have hb' : (b == c) = false := by simpa using hb
      rcases ih with ⟨k, hk, h1, h2, h3⟩ | ⟨h1, h2⟩
      · refine .inl ⟨k + 1, by simpa using hk, ?_, by simpa using h2, ?_⟩
        · have : ((k : Int) == -1) = false := by rw [beq_eq_false_iff_ne]; omega
          simp only [Lib.indexByte, hb', h1, this, Bool.false_eq_true, if_false]
          omega
        · simp only [List.take_succ_cons, List.mem_cons, not_or]
          exact ⟨fun e => hb e.symm, h3⟩
      · refine .inr ⟨?_, by simp only [List.mem_cons, not_or]; exact ⟨fun e => hb e.symm, h2⟩⟩
        simp [Lib.indexByte, hb', h1]
theorem slite_cut_any (s : ByteArray) (c : UInt8) (w : World) (hs : s.size ≤ 140737488351232) :
    Calls Try.prog 74 #[.string s, .string ⟨#[c]⟩] w fun e w' => CutOne s c e ∧ ∃ n, w' = w.drewN n := by
  have HI := Lib.hid (Try.stringslite_Index_one s c)
  have hcs := indexByte_case (sl s) c
  rcases hcs with ⟨k, hk, h1, h2, h3⟩ | ⟨h1, h2⟩
  · rw [sl_len] at hk
    rw [show Lib.indexByte s.data.toList c = (k : Int) from h1] at HI
    have HS : Hid (sl s = (sl s).take k ++ c :: (sl s).drop (k + 1) ∧ c ∉ (sl s).take k) := by
      refine ⟨?_, h3⟩
      conv => lhs; rw [← List.take_append_drop k (sl s), List.drop_eq_getElem_cons (by rw [sl_len]; exact hk), h2]
    have e1 : s.extract 0 k = mkS ((sl s).take k) := sl_inj (by rw [sl_extract, sl_mkS, Nat.sub_zero, List.drop_zero])
    have e2 : s.extract (k + 1) s.size = mkS ((sl s).drop (k + 1)) := sl_inj (by rw [sl_extract_end, sl_mkS])
    have i1 : (k : Int) + 1 ≤ (s.size : Int) := by omega
    have i2 : (k : Int) ≤ (s.size : Int) := by omega
    have htn : ((k : Int) + 1).toNat = k + 1 := by omega
    have hnn : 0 ≤ (k : Int) + 1 := by omega
    have hwr : IntKind.i64.wrap ((k : Int) + 1) = (k : Int) + 1 := IntWalk.i64_in _ (by omega)
    clear h1 h2 h3
    generalize (sl s).take k = a at *
    generalize (sl s).drop (k + 1) = b at *
    go_enter Try.func74, Try.ntmps74
    go_wp2_with fail
    refine (HI.out _).mono ?_
    rintro e w' ⟨rfl, rfl⟩
    go_wp2_with fail
    go_quiet (fail)
    go_wp2_with fail
    refine bodyPost_ret (v := .tuple #[.string (mkS a), .string (mkS b), .bool true]) (by simp [results, Try.results74, go_sem]) rfl ⟨.inl ⟨a, b, HS.out.1, HS.out.2, rfl⟩, _, rfl⟩
  · rw [show Lib.indexByte s.data.toList c = -1 from h1] at HI
    have H2 := Lib.hid h2
    clear h1 h2
    go_enter Try.func74, Try.ntmps74
    go_wp2_with fail
    refine (HI.out _).mono ?_
    rintro e w' ⟨rfl, rfl⟩
    go_wp2_with fail
    refine bodyPost_ret (v := .tuple #[.string s, .string ByteArray.empty, .bool false]) (by simp [results, Try.results74, go_sem]; rfl) rfl ⟨.inr ⟨H2.out, rfl⟩, 0, rfl⟩
theorem cut_one (s : ByteArray) (c : UInt8) (w : World) (hs : s.size ≤ 140737488351232) :
    Calls Try.prog 54 #[.string s, .string ⟨#[c]⟩] w fun e w' => CutOne s c e ∧ Below w.heap.size w w' := by
  go_enter Try.func54, Try.ntmps54
  go_wp2_with fail
  refine (slite_cut_any s c _ hs).mono ?_
  rintro e w' ⟨h, n, rfl⟩
  rcases h with ⟨a, b, h1, h2, rfl⟩ | ⟨h1, rfl⟩
  · have HR := Lib.hid (And.intro h1 h2)
    clear h1 h2
    go_wp2_with fail
    refine bodyPost_ret (v := .tuple #[.string (mkS a), .string (mkS b), .bool true]) (by simp [results, Try.results54, go_sem]) rfl ⟨.inl ⟨a, b, HR.out.1, HR.out.2, rfl⟩, below_drewN (Below.refl _ _) _⟩
  · have HR := Lib.hid h1
    clear h1
    go_wp2_with fail
    refine bodyPost_ret (v := .tuple #[.string s, .string ByteArray.empty, .bool false]) (by simp [results, Try.results54, go_sem]) rfl ⟨.inr ⟨HR.out, rfl⟩, below_drewN (Below.refl _ _) _⟩
end Go.Proofs.Ytpoaffhhkmochaa
