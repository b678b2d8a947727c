/- strings.Cut at one byte, of whatever text. -/
import Derived.Test.YthhhlaoiampinaaDoorShelf
import Derived.Test.YthhhlaoiampinaaDoorBytes
import Derived.Test.YthhhlaoiampinaaDoorIdx
import Derived.Deep.QuietTactic
import Derived.BigQuiet
import Derived.IntWalk
namespace Go.Proofs.YthhhlaoiampinaaDoor
open Go.RowKit
/-- What Cut answers at one byte. -/
def CutOne (s : ByteArray) (c : UInt8) (e : Ending) : Prop :=
  (∃ a b, sl s = a ++ c :: b ∧ c ∉ a ∧ e = .returned (.tuple #[.string (mkS a), .string (mkS b), .bool true])) ∨ (c ∉ sl s ∧ e = .returned (.tuple #[.string s, .string ByteArray.empty, .bool false]))
theorem slite_cut_any (s : ByteArray) (c : UInt8) (w : World) (hs : s.size ≤ 140737488351232) :
    Calls Tryd.prog 36 #[.string s, .string ⟨#[c]⟩] w fun e w' => CutOne s c e ∧ ∃ n, w' = w.drewN n := by
  have HI := Lib.hid (Tryd.stringslite_Index_one s c)
  have hcs := indexByte_case (sl s) c
  rcases hcs with ⟨k, hk, h1, h2, h3⟩ | ⟨h1, h2⟩
  · rw [sl_len] at hk
    rw [show Lib.indexByte s.data.toList c = (k : Int) from h1] at HI
    have HS : Hid (sl s = (sl s).take k ++ c :: (sl s).drop (k + 1) ∧ c ∉ (sl s).take k) := by
      refine ⟨?_, h3⟩
      conv => lhs; rw [← List.take_append_drop k (sl s), List.drop_eq_getElem_cons (by rw [sl_len]; exact hk), h2]
    have e1 : s.extract 0 k = mkS ((sl s).take k) := sl_inj (by rw [sl_extract, sl_mkS, Nat.sub_zero, List.drop_zero])
    have e2 : s.extract (k + 1) s.size = mkS ((sl s).drop (k + 1)) := sl_inj (by rw [sl_extract_end, sl_mkS])
    have i1 : (k : Int) + 1 ≤ (s.size : Int) := by omega
    have i2 : (k : Int) ≤ (s.size : Int) := by omega
    have htn : ((k : Int) + 1).toNat = k + 1 := by omega
    have hnn : 0 ≤ (k : Int) + 1 := by omega
    have hwr : IntKind.i64.wrap ((k : Int) + 1) = (k : Int) + 1 := IntWalk.i64_in _ (by omega)
    clear h1 h2 h3
    generalize (sl s).take k = a at *
    generalize (sl s).drop (k + 1) = b at *
    go_enter Tryd.func36, Tryd.ntmps36
    go_wp2_with fail
    refine (HI.out _).mono ?_
    rintro e w' ⟨rfl, rfl⟩
    go_wp2_with fail
    go_quiet (fail)
    go_wp2_with fail
    refine bodyPost_ret (v := .tuple #[.string (mkS a), .string (mkS b), .bool true]) (by simp [results, Tryd.results36, go_sem]) rfl ⟨.inl ⟨a, b, HS.out.1, HS.out.2, rfl⟩, _, rfl⟩
  · rw [show Lib.indexByte s.data.toList c = -1 from h1] at HI
    have H2 := Lib.hid h2
    clear h1 h2
    go_enter Tryd.func36, Tryd.ntmps36
    go_wp2_with fail
    refine (HI.out _).mono ?_
    rintro e w' ⟨rfl, rfl⟩
    go_wp2_with fail
    refine bodyPost_ret (v := .tuple #[.string s, .string ByteArray.empty, .bool false]) (by simp [results, Tryd.results36, go_sem]; rfl) rfl ⟨.inr ⟨H2.out, rfl⟩, 0, rfl⟩
theorem cut_one (s : ByteArray) (c : UInt8) (w : World) (hs : s.size ≤ 140737488351232) :
    Calls Tryd.prog 21 #[.string s, .string ⟨#[c]⟩] w fun e w' => CutOne s c e ∧ Below w.heap.size w w' := by
  go_enter Tryd.func21, Tryd.ntmps21
  go_wp2_with fail
  refine (slite_cut_any s c _ hs).mono ?_
  rintro e w' ⟨h, n, rfl⟩
  rcases h with ⟨a, b, h1, h2, rfl⟩ | ⟨h1, rfl⟩
  · have HR := Lib.hid (And.intro h1 h2)
    clear h1 h2
    go_wp2_with fail
    refine bodyPost_ret (v := .tuple #[.string (mkS a), .string (mkS b), .bool true]) (by simp [results, Tryd.results21, go_sem]) rfl ⟨.inl ⟨a, b, HR.out.1, HR.out.2, rfl⟩, below_drewN (Below.refl _ _) _⟩
  · have HR := Lib.hid h1
    clear h1
    go_wp2_with fail
    refine bodyPost_ret (v := .tuple #[.string s, .string ByteArray.empty, .bool false]) (by simp [results, Tryd.results21, go_sem]) rfl ⟨.inr ⟨HR.out, rfl⟩, below_drewN (Below.refl _ _) _⟩
end Go.Proofs.YthhhlaoiampinaaDoor
