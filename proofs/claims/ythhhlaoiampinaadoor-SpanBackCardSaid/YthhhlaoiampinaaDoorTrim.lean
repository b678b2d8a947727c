/- strings.Trim of blanks. -/
import Derived.Test.YthhhlaoiampinaaDoorShelf
import Derived.Test.YthhhlaoiampinaaDoorTokC
import Derived.Shelf.Strings.SlTrimAscii
namespace Go.Proofs.YthhhlaoiampinaaDoor
open Go.RowKit
theorem blank_set (c : UInt8) : ([32, 9] : List UInt8).contains c = Tok.blankB c := by
  unfold Tok.blankB
  simp only [List.contains_cons, List.contains_nil, Bool.or_false]
theorem trim_swap (l : List UInt8) : ((l.reverse.dropWhile Tok.blankB).reverse).dropWhile Tok.blankB = ((l.dropWhile Tok.blankB).reverse.dropWhile Tok.blankB).reverse := by
  induction l with
  | nil => rfl
  | cons c l ih =>
    cases hc : Tok.blankB c
    · have e1 : ([c] : List UInt8).dropWhile Tok.blankB = [c] := Tok.dw_cons_false hc
      rw [Tok.dw_cons_false hc, List.reverse_cons, List.dropWhile_append, e1]
      split
      · simp [hc]
      · rw [List.reverse_append, List.reverse_singleton, List.singleton_append, Tok.dw_cons_false hc]
    · have e1 : ([c] : List UInt8).dropWhile Tok.blankB = [] := by rw [Tok.dw_cons_true hc]; rfl
      rw [Tok.dw_cons_true hc, ← ih, List.reverse_cons, List.dropWhile_append, e1]
      split
      · rename_i h
        rw [List.isEmpty_iff.1 h]
        try rfl
      · rw [List.reverse_append, List.reverse_singleton, List.singleton_append, Tok.dw_cons_true hc]
theorem trimS_blank (l : List UInt8) : Lib.trimS l [32, 9] = Tok.trimL l := by
  have h : (fun c : UInt8 => ([32, 9] : List UInt8).contains c) = Tok.blankB := funext blank_set
  unfold Lib.trimS Lib.trimLeftS Lib.trimRightS Tok.trimL
  rw [h]
  exact trim_swap l
theorem strTrim_any (s : ByteArray) (w : World) (hs : s.size ≤ 140737488351232) :
    Calls Tryd.prog 44 #[.string s, .string ⟨#[32, 9]⟩] w fun e w' => e = .returned (.string (mkS (Tok.trimL (sl s)))) ∧ Below w.heap.size w w' := by
  refine (Any.strings_Trim_laid Tryd.lays160 (by kernel_rfl) s ⟨#[32, 9]⟩ w (by omega) (by decide) (ascii_of_all (by decide))).mono fun e w' ⟨he, hb⟩ => ⟨?_, hb⟩
  rw [he, show s.data.toList = sl s from rfl, show (⟨#[32, 9]⟩ : ByteArray).data.toList = [32, 9] from rfl, trimS_blank]
  rfl
end Go.Proofs.YthhhlaoiampinaaDoor
