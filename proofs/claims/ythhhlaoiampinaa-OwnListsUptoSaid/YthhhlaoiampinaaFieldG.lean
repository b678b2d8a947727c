/- FieldBoth: the law's walk. -/
import Derived.Test.YthhhlaoiampinaaFieldF
namespace Go.Proofs.Ythhhlaoiampinaa
open Go.RowKit
theorem join_both : ∀ (xs ys : List (List UInt8)) (sep : List UInt8), xs ≠ [] → ys ≠ [] → Lib.join (xs ++ ys) sep = Lib.join xs sep ++ sep ++ Lib.join ys sep
  | [], _, _, h, _ => absurd rfl h
  | x :: xs, [], _, _, h => absurd rfl h
  | x :: xs, y :: ys, sep, _, _ => by
    rw [List.cons_append, Lib.join_cons, Lib.join_cons, Lib.join_cons]
    simp [Lib.joinTail]
theorem joinS_both (xs ys : List ByteArray) (sep : ByteArray) (hx : xs ≠ []) (hy : ys ≠ []) : joinS (xs ++ ys) sep = joinS xs sep ++ sep ++ joinS ys sep := by
  apply sl_inj
  simp only [joinS, joinL, sl_append, sl_mkS, List.map_append]
  exact join_both _ _ _ (by simpa using hx) (by simpa using hy)
theorem copyFld_any (v : Value) (l : List Fld) (w : World) (h : SlR w e_ss v l) (hl : l.length * 32 ≤ 140737488355328) :
    Calls Try.prog 11 #[v] w fun e w' => RetFlds w.heap.size l e w' ∧ Below w.heap.size w w' := by
  go_enter Try.func11, Try.ntmps11
  go_wp2_with (at_builtin; go_must (refine wpList_append_slr rfl (.const (.slice none 0 0)) (.tmp 3) _ rfl w.heap.size 31 (.agg #[.string ByteArray.empty, .string ByteArray.empty]) 2 32 e_ss Try.underlying29 fldInfoB rfl (by decide) (fun _ => rfl) _ [] rfl (Owns.nil w w.heap.size 31 2 e_ss) _ l rfl h (ss_oneB l) (by simp [maxLen]; omega) (by simp; omega) (by simp) ?_); intro v' w2 hown' hgrow)
  go_ret
  exact ⟨⟨_, rfl, hown'⟩, (Below.refl _ _).grown hgrow (Nat.le_refl _) (fun k hk => by have hk' : (none : Option Nat) = some k := hk; cases hk')⟩
theorem selF_xy : selF [(⟨#[120]⟩, ⟨#[121]⟩)] ⟨#[88]⟩ = [⟨#[121]⟩] := by kernel_rfl
/-- Get(Set(nil, "x", "y"), "X"). -/
theorem set_xy (w : World) :
    Calls Try.prog 12 #[.slice none 0 0, .string ⟨#[120]⟩, .string ⟨#[121]⟩] w fun e w' => RetFlds w.heap.size [(⟨#[120]⟩, ⟨#[121]⟩)] e w' ∧ Below w.heap.size w w' := by
  refine (set_any _ [] ⟨#[120]⟩ ⟨#[121]⟩ w (SlR.nil w e_ss) (by decide) (fun _ hf => by cases hf) (by decide)).mono ?_
  rintro e w' ⟨h, hb⟩
  exact ⟨h, hb⟩
theorem get_xy (v : Value) (w : World) (h : SlR w e_ss v [(⟨#[120]⟩, ⟨#[121]⟩)]) :
    Calls Try.prog 17 #[v, .string ⟨#[88]⟩] w fun e w' => e = .returned (.tuple #[.string ⟨#[121]⟩, .bool true]) ∧ Below w.heap.size w w' :=
  get_one v _ _ _ w h (by decide) (fun f hf => by rw [List.mem_singleton.1 hf]; decide) (by decide) selF_xy (by decide)
end Go.Proofs.Ythhhlaoiampinaa
