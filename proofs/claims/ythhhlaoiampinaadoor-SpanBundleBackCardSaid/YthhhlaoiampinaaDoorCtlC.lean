/- control's directive: what it reads. -/
import Derived.Test.YthhhlaoiampinaaDoorCtlB
namespace Go.Proofs.YthhhlaoiampinaaDoor
set_option maxRecDepth 20000
open Go.RowKit
/-- What stands before the first c, and behind it. -/
def cutAt (c : UInt8) : List UInt8 → Option (List UInt8 × List UInt8)
  | [] => none
  | x :: l => if x = c then some ([], l) else (cutAt c l).map (fun p => (x :: p.1, p.2))
theorem cutAt_some {c : UInt8} : ∀ {l a b : List UInt8}, l = a ++ c :: b → c ∉ a → cutAt c l = some (a, b)
  | _, [], b, rfl, _ => by simp [cutAt]
  | _, x :: a, b, rfl, h => by
    have hx : x ≠ c := fun e => h (by simp [e])
    simp only [List.cons_append, cutAt, if_neg hx, cutAt_some (l := a ++ c :: b) rfl (fun e => h (by simp [e])), Option.map_some]
theorem cutAt_none {c : UInt8} : ∀ {l : List UInt8}, c ∉ l → cutAt c l = none
  | [], _ => rfl
  | x :: l, h => by
    have hx : x ≠ c := fun e => h (by simp [e])
    have hl : c ∉ l := fun e => h (List.mem_cons_of_mem _ e)
    simp only [cutAt, if_neg hx, cutAt_none hl, Option.map_none]
/-- What directive reads: none, where it is none. -/
def dirD (p : ByteArray) : Option Dr :=
  match cutAt 61 (sl p) with
  | some (a, b) => if Tok.isTok (mkS a) = true then (if Tok.isTok (mkS b) = true then some (lowT (mkS a), true, mkS b) else (Tok.unquoteL b).map (fun u => (lowT (mkS a), true, mkS u))) else none
  | none => if Tok.isTok p = true then some (lowT p, false, ByteArray.empty) else none
def DirAns (p : ByteArray) (e : Ending) : Prop :=
  (∃ d, dirD p = some d ∧ e = .returned (.tuple #[vDr d, .bool true])) ∨ (dirD p = none ∧ ∃ d : Dr, e = .returned (.tuple #[vDr d, .bool false]))
theorem escs_ge : ∀ l : List UInt8, l.length ≤ (Tok.escs l).length
  | [] => by simp [Tok.escs]
  | c :: l => by
    have ih := escs_ge l
    have : 1 ≤ (Tok.esc c).length := by unfold Tok.esc; split <;> simp
    simp only [Tok.escs, List.flatMap_cons, List.length_append, List.length_cons] at ih ⊢; omega
/-- A struct of three cells, stored whole; what is made behind it leaves it alone. -/
theorem three_set (w2 : World) (g : Nat) (h : g < w2.heap.size) {x0 x1 x2 : Value} (u0 u1 u2 : Value) (d0 : w2.cell? ⟨g, 0, none⟩ = some x0) (d1 : w2.cell? ⟨g, 1, none⟩ = some x1) (d2 : w2.cell? ⟨g, 2, none⟩ = some x2) (w3 : World)
    (hb : Below w2.heap.size (((w2.setCell ⟨g, 0, none⟩ u0).setCell ⟨g, 1, none⟩ u1).setCell ⟨g, 2, none⟩ u2) w3) :
    w3.cell? ⟨g, 0, none⟩ = some u0 ∧ w3.cell? ⟨g, 1, none⟩ = some u1 ∧ w3.cell? ⟨g, 2, none⟩ = some u2 := by
  refine ⟨(hb.cell h).trans ?_, (hb.cell h).trans ?_, (hb.cell h).trans ?_⟩ <;> simp [go_sem, d0, d1, d2]
end Go.Proofs.YthhhlaoiampinaaDoor
