/- etag's List: what it answers. -/
import Derived.Test.YtiijgbgknolmcaaDoorTagL
import Derived.Test.YtiijgbgknolmcaaDoorShelf
import Derived.Shelf.Strings.SlTrimAscii
namespace Go.Proofs.YtiijgbgknolmcaaDoor
set_option maxRecDepth 20000
open Go.RowKit
theorem blank_set2 (c : UInt8) : ([32, 9] : List UInt8).contains c = Tok.blankB c := by
  unfold Tok.blankB
  simp only [List.contains_cons, List.contains_nil, Bool.or_false]
theorem trimLeft_any (s : ByteArray) (w : World) :
    Calls Tryd.prog 75 #[.string s, .string ⟨#[32, 9]⟩] w fun e w' => e = .returned (.string (mkS ((sl s).dropWhile Tok.blankB))) ∧ Below w.heap.size w w' := by
  refine (Any.strings_TrimLeft_laid Tryd.lays161 (by kernel_rfl) s ⟨#[32, 9]⟩ w (by decide) (ascii_of_all (by decide))).mono fun e w' ⟨he, hb⟩ => ⟨?_, hb⟩
  have h : (fun c : UInt8 => ([32, 9] : List UInt8).contains c) = Tok.blankB := funext blank_set2
  rw [he, show s.data.toList = sl s from rfl, show (⟨#[32, 9]⟩ : ByteArray).data.toList = [32, 9] from rfl]
  unfold Lib.trimLeftS
  rw [h]
  rfl
theorem tagInfo : ElemInfo Tryd.prog 30 (.agg #[.bool false, .string ByteArray.empty]) 2 24 := by unfold ElemInfo; kernel_rfl
theorem bs_one (l : List Tg.Tag) : ∀ u ∈ l.flatMap e_bs, u.oneCell' = true := by
  intro u hu
  obtain ⟨d, _, hd⟩ := List.mem_flatMap.1 hu
  simp only [e_bs, List.mem_cons, List.not_mem_nil, or_false] at hd
  rcases hd with rfl | rfl <;> rfl
def ListAns (base : Nat) (s : ByteArray) (e : Ending) (w' : World) : Prop :=
  (∃ c, Tg.listF (sl s) = .error c ∧ e = .returned (.tuple #[.slice none 0 0, .bool false, .int .i64 c])) ∨
  (Tg.listF (sl s) = .ok (true, []) ∧ e = .returned (.tuple #[.slice none 0 0, .bool true, .int .i64 0])) ∨
  (∃ l v, Tg.listF (sl s) = .ok (false, l) ∧ e = .returned (.tuple #[v, .bool false, .int .i64 0]) ∧ Owns w' base 30 2 e_bs v l)
/-- The loop, whatever it has. -/
theorem listG_nil {n : Nat} {out : List Tg.Tag} {s : List UInt8} (h : s.dropWhile Tok.blankB = []) : Tg.listG n out s = Tg.fin out := by
  cases n with
  | zero => rfl
  | succ n => unfold Tg.listG; rw [h]
theorem listG_comma {n : Nat} {out : List Tg.Tag} {s l : List UInt8} (hn : s.length < n) (h : s.dropWhile Tok.blankB = 44 :: l) : ∃ m, l.length < m ∧ Tg.listG n out s = Tg.listG m out l := by
  cases n with
  | zero => omega
  | succ n =>
    have hl := (List.dropWhile_sublist (p := Tok.blankB) (l := s)).length_le
    rw [h, List.length_cons] at hl
    refine ⟨n, by omega, ?_⟩
    conv => lhs; unfold Tg.listG
    rw [h]
    dsimp only
    rw [if_pos rfl]
theorem listG_bad {n : Nat} {out : List Tg.Tag} {s l : List UInt8} {c : UInt8} (hn : s.length < n) (h : s.dropWhile Tok.blankB = c :: l) (hc : c ≠ 44) (hf : ∀ t r, Tg.good t → c :: l ≠ Tg.text t ++ r) : Tg.listG n out s = .error 3 := by
  have h0 : Tg.firstF (c :: l) = none := by
    cases he : Tg.firstF (c :: l) with
    | none => rfl
    | some p => obtain ⟨t, r⟩ := p; have := Tg.firstF_some.1 he; exact absurd this.2 (hf t r this.1)
  cases n with
  | zero => omega
  | succ n =>
    unfold Tg.listG
    rw [h]
    dsimp only
    rw [if_neg hc, h0]
theorem listG_last {n : Nat} {out : List Tg.Tag} {s l r : List UInt8} {c : UInt8} {t : Tg.Tag} (hn : s.length < n) (h : s.dropWhile Tok.blankB = c :: l) (hc : c ≠ 44) (hg : Tg.good t) (hf : c :: l = Tg.text t ++ r) (hr : r.dropWhile Tok.blankB = []) : Tg.listG n out s = Tg.fin (out ++ [t]) := by
  have h0 : Tg.firstF (c :: l) = some (t, r) := Tg.firstF_some.2 ⟨hg, hf⟩
  cases n with
  | zero => omega
  | succ n =>
    unfold Tg.listG
    rw [h]
    dsimp only
    rw [if_neg hc, h0]
    dsimp only
    rw [hr]
theorem listG_none {n : Nat} {out : List Tg.Tag} {s l r q : List UInt8} {c d : UInt8} {t : Tg.Tag} (hn : s.length < n) (h : s.dropWhile Tok.blankB = c :: l) (hc : c ≠ 44) (hg : Tg.good t) (hf : c :: l = Tg.text t ++ r) (hr : r.dropWhile Tok.blankB = d :: q) (hd : d ≠ 44) : Tg.listG n out s = .error 3 := by
  have h0 : Tg.firstF (c :: l) = some (t, r) := Tg.firstF_some.2 ⟨hg, hf⟩
  cases n with
  | zero => omega
  | succ n =>
    unfold Tg.listG
    rw [h]
    dsimp only
    rw [if_neg hc, h0]
    dsimp only
    rw [hr]
    dsimp only
    rw [if_neg hd]
theorem listG_next {n : Nat} {out : List Tg.Tag} {s l r q : List UInt8} {c : UInt8} {t : Tg.Tag} (hn : s.length < n) (h : s.dropWhile Tok.blankB = c :: l) (hc : c ≠ 44) (hg : Tg.good t) (hf : c :: l = Tg.text t ++ r) (hr : r.dropWhile Tok.blankB = 44 :: q) : ∃ m, q.length < m ∧ Tg.listG n out s = Tg.listG m (out ++ [t]) q := by
  have h0 : Tg.firstF (c :: l) = some (t, r) := Tg.firstF_some.2 ⟨hg, hf⟩
  cases n with
  | zero => omega
  | succ n =>
    have h1 := (List.dropWhile_sublist (p := Tok.blankB) (l := s)).length_le
    have h2 := (List.dropWhile_sublist (p := Tok.blankB) (l := r)).length_le
    have h3 := congrArg List.length hf
    rw [h, List.length_cons] at h1
    rw [hr, List.length_cons] at h2
    rw [List.length_cons, List.length_append] at h3
    refine ⟨n, by omega, ?_⟩
    conv => lhs; unfold Tg.listG
    rw [h]
    dsimp only
    rw [if_neg hc, h0]
    dsimp only
    rw [hr]
    dsimp only
    rw [if_pos rfl]
end Go.Proofs.YtiijgbgknolmcaaDoor
