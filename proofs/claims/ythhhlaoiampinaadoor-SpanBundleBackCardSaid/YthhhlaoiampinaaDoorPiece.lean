/- What stands behind '=': a token, or a text in quotes. -/
import Derived.Test.YthhhlaoiampinaaDoorTokL1
import Derived.Test.YthhhlaoiampinaaDoorTokJ
import Derived.Test.YthhhlaoiampinaaDoorTokD1
import Derived.Test.YthhhlaoiampinaaDoorIsTok
import Derived.Test.YthhhlaoiampinaaDoorLower
import Derived.Test.YthhhlaoiampinaaDoorCut1
import Derived.Test.YthhhlaoiampinaaDoorRows2
namespace Go.Proofs.YthhhlaoiampinaaDoor
open Go.RowKit
def lowT (n : ByteArray) : ByteArray := mkS (Tok.low (sl n))
/-- A parameter as it is written: its name, what it stands for. -/
structure Piece (p n v : ByteArray) : Prop where
  name : Tok.isTok n = true
  size : p.size ≤ 1000
  text : (sl p = sl n ++ 61 :: sl v ∧ Tok.isTok v = true) ∨ (sl p = sl n ++ 61 :: Tok.quoteL (sl v) ∧ (sl v).all Tok.plainB = true)
theorem tok_61 : Tok.tokB 61 = false := by decide
theorem tok_no {n : ByteArray} (h : Tok.isTok n = true) {c : UInt8} (hc : Tok.tokB c = false) : c ∉ sl n := by
  unfold Tok.isTok at h
  rw [Bool.and_eq_true] at h
  intro hm
  have := List.all_eq_true.1 h.1 c hm
  rw [hc] at this; cases this
theorem quoted_no (l : List UInt8) : Tok.isTok (mkS (Tok.quoteL l)) = false := by
  unfold Tok.isTok
  rw [sl_mkS]
  have : (Tok.quoteL l).all Tok.tokB = false := by
    rw [List.all_eq_false]
    exact ⟨34, by simp [Tok.quoteL], by decide⟩
  rw [this]; rfl
theorem split_at {c : UInt8} : ∀ {a a' b b' : List UInt8}, a ++ c :: b = a' ++ c :: b' → c ∉ a → c ∉ a' → a = a' ∧ b = b'
  | [], [], b, b', h, _, _ => by simpa using h
  | [], x :: a', b, b', h, _, h2 => by
    simp only [List.nil_append, List.cons_append, List.cons.injEq] at h
    exact absurd h.1 (by intro e; apply h2; simp [e])
  | x :: a, [], b, b', h, h1, _ => by
    simp only [List.nil_append, List.cons_append, List.cons.injEq] at h
    exact absurd h.1 (by intro e; apply h1; simp [e])
  | x :: a, y :: a', b, b', h, h1, h2 => by
    simp only [List.cons_append, List.cons.injEq] at h
    obtain ⟨rfl, h⟩ := h
    obtain ⟨rfl, rfl⟩ := split_at h (fun e => h1 (by simp [e])) (fun e => h2 (by simp [e]))
    exact ⟨rfl, rfl⟩
namespace Tok
theorem cutL_plain (sign : UInt8) : ∀ (u cur r : List UInt8), (34 : UInt8) ∉ u → sign ∉ u → cutL sign false cur (u ++ r) = cutL sign false (cur ++ u) r
  | [], cur, r, _, _ => by simp
  | c :: u, cur, r, h1, h2 => by
    rw [List.cons_append, cutL_n _ _ _ _ (by rw [beq_eq_false_iff_ne]; intro e; apply h1; simp [e]) (by rw [beq_eq_false_iff_ne]; intro e; apply h2; simp [e]),
      cutL_plain sign u _ _ (fun e => h1 (by simp [e])) (fun e => h2 (by simp [e]))]
    simp
end Tok
theorem tok_ends {n : ByteArray} (h : Tok.isTok n = true) : (∃ x, (sl n).head? = some x ∧ Tok.blankB x = false) ∧ ∃ y, (sl n).getLast? = some y ∧ Tok.blankB y = false := by
  unfold Tok.isTok at h
  rw [Bool.and_eq_true, decide_eq_true_eq] at h
  have hne : sl n ≠ [] := fun e => by have := sl_len n; rw [e] at this; simp at this; omega
  have hb : ∀ x ∈ sl n, Tok.blankB x = false := fun x hx => (Tok.tok_blank (List.all_eq_true.1 h.1 x hx)).1
  exact ⟨⟨_, List.head?_eq_some_head hne, hb _ (List.head_mem hne)⟩, ⟨_, List.getLast?_eq_some_getLast hne, hb _ (List.getLast_mem hne)⟩⟩
/-- Cut at '=', of a parameter. -/
theorem cut_piece (p n : ByteArray) (q : List UInt8) (w : World) (hp : p.size ≤ 1000) (hn : Tok.isTok n = true) (h : sl p = sl n ++ 61 :: q) :
    Calls Tryd.prog 21 #[.string p, .string ⟨#[61]⟩] w fun e w' => e = .returned (.tuple #[.string n, .string (mkS q), .bool true]) ∧ Below w.heap.size w w' := by
  refine (cut_one p 61 w (by omega)).mono ?_
  rintro e w' ⟨hc, hb⟩
  refine ⟨?_, hb⟩
  rcases hc with ⟨a, b, h1, h2, rfl⟩ | ⟨h1, _⟩
  · rw [h] at h1
    obtain ⟨rfl, rfl⟩ := split_at h1 (tok_no hn tok_61) h2
    rw [mkS_sl]
  · exact absurd (by rw [h]; simp) h1
end Go.Proofs.YthhhlaoiampinaaDoor
