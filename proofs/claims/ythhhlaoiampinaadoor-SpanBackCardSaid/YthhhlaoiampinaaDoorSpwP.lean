/- The plain law of a text of wants: joined and split again, with blanks beside the commas. -/
import Derived.Test.YthhhlaoiampinaaDoorSpwA
import Derived.Test.YthhhlaoiampinaaDoorSplit
import Derived.Test.YthhhlaoiampinaaDoorTokD1
import Derived.Lib.Replace
import Derived.Lib.CountLaws
namespace Go.Proofs.YthhhlaoiampinaaDoor
open Go.RowKit
namespace Spw
open Spc
theorem trim_solid (a b m : List UInt8) (ha : a.all Tok.blankB = true) (hb : b.all Tok.blankB = true) (hm : m ≠ []) (h : ∀ c ∈ m, Tok.blankB c = false) : Tok.trimL (a ++ m ++ b) = m := by
  obtain ⟨x, hx⟩ : ∃ x, m.head? = some x := by
    cases m with
    | nil => exact absurd rfl hm
    | cons x m => exact ⟨x, rfl⟩
  obtain ⟨y, hy⟩ : ∃ y, m.getLast? = some y := ⟨_, List.getLast?_eq_some_getLast hm⟩
  exact Tok.trimL_of a b x y m ha hb (h x (List.mem_of_head? hx)) (h y (List.mem_of_getLast? hy)) hx hy
theorem numL_mem {v : Int} (h : nB v = true ∨ v = -1) : ∀ c ∈ numL v, 48 ≤ c.toNat ∧ c.toNat ≤ 57 := by
  rcases h with h | rfl
  · rw [numL_full h]; exact itoa_digits h
  · intro c hc; cases hc
theorem wL_mem {d : Int × Int} (h : Spn.wantB d = true) : ∀ c ∈ wL d.1 d.2, c = 45 ∨ (48 ≤ c.toNat ∧ c.toNat ≤ 57) := by
  have hn := want_nums (a := d.1) (b := d.2) h
  intro c hc
  unfold wL at hc
  rw [List.mem_append, List.mem_cons] at hc
  rcases hc with hc | hc | hc
  · exact .inr (numL_mem (by rcases hn with ⟨h, _⟩ | ⟨h, _⟩ | ⟨h, _⟩ <;> simp [h]) c hc)
  · exact .inl hc
  · exact .inr (numL_mem (by rcases hn with ⟨_, h⟩ | ⟨_, h⟩ | ⟨_, h⟩ <;> simp [h]) c hc)
theorem wL_solid {d : Int × Int} (h : Spn.wantB d = true) : wL d.1 d.2 ≠ [] ∧ (∀ c ∈ wL d.1 d.2, Tok.blankB c = false) ∧ (44 : UInt8) ∉ wL d.1 d.2 := by
  refine ⟨by unfold wL; simp, ?_, ?_⟩
  · intro c hc
    cases hb : Tok.blankB c with
    | false => rfl
    | true =>
      rcases (blankB_iff c).1 hb with h1 | h1 <;> rcases wL_mem h c hc with rfl | h2
      · cases h1
      · omega
      · cases h1
      · omega
  · intro hc
    rcases wL_mem h 44 hc with h1 | h1
    · cases h1
    · have : (44 : UInt8).toNat = 44 := rfl
      omega
theorem app_not {c : UInt8} {a b : List UInt8} (ha : c ∉ a) (hb : c ∉ b) : c ∉ a ++ b := by
  rw [List.mem_append]; intro h; exact h.elim ha hb
theorem sg_padded (b p : List UInt8) (hb : b.all Tok.blankB = true) (hp : p.all Tok.blankB = true) : ∀ (xs : List (List UInt8)) (a x : List UInt8), a.all Tok.blankB = true →
    (∀ m ∈ x :: xs, m ≠ [] ∧ (∀ c ∈ m, Tok.blankB c = false) ∧ (44 : UInt8) ∉ m) → (sg 44 [] (a ++ Lib.join (x :: xs) (b ++ 44 :: p))).map Tok.trimL = x :: xs := by
  have no : ∀ l : List UInt8, l.all Tok.blankB = true → (44 : UInt8) ∉ l := fun l h hc => by
    have := List.all_eq_true.1 h 44 hc
    cases this
  intro xs
  induction xs with
  | nil =>
    intro a x ha h
    obtain ⟨h1, h2, h3⟩ := h x (by simp)
    rw [Lib.join_one, sg_one (app_not (no a ha) h3), List.map_cons, List.map_nil]
    have := trim_solid a [] x ha rfl h1 h2
    rw [List.append_nil] at this
    rw [this]
  | cons y ys ih =>
    intro a x ha h
    obtain ⟨h1, h2, h3⟩ := h x (by simp)
    have e : a ++ Lib.join (x :: y :: ys) (b ++ 44 :: p) = (a ++ x ++ b) ++ 44 :: (p ++ Lib.join (y :: ys) (b ++ 44 :: p)) := by
      rw [Lib.join_cons, Lib.join_cons, joinTail_c]; simp
    rw [e, sg_hit _ _ (by simp only [List.mem_append, not_or]; exact ⟨⟨no a ha, h3⟩, no b hb⟩), List.map_cons, trim_solid a b x ha hb h1 h2, ih p y hp (fun m hm => h m (by simp [List.mem_cons.1 hm]))]
theorem sg_exact (pre : List UInt8) (hpre : (44 : UInt8) ∉ pre) : ∀ (xs : List (List UInt8)) (x : List UInt8), (∀ m ∈ x :: xs, (44 : UInt8) ∉ m) → sg 44 [] (pre ++ Lib.join (x :: xs) [44]) = (pre ++ x) :: xs := by
  intro xs
  induction xs generalizing pre with
  | nil =>
    intro x h
    rw [Lib.join_one, sg_one (app_not hpre (h x (by simp)))]
  | cons y ys ih =>
    intro x h
    have e : pre ++ Lib.join (x :: y :: ys) [44] = (pre ++ x) ++ 44 :: ([] ++ Lib.join (y :: ys) [44]) := by
      rw [Lib.join_cons, Lib.join_cons, joinTail_c]; simp
    rw [e, sg_hit _ _ (app_not hpre (h x (by simp))), ih [] (by simp) y (fun m hm => h m (by simp [List.mem_cons.1 hm])), List.nil_append]
theorem replaceK_sg (new : List UInt8) : ∀ (n : Nat) (s : List UInt8), s.length ≤ n → Lib.replaceK [44] new (Lib.count s [44]) s = Lib.join (sg 44 [] s) new := by
  intro n
  induction n with
  | zero =>
    intro s hs
    obtain rfl := List.eq_nil_of_length_eq_zero (Nat.le_zero.1 hs)
    rw [Lib.count_miss (index_no1 44 [] (by simp))]; rfl
  | succ n ih =>
    intro s hs
    rcases cut_at 44 s with h | ⟨a, b, rfl, ha⟩
    · rw [Lib.count_miss (index_no1 44 _ h), sg_one h, Lib.join_one]; rfl
    · have hi := index_hit1 44 b a ha
      have hd : (a ++ 44 :: b).drop (a.length + [(44 : UInt8)].length) = b := by
        rw [show a ++ 44 :: b = (a ++ [44]) ++ b by simp, List.drop_left' (by simp)]
      rw [Lib.count_hit (by simp) hi, Nat.add_comm 1, Lib.replaceK_hit _ _ _ _ a.length hi, hd, sg_hit a b ha, List.take_left' rfl]
      rw [ih b (by simp only [List.length_append, List.length_cons] at hs; omega)]
      cases hq : sg 44 [] b with
      | nil => exact absurd hq (sg_ne 44 b [])
      | cons y ys => rw [Lib.join_cons, Lib.join_cons, joinTail_c]; simp
theorem replaceAll_sg (s new : List UInt8) (hn : ([44] == new) = false) : Lib.replaceAll s [44] new = Lib.join (sg 44 [] s) new := by
  unfold Lib.replaceAll Lib.replace
  rw [if_neg (by rw [hn]; simp)]
  have : Lib.replaceNum s [44] (-1) = Lib.count s [44] := if_pos (.inl (by decide))
  rw [this, replaceK_sg new _ s (Nat.le_refl _)]
end Spw
end Go.Proofs.YthhhlaoiampinaaDoor
