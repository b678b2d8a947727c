/- strings.Split at one byte. -/
import Derived.Test.YthhhlaoiampinaaDoorShelf
import Derived.Test.YthhhlaoiampinaaDoorBytes
import Derived.Lib.Split
namespace Go.Proofs.YthhhlaoiampinaaDoor
open Go.RowKit
/-- The parts between the bytes c. 'cur': what has been read of the part. -/
def sg (c : UInt8) : List UInt8 → List UInt8 → List (List UInt8)
  | cur, [] => [cur]
  | cur, x :: r => if x == c then cur :: sg c [] r else sg c (cur ++ [x]) r
theorem sg_c (c : UInt8) (cur : List UInt8) (x : UInt8) (r : List UInt8) : sg c cur (x :: r) = if x == c then cur :: sg c [] r else sg c (cur ++ [x]) r := rfl
theorem sg_plain {c : UInt8} : ∀ (u cur v : List UInt8), c ∉ u → sg c cur (u ++ v) = sg c (cur ++ u) v
  | [], cur, v, _ => by simp
  | x :: u, cur, v, h => by
    have hc : ¬ (x == c) = true := by rw [beq_iff_eq]; intro e; apply h; simp [e]
    rw [List.cons_append, sg_c, if_neg hc, sg_plain u _ v (fun e => h (by simp [e])), List.append_assoc]; rfl
theorem sg_one {c : UInt8} {u : List UInt8} (h : c ∉ u) : sg c [] u = [u] := by
  have := sg_plain u [] [] h
  rw [List.append_nil, List.nil_append] at this
  rw [this]; rfl
theorem sg_hit {c : UInt8} (u v : List UInt8) (h : c ∉ u) : sg c [] (u ++ c :: v) = u :: sg c [] v := by
  rw [sg_plain u [] _ h, List.nil_append, sg_c, if_pos (by simp)]
theorem sg_ne (c : UInt8) : ∀ (l cur : List UInt8), sg c cur l ≠ []
  | [], cur => by simp [sg]
  | x :: r, cur => by
    rw [sg_c]
    split
    · simp
    · exact sg_ne c r _
theorem joinTail_c (c y : List UInt8) (ys : List (List UInt8)) : Lib.joinTail c (y :: ys) = c ++ y ++ Lib.joinTail c ys := by simp [Lib.joinTail]
theorem joinTail_n (c : List UInt8) : Lib.joinTail c [] = [] := rfl
/-- Joined with c they are the text. -/
theorem sg_join (c : UInt8) : ∀ (l cur : List UInt8), Lib.join (sg c cur l) [c] = cur ++ l
  | [], cur => by show Lib.join [cur] [c] = _; rw [Lib.join_one, List.append_nil]
  | x :: r, cur => by
    rw [sg_c]
    split
    · rename_i hx
      have ih := sg_join c r []
      cases hs : sg c [] r with
      | nil => exact absurd hs (sg_ne c r [])
      | cons y ys =>
        rw [hs] at ih
        rw [Lib.join_cons] at ih
        rw [Lib.join_cons, joinTail_c, List.append_assoc [c] y, ih, beq_iff_eq.1 hx]
        simp
    · rw [sg_join c r _]; simp
theorem sg_no (c : UInt8) : ∀ (l cur : List UInt8), c ∉ cur → ∀ p ∈ sg c cur l, c ∉ p
  | [], cur, h, p, hp => by rw [show sg c cur [] = [cur] from rfl, List.mem_singleton] at hp; rw [hp]; exact h
  | x :: r, cur, h, p, hp => by
    rw [sg_c] at hp
    split at hp
    · rcases List.mem_cons.1 hp with rfl | hp
      · exact h
      · exact sg_no c r [] (by simp) p hp
    · rename_i hx
      refine sg_no c r _ ?_ p hp
      rw [List.mem_append]
      rintro (h1 | h1)
      · exact h h1
      · rw [List.mem_singleton] at h1; exact hx (by simp [h1])
theorem cut_at (c : UInt8) : ∀ l : List UInt8, c ∉ l ∨ ∃ a b, l = a ++ c :: b ∧ c ∉ a
  | [] => .inl (by simp)
  | x :: l => by
    by_cases hx : x = c
    · exact .inr ⟨[], l, by simp [hx], by simp⟩
    · rcases cut_at c l with h | ⟨a, b, rfl, h⟩
      · exact .inl (by simp [h, Ne.symm hx])
      · exact .inr ⟨x :: a, b, rfl, by simp [h, Ne.symm hx]⟩
theorem index_hit1 (c : UInt8) (b : List UInt8) : ∀ a : List UInt8, c ∉ a → Lib.index (a ++ c :: b) [c] = (a.length : Int)
  | [], _ => by
    rw [List.nil_append]
    unfold Lib.index
    rw [if_pos (by simp [List.isPrefixOf])]; rfl
  | x :: a, h => by
    have hx : ¬ c = x := fun e => h (by simp [e])
    have ih := index_hit1 c b a (fun e => h (by simp [e]))
    rw [List.cons_append]
    unfold Lib.index
    rw [if_neg (by simp [List.isPrefixOf, hx]), ih, if_neg (by simp), List.length_cons]
    omega
theorem index_no1 (c : UInt8) : ∀ l : List UInt8, c ∉ l → Lib.index l [c] = -1
  | [], _ => rfl
  | x :: a, h => by
    have hx : ¬ c = x := fun e => h (by simp [e])
    have ih := index_no1 c a (fun e => h (by simp [e]))
    unfold Lib.index
    rw [if_neg (by simp [List.isPrefixOf, hx]), ih, if_pos (by decide)]
theorem splitB_sg (c : UInt8) : ∀ (n : Nat) (s : ByteArray), s.size ≤ n → Lib.splitB ⟨#[c]⟩ 0 (Lib.countB s ⟨#[c]⟩) s = (sg c [] (sl s)).map mkS := by
  intro n
  induction n with
  | zero =>
    intro s hs
    obtain rfl := empty_of_size s (by omega)
    rw [Lib.splitB_miss _ _ _ _ (by show Lib.index (sl ByteArray.empty) [c] = -1; rw [sl_empty]; rfl), sl_empty]; rfl
  | succ n ih =>
    intro s hs
    rcases cut_at c (sl s) with h | ⟨a, b, he, ha⟩
    · rw [Lib.splitB_miss _ _ _ _ (by show Lib.index (sl s) [c] = -1; exact index_no1 c _ h), sg_one h, List.map_cons, List.map_nil, mkS_sl]
    · have hi : Lib.indexB s ⟨#[c]⟩ = (a.length : Int) := by show Lib.index (sl s) [c] = _; rw [he]; exact index_hit1 c b a ha
      have hb : sl (s.extract (a.length + 1) s.size) = b := by
        rw [sl_extract_end, he, show a ++ c :: b = (a ++ [c]) ++ b by simp, List.drop_left' (by simp)]
      have ha' : s.extract 0 (a.length + 0) = mkS a := by
        apply sl_inj
        rw [sl_extract, sl_mkS, he]; simp
      rw [Lib.countB_hit s ⟨#[c]⟩ a.length (by show 1 ≤ 1; exact Nat.le_refl _) hi, Nat.add_comm 1, Lib.splitB_hit _ _ _ _ a.length hi, ha']
      rw [show (⟨#[c]⟩ : ByteArray).size = 1 from rfl]
      rw [ih _ (by
        have := congrArg List.length hb
        rw [sl_len] at this
        have h2 := congrArg List.length he
        rw [sl_len] at h2
        simp only [List.length_append, List.length_cons] at h2
        omega), hb, he, sg_hit a b ha]
      rfl
end Go.Proofs.YthhhlaoiampinaaDoor
