/- A cut at one byte, on lists. -/
import Derived.Test.YthhhlaoiampinaaDoorBase
namespace Go.Proofs.YthhhlaoiampinaaDoor
/-- What stands before the first c, and behind it. -/
def cutC (c : UInt8) : List UInt8 → Option (List UInt8 × List UInt8)
  | [] => none
  | x :: l => if x = c then some ([], l) else (cutC c l).map (fun p => (x :: p.1, p.2))
theorem cutC_some {c : UInt8} : ∀ {l a b : List UInt8}, l = a ++ c :: b → c ∉ a → cutC c l = some (a, b)
  | _, [], b, rfl, _ => by simp [cutC]
  | _, x :: a, b, rfl, h => by
    have hx : x ≠ c := fun e => h (by simp [e])
    simp only [List.cons_append, cutC, if_neg hx, cutC_some (l := a ++ c :: b) rfl (fun e => h (by simp [e])), Option.map_some]
theorem cutC_none {c : UInt8} : ∀ {l : List UInt8}, c ∉ l → cutC c l = none
  | [], _ => rfl
  | x :: l, h => by
    have hx : x ≠ c := fun e => h (by simp [e])
    have hl : c ∉ l := fun e => h (List.mem_cons_of_mem _ e)
    simp only [cutC, if_neg hx, cutC_none hl, Option.map_none]
theorem cutC_text {c : UInt8} : ∀ {l a b : List UInt8}, cutC c l = some (a, b) → l = a ++ c :: b ∧ c ∉ a
  | [], _, _, h => by simp [cutC] at h
  | x :: l, a, b, h => by
    unfold cutC at h
    split at h
    · rename_i hx
      injection h with h; injection h with h1 h2; subst h1; subst h2; subst hx
      exact ⟨rfl, by simp⟩
    · rename_i hx
      obtain ⟨⟨p, q⟩, hp, he⟩ := Option.map_eq_some_iff.1 h
      injection he with h1 h2; subst h1; subst h2
      obtain ⟨e1, e2⟩ := cutC_text hp
      refine ⟨by rw [e1]; rfl, fun hm => ?_⟩
      rcases List.mem_cons.1 hm with h1 | h1
      · exact hx h1.symm
      · exact e2 h1
end Go.Proofs.YthhhlaoiampinaaDoor
