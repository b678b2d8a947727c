/- TagListBack: the plain law of joined tags. -/
import Derived.Test.YtiijgbgknolmcaaDoorTagW
namespace Go.Proofs.YtiijgbgknolmcaaDoor
open Go.RowKit
namespace Tg
theorem listG_joined {g : List UInt8} (hg : Tok.Gap g) : ∀ (ts : List Tag) (out : List Tag) (n : Nat), (∀ t ∈ ts, good t) → ((ts.map (fun t => text t ++ g)).flatten).length < n → listG n out ((ts.map (fun t => text t ++ g)).flatten) = fin (out ++ ts)
  | [], out, n, _, _ => by rw [List.append_nil]; exact listG_nil rfl
  | t :: ts, out, n, h, hn => by
    obtain ⟨b, g', he, hb⟩ := hg.comma
    have hg' : g'.all Tok.gapB = true := by
      have := hg.all
      rw [he, List.all_append, List.all_cons] at this
      simp only [Bool.and_eq_true] at this
      exact this.2.2
    have hgood := h t (by simp)
    rw [List.map_cons, List.flatten_cons, List.append_assoc] at hn ⊢
    obtain ⟨c, l, hc, hc44, hcb⟩ := text_head t
    have hd : (text t ++ (g ++ (ts.map (fun t => text t ++ g)).flatten)).dropWhile Tok.blankB = c :: (l ++ (g ++ (ts.map (fun t => text t ++ g)).flatten)) := by
      rw [hc, List.cons_append]; exact Tok.dw_cons_false hcb
    have hr : (g ++ (ts.map (fun t => text t ++ g)).flatten).dropWhile Tok.blankB = 44 :: (g' ++ (ts.map (fun t => text t ++ g)).flatten) := by
      rw [he, List.append_assoc, Tok.dw_all b _ hb, List.cons_append]; exact Tok.dw_cons_false (by decide)
    obtain ⟨m, hm, h1⟩ := listG_next (out := out) hn hd hc44 hgood (by rw [hc, List.cons_append]) hr
    obtain ⟨m', hm', h2⟩ := gap_all m g' (out ++ [t]) _ hg' hm
    rw [h1, h2, listG_joined hg ts (out ++ [t]) m' (fun x hx => h x (by simp [hx])) hm', List.append_assoc]
    rfl
theorem listF_joined {g : List UInt8} (hg : Tok.Gap g) (ts : List Tag) (h : ∀ t ∈ ts, good t) (h0 : ts ≠ []) (h20 : ts.length ≤ 20) (hl : ((ts.map (fun t => text t ++ g)).flatten).length ≤ 1000) : listF ((ts.map (fun t => text t ++ g)).flatten) = .ok (false, ts) := by
  have hx : (ts.map (fun t => text t ++ g)).flatten ≠ [42] := by
    cases ts with
    | nil => exact absurd rfl h0
    | cons t ts =>
      obtain ⟨wk, a⟩ := t
      cases wk <;> simp [text]
  unfold listF
  rw [if_neg (by omega), if_neg hx, listG_joined hg ts [] _ h (Nat.lt_succ_self _), List.nil_append]
  unfold fin
  rw [if_neg h0, if_neg (by omega)]
theorem listF_star : listF [42] = .ok (true, []) := rfl
/-- Those that the law takes, and their texts' size. -/
def takeS (p : List Tag × Nat) (t : Tag) : List Tag × Nat := if good t ∧ p.1.length < 20 ∧ p.2 + (text t).length < 800 then (p.1 ++ [t], p.2 + (text t).length) else p
def takes (l : List Tag) : List Tag × Nat := l.foldl takeS ([], 0)
theorem takes_snoc {l : List Tag} {k : Nat} (h : k < l.length) : takes (l.take (k + 1)) = takeS (takes (l.take k)) l[k] := by
  unfold takes
  rw [List.take_add_one, List.getElem?_eq_getElem h, List.foldl_append]
  rfl
structure Took (p : List Tag × Nat) : Prop where
  all : ∀ t ∈ p.1, good t
  n20 : p.1.length ≤ 20
  sum : p.2 = (p.1.map (fun t => (text t).length)).sum
  lt : p.2 < 800
theorem took_step {p : List Tag × Nat} {t : Tag} (h : Took p) : Took (takeS p t) := by
  unfold takeS
  split
  · rename_i hc
    refine ⟨fun x hx => ?_, by simp; omega, by simp [h.sum], hc.2.2⟩
    rcases List.mem_append.1 hx with hx | hx
    · exact h.all x hx
    · rw [List.mem_singleton.1 hx]; exact hc.1
  · exact h
theorem took (l : List Tag) : Took (takes l) := by
  have : ∀ (l : List Tag) (p : List Tag × Nat), Took p → Took (l.foldl takeS p) := by
    intro l
    induction l with
    | nil => intro p h; exact h
    | cons x l ih => intro p h; exact ih _ (took_step h)
  exact this l _ ⟨by simp, by simp, rfl, by decide⟩
theorem joined_len (g : List UInt8) : ∀ ts : List Tag, ((ts.map (fun t => text t ++ g)).flatten).length = (ts.map (fun t => (text t).length)).sum + g.length * ts.length
  | [] => by simp
  | t :: ts => by
    have := joined_len g ts
    rw [List.map_cons, List.flatten_cons, List.length_append, this, List.length_append, List.map_cons, List.sum_cons, List.length_cons, Nat.mul_add]
    omega
end Tg
end Go.Proofs.YtiijgbgknolmcaaDoor
