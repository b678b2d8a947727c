/- The plain law of cutting a text by its content: what a cutter gives, where pieces end, and what follows for ChunkWhole, ChunkSplits, ChunkGrows, ChunkMeets. -/
import Derived.Test.YthhhlaoiampinaaBase
namespace Go.Proofs.Ythhhlaoiampinaa
namespace Pc
variable (g : UInt8 → Nat)
/-- The sum behind one more byte. -/
def nx (S : Nat) (c : UInt8) : Nat := (S * 2 + g c) % 4294967296
/-- Is a piece of n bytes at its end here? -/
def ends (S n : Nat) : Bool := decide (16 ≤ n) && (S / 134217728 == 0 || decide (128 ≤ n))
def cuts : Nat → List UInt8 → List UInt8 → List (List UInt8) × Nat × List UInt8
  | S, r, [] => ([], S, r)
  | S, r, c :: s => if ends (nx g S c) (r ++ [c]).length then ((r ++ [c]) :: (cuts (nx g S c) [] s).1, (cuts (nx g S c) [] s).2) else cuts (nx g S c) (r ++ [c]) s
def tl (r : List UInt8) : List (List UInt8) := if r = [] then [] else [r]
def cut (s : List UInt8) : List (List UInt8) := (cuts g 0 [] s).1 ++ tl (cuts g 0 [] s).2.2

theorem cuts_append : ∀ (S : Nat) (r s t : List UInt8), cuts g S r (s ++ t) = ((cuts g S r s).1 ++ (cuts g (cuts g S r s).2.1 (cuts g S r s).2.2 t).1, (cuts g (cuts g S r s).2.1 (cuts g S r s).2.2 t).2)
  | S, r, [], t => by simp [cuts]
  | S, r, c :: s, t => by
    rw [List.cons_append, cuts, cuts]
    split
    · rw [cuts_append]; simp
    · rw [cuts_append]
theorem cuts_snoc (S : Nat) (r s : List UInt8) (c : UInt8) : cuts g S r (s ++ [c]) = if ends (nx g (cuts g S r s).2.1 c) ((cuts g S r s).2.2 ++ [c]).length then ((cuts g S r s).1 ++ [(cuts g S r s).2.2 ++ [c]], nx g (cuts g S r s).2.1 c, []) else ((cuts g S r s).1, nx g (cuts g S r s).2.1 c, (cuts g S r s).2.2 ++ [c]) := by
  rw [cuts_append]
  simp only [cuts]
  split <;> simp
theorem cuts_flat : ∀ (S : Nat) (r s : List UInt8), (cuts g S r s).1.flatten ++ (cuts g S r s).2.2 = r ++ s
  | S, r, [] => by simp [cuts]
  | S, r, c :: s => by
    rw [cuts]
    split
    · have := cuts_flat (nx g S c) [] s
      simp only [List.flatten_cons, List.append_assoc, this]; simp
    · rw [cuts_flat]; simp
theorem cuts_sizes : ∀ (S : Nat) (r s : List UInt8), r.length < 128 → (∀ p ∈ (cuts g S r s).1, 16 ≤ p.length ∧ p.length ≤ 128) ∧ (cuts g S r s).2.2.length < 128
  | S, r, [], h => by simp [cuts, h]
  | S, r, c :: s, h => by
    rw [cuts]
    split
    case isTrue he =>
      have := cuts_sizes (nx g S c) [] s (by decide)
      refine ⟨fun p hp => ?_, this.2⟩
      rcases List.mem_cons.1 hp with rfl | hp
      · simp only [ends, Bool.and_eq_true, decide_eq_true_eq] at he
        refine ⟨he.1, by simp; omega⟩
      · exact this.1 p hp
    case isFalse he =>
      refine cuts_sizes _ _ s ?_
      simp only [ends, Bool.and_eq_true, decide_eq_true_eq, Bool.or_eq_true, not_and, not_or, Nat.not_le] at he
      simp only [List.length_append, List.length_cons, List.length_nil] at he ⊢
      by_cases h16 : 16 ≤ r.length + (0 + 1)
      · exact (he h16).2
      · omega
theorem cuts_sum : ∀ (S : Nat) (r s : List UInt8), S < 4294967296 → (cuts g S r s).2.1 < 4294967296
  | S, r, [], h => by simp [cuts, h]
  | S, r, c :: s, h => by
    rw [cuts]
    split
    · exact cuts_sum _ _ s (Nat.mod_lt _ (by decide))
    · exact cuts_sum _ _ s (Nat.mod_lt _ (by decide))
theorem tl_flat (r : List UInt8) : (tl r).flatten = r := by unfold tl; split <;> simp_all
/-- All pieces together are the text. -/
theorem cut_flat (s : List UInt8) : (cut g s).flatten = s := by
  rw [cut, List.flatten_append, tl_flat, cuts_flat]; rfl
/-- None is empty or longer than 128; only the last one may be shorter than 16. -/
theorem cut_sizes (s : List UInt8) (i : Nat) (h : i < (cut g s).length) : 0 < (cut g s)[i].length ∧ (cut g s)[i].length ≤ 128 ∧ (i + 1 < (cut g s).length → 16 ≤ (cut g s)[i].length) := by
  obtain ⟨h1, h2⟩ := cuts_sizes g 0 [] s (by decide)
  unfold cut at h ⊢
  rcases Nat.lt_or_ge i (cuts g 0 [] s).1.length with hi | hi
  · rw [List.getElem_append_left hi]
    have := h1 _ (List.getElem_mem hi)
    omega
  · rw [List.getElem_append_right hi]
    have hm : (tl (cuts g 0 [] s).2.2)[i - (cuts g 0 [] s).1.length]'(by simp at h; omega) ∈ tl (cuts g 0 [] s).2.2 := List.getElem_mem _
    have hl : (tl (cuts g 0 [] s).2.2).length ≤ 1 := by unfold tl; split <;> simp
    have hn : 0 < ((tl (cuts g 0 [] s).2.2)[i - (cuts g 0 [] s).1.length]'(by simp at h; omega)).length ∧ ((tl (cuts g 0 [] s).2.2)[i - (cuts g 0 [] s).1.length]'(by simp at h; omega)).length < 128 := by
      generalize (tl (cuts g 0 [] s).2.2)[i - (cuts g 0 [] s).1.length]'(by simp at h; omega) = p at hm
      unfold tl at hm
      split at hm
      · cases hm
      · rcases List.mem_singleton.1 hm with rfl
        exact ⟨List.length_pos_iff.2 ‹_›, h2⟩
    refine ⟨hn.1, by omega, fun h' => ?_⟩
    simp only [List.length_append] at h'
    omega

/-! ### Where pieces end. -/
def edges : Nat → List (List UInt8) → List Nat
  | _, [] => []
  | n, p :: l => (n + p.length) :: edges (n + p.length) l
theorem edges_append : ∀ (n : Nat) (l m : List (List UInt8)), edges n (l ++ m) = edges n l ++ edges (n + l.flatten.length) m
  | n, [], m => by simp [edges]
  | n, p :: l, m => by
    rw [List.cons_append, edges, edges, edges_append]
    simp [Nat.add_assoc]
theorem edges_len : ∀ (n : Nat) (l : List (List UInt8)), (edges n l).length = l.length
  | _, [] => rfl
  | n, p :: l => by simp [edges, edges_len]
/-- The bytes of some pieces. -/
theorem edges_snoc (l : List (List UInt8)) (p : List UInt8) : edges 0 (l ++ [p]) = edges 0 l ++ [l.flatten.length + p.length] := by
  rw [edges_append]; simp [edges]
/-- Where the pieces of a text end. -/
def ed (s : List UInt8) : List Nat := edges 0 (cut g s)
/-- ChunkGrows. -/
theorem grows (s t : List UInt8) : (ed g s).length = 0 ∨ ((ed g s).length ≤ (ed g (s ++ t)).length ∧ (ed g s).take ((ed g s).length - 1) = (ed g (s ++ t)).take ((ed g s).length - 1)) := by
  obtain ⟨P, S, r, hq⟩ : ∃ P S r, cuts g 0 [] s = (P, S, r) := ⟨_, _, _, rfl⟩
  obtain ⟨Q, S', r', hq'⟩ : ∃ Q S' r', cuts g S r t = (Q, S', r') := ⟨_, _, _, rfl⟩
  have hf := cuts_flat g S r t
  rw [hq'] at hf
  have e1 : cut g s = P ++ tl r := by rw [cut, hq]
  have e2 : cut g (s ++ t) = P ++ (Q ++ tl r') := by rw [cut, cuts_append, hq]; simp only; rw [hq']; simp
  simp only [ed, e1, e2, edges_append, List.length_append, edges_len]
  by_cases hr : r = []
  · subst hr
    rcases Nat.eq_zero_or_pos P.length with h0 | h0
    · exact .inl (by simp [tl, h0])
    · refine .inr ⟨by simp [tl], ?_⟩
      simp only [tl, ↓reduceIte, List.length_nil, Nat.add_zero]
      rw [List.take_append_of_le_length (by rw [edges_len]; omega), List.take_append_of_le_length (by rw [edges_len]; omega)]
  · have ht : (tl r).length = 1 := by simp [tl, hr]
    have hn : 1 ≤ Q.length + (tl r').length := by
      rcases Nat.eq_zero_or_pos (Q.length + (tl r').length) with h0 | h0
      · exfalso
        have hQ : Q = [] := List.eq_nil_of_length_eq_zero (by omega)
        have hR : tl r' = [] := List.eq_nil_of_length_eq_zero (by omega)
        have hr' : r' = [] := by have := tl_flat r'; rw [hR] at this; exact this.symm
        subst hQ hr'
        simp at hf
        exact hr hf.1
      · exact h0
    refine .inr ⟨by omega, ?_⟩
    rw [ht, Nat.add_sub_cancel, List.take_append_of_le_length (by rw [edges_len]; omega), List.take_append_of_le_length (by rw [edges_len]; omega)]

/-! ### Pieces by place alone. -/
def E : Nat → Nat → Nat → List UInt8 → List Nat
  | p, _, n, [] => if n = 0 then [] else [p]
  | p, S, n, c :: u => if ends (nx g S c) (n + 1) then (p + 1) :: E (p + 1) (nx g S c) 0 u else E (p + 1) (nx g S c) (n + 1) u
theorem edges_E : ∀ (p S : Nat) (r u : List UInt8), edges p ((cuts g S r u).1 ++ tl (cuts g S r u).2.2) = E g (p + r.length) S r.length u
  | p, S, r, [] => by
    simp only [cuts, E, List.nil_append, tl]
    by_cases hr : r = []
    · simp [hr, edges]
    · simp [hr, edges]
  | p, S, r, c :: u => by
    rw [cuts, E]
    have hl : (r ++ [c]).length = r.length + 1 := by simp
    rw [hl]
    split
    · rw [List.cons_append, edges, edges_E]
      simp [Nat.add_assoc]
    · rw [edges_E, hl, Nat.add_assoc]
theorem ed_E (s : List UInt8) : ed g s = E g 0 0 0 s := by
  have := edges_E g 0 0 [] s
  simpa [ed, cut] using this
def sums (S : Nat) (u : List UInt8) : Nat := u.foldl (nx g) S
theorem E_drop : ∀ (u : List UInt8) (p S n i q : Nat), (E g p S n u)[i]? = some q → p ≤ q ∧ q ≤ p + u.length ∧ (E g p S n u).drop i = q :: E g q (sums g S (u.take (q - p))) 0 (u.drop (q - p))
  | [], p, S, n, i, q, h => by
    simp only [E] at h ⊢
    split at h
    · simp at h
    · rename_i hn
      cases i with
      | zero =>
        simp at h
        subst h
        simp [hn, E]
      | succ i => simp at h
  | c :: u, p, S, n, i, q, h => by
    rw [E] at h ⊢
    split at h
    · rename_i he
      rw [if_pos he]
      cases i with
      | zero =>
        simp at h
        subst h
        simp [sums]
      | succ i =>
        rw [List.getElem?_cons_succ] at h
        obtain ⟨h1, h2, h3⟩ := E_drop u _ _ _ i q h
        refine ⟨by omega, by simp; omega, ?_⟩
        rw [List.drop_succ_cons, h3]
        have e : q - p = (q - (p + 1)) + 1 := by omega
        rw [e, List.take_succ_cons, List.drop_succ_cons]
        simp [sums]
    · rename_i he
      rw [if_neg he]
      obtain ⟨h1, h2, h3⟩ := E_drop u _ _ _ i q h
      refine ⟨by omega, by simp; omega, ?_⟩
      rw [h3]
      have e : q - p = (q - (p + 1)) + 1 := by omega
      rw [e, List.take_succ_cons, List.drop_succ_cons]
      simp [sums]
theorem E_shift (d : Nat) : ∀ (u : List UInt8) (p S n : Nat), E g (p + d) S n u = (E g p S n u).map (· + d)
  | [], p, S, n => by simp only [E]; split <;> simp
  | c :: u, p, S, n => by
    simp only [E]
    rw [show p + d + 1 = p + 1 + d by omega, E_shift d u, E_shift d u]
    split <;> simp
theorem sums_lin : ∀ (u : List UInt8) (S : Nat), sums g S u % 4294967296 = (S * 2 ^ u.length + sums g 0 u) % 4294967296
  | [], S => by simp [sums]
  | c :: u, S => by
    show sums g (nx g S c) u % _ = (S * 2 ^ (u.length + 1) + sums g (nx g 0 c) u) % _
    have h1 := sums_lin u (nx g S c)
    have h2 := sums_lin u (nx g 0 c)
    rw [h1, Nat.add_mod, Nat.add_mod (S * 2 ^ (u.length + 1)), h2]
    have e1 : (nx g S c * 2 ^ u.length) % 4294967296 = ((S * 2 + g c) * 2 ^ u.length) % 4294967296 := by
      unfold nx; rw [Nat.mul_mod, Nat.mod_mod, ← Nat.mul_mod]
    have e2 : (nx g 0 c * 2 ^ u.length) % 4294967296 = (g c * 2 ^ u.length) % 4294967296 := by
      unfold nx; rw [Nat.zero_mul, Nat.zero_add, Nat.mul_mod, Nat.mod_mod, ← Nat.mul_mod]
    have e3 : (S * 2 + g c) * 2 ^ u.length = S * 2 ^ (u.length + 1) + g c * 2 ^ u.length := by
      rw [Nat.add_mul, Nat.mul_assoc, Nat.pow_succ, Nat.mul_comm (2 ^ u.length) 2]
    rw [← Nat.add_mod, ← Nat.add_mod, Nat.add_mod, e1, ← Nat.add_mod, e3]
    generalize S * 2 ^ (u.length + 1) = A
    generalize hB : g c * 2 ^ u.length = B at *
    generalize nx g 0 c * 2 ^ u.length = B' at *
    omega
theorem sums_lt : ∀ (u : List UInt8) (S : Nat), S < 4294967296 → sums g S u < 4294967296
  | [], _, h => h
  | c :: u, S, _ => sums_lt u (nx g S c) (Nat.mod_lt _ (by decide))
theorem sums_32 (u : List UInt8) (h : 32 ≤ u.length) (S T : Nat) (hS : S < 4294967296) (hT : T < 4294967296) : sums g S u = sums g T u := by
  have k : ∀ S, S < 4294967296 → sums g S u = sums g 0 u % 4294967296 := fun S hS => by
    have h1 := sums_lin g u S
    rw [Nat.mod_eq_of_lt (sums_lt g u S hS)] at h1
    rw [h1]
    have : u.length = 32 + (u.length - 32) := by omega
    rw [this, Nat.pow_add, ← Nat.mul_assoc, Nat.mul_comm S, Nat.mul_assoc]
    have : (2 : Nat) ^ 32 = 4294967296 := by decide
    rw [this, Nat.mul_add_mod]
  rw [k S hS, k T hT]
/-- What follows a place at least 32 bytes into what two texts have in common. -/
theorem meet (a s : List UInt8) (i q : Nat) (h : (ed g (a ++ s))[i]? = some q) (hq : a.length + 32 ≤ q) :
    ∃ T, T = E g (q - a.length) (sums g 0 (s.take (q - a.length))) 0 (s.drop (q - a.length)) ∧ (ed g (a ++ s)).drop i = q :: T.map (· + a.length) := by
  rw [ed_E] at h ⊢
  obtain ⟨_, h2, h3⟩ := E_drop g _ _ _ _ i q h
  refine ⟨_, rfl, ?_⟩
  simp only [List.length_append, Nat.zero_add, Nat.sub_zero] at h2 h3
  rw [h3, ← E_shift, List.take_append, List.drop_append, List.take_of_length_le (by omega), List.drop_of_length_le (by omega), List.nil_append]
  have e : sums g 0 (a ++ s.take (q - a.length)) = sums g 0 (s.take (q - a.length)) := by
    have : sums g 0 (a ++ s.take (q - a.length)) = sums g (sums g 0 a) (s.take (q - a.length)) := by simp [sums]
    rw [this]
    exact sums_32 g _ (by simp; omega) _ _ (sums_lt g a 0 (by decide)) (by decide)
  rw [e, Nat.sub_add_cancel (by omega)]
/-- ChunkMeets. -/
theorem meets (a b s : List UInt8) (i k p q : Nat) (hp : (ed g (a ++ s))[i]? = some p) (hq : (ed g (b ++ s))[k]? = some q) (he : (p : Int) - a.length = (q : Int) - b.length) (h32 : (32 : Int) ≤ (p : Int) - a.length) :
    (ed g (a ++ s)).length - i = (ed g (b ++ s)).length - k ∧ ∀ j, j < (ed g (a ++ s)).length - i → ∃ u v, (ed g (a ++ s))[i + j]? = some u ∧ (ed g (b ++ s))[k + j]? = some v ∧ (u : Int) - a.length = (v : Int) - b.length := by
  obtain ⟨T, hT, hx⟩ := meet g a s i p hp (by omega)
  obtain ⟨T', hT', hy⟩ := meet g b s k q hq (by omega)
  have e : p - a.length = q - b.length := by omega
  rw [e, ← hT'] at hT
  subst hT
  have lx := congrArg List.length hx
  have ly := congrArg List.length hy
  simp only [List.length_drop, List.length_cons, List.length_map] at lx ly
  refine ⟨by omega, fun j hj => ?_⟩
  rw [← List.getElem?_drop, ← List.getElem?_drop, hx, hy]
  cases j with
  | zero => exact ⟨p, q, rfl, rfl, he⟩
  | succ j =>
    have hj' : j < T.length := by omega
    refine ⟨T[j] + a.length, T[j] + b.length, ?_, ?_, by omega⟩
    · simp [hj']
    · simp [hj']
end Pc
end Go.Proofs.Ythhhlaoiampinaa
