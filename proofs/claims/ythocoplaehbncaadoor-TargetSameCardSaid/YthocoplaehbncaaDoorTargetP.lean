/- target: the plain law of Normal. -/
import Derived.Test.YthocoplaehbncaaDoorTargetB
import Derived.Test.YthocoplaehbncaaDoorSplit
import Derived.Test.YthocoplaehbncaaDoorCutC
namespace Go.Proofs.YthocoplaehbncaaDoor
set_option maxRecDepth 20000
open Go.RowKit
namespace Tar
/-- Each byte in its one form. -/
def normL : List UInt8 → Option (List UInt8)
  | [] => some []
  | c :: r => if c == 37 then (match r with | a :: b :: r' => if 0 ≤ digI a ∧ 0 ≤ digI b then (normL r').map (esc (by16 a b) ++ ·) else none | _ => none) else (normL r).map (c :: ·)
theorem normL_plain {c : UInt8} {r : List UInt8} (h : (c == 37) = false) : normL (c :: r) = (normL r).map (c :: ·) := by
  rcases r with _ | ⟨a, _ | ⟨b, r⟩⟩ <;> simp only [normL, h, Bool.false_eq_true, if_false]
theorem normL_esc {c a b : UInt8} {r : List UInt8} (h : (c == 37) = true) (ha : 0 ≤ digI a) (hb : 0 ≤ digI b) : normL (c :: a :: b :: r) = (normL r).map (esc (by16 a b) ++ ·) := by
  simp only [normL, h, if_true]; rw [if_pos ⟨ha, hb⟩]
theorem normL_bad {c a b : UInt8} {r : List UInt8} (h : (c == 37) = true) (hn : digI a < 0 ∨ digI b < 0) : normL (c :: a :: b :: r) = none := by
  simp only [normL, h, if_true]; rw [if_neg (by omega)]
theorem normL_short {c : UInt8} {r : List UInt8} (h : (c == 37) = true) (hr : r.length < 2) : normL (c :: r) = none := by
  rcases r with _ | ⟨a, _ | ⟨b, r⟩⟩
  · simp only [normL, h, if_true]
  · simp only [normL, h, if_true]
  · simp at hr; omega
theorem map_app {o : Option (List UInt8)} {acc p : List UInt8} : (o.map (p ++ ·)).map (acc ++ ·) = o.map ((acc ++ p) ++ ·) := by
  cases o <;> simp
theorem normL_form (r : List UInt8) : r = [] ∨ (∃ c r', r = c :: r' ∧ (c == 37) = false) ∨ (∃ c a b r', r = c :: a :: b :: r' ∧ (c == 37) = true ∧ 0 ≤ digI a ∧ 0 ≤ digI b) ∨ (normL r = none ∧ unescL r = none) := by
  rcases r with _ | ⟨c, r⟩
  · exact .inl rfl
  · cases h : (c == 37)
    · exact .inr (.inl ⟨c, r, rfl, h⟩)
    · rcases r with _ | ⟨a, _ | ⟨b, r⟩⟩
      · exact .inr (.inr (.inr ⟨normL_short h (by simp), unescL_short h (by simp)⟩))
      · exact .inr (.inr (.inr ⟨normL_short h (by simp), unescL_short h (by simp)⟩))
      · by_cases hd : 0 ≤ digI a ∧ 0 ≤ digI b
        · exact .inr (.inr (.inl ⟨c, a, b, r, rfl, h, hd.1, hd.2⟩))
        · exact .inr (.inr (.inr ⟨normL_bad h (by omega), unescL_bad h (by omega)⟩))
/-- Induction over what is read. -/
theorem sym_ind {P : List UInt8 → List UInt8 → Prop} (h0 : P [] []) (h1 : ∀ c r b, (c == 37) = false → normL r = some b → P r b → P (c :: r) (c :: b)) (h2 : ∀ c x y r b, (c == 37) = true → 0 ≤ digI x → 0 ≤ digI y → normL r = some b → P r b → P (c :: x :: y :: r) (esc (by16 x y) ++ b)) : ∀ (n : Nat) (l b : List UInt8), l.length ≤ n → normL l = some b → P l b
  | n, l, b, hn, h => by
    rcases normL_form l with rfl | ⟨c, r, rfl, hc⟩ | ⟨c, x, y, r, rfl, hc, hx, hy⟩ | ⟨hf, -⟩
    · have : b = [] := by simp [normL] at h; exact h
      subst this; exact h0
    · rw [normL_plain hc] at h
      obtain ⟨b', hb, rfl⟩ := Option.map_eq_some_iff.1 h
      match n, hn with
      | n + 1, hn => exact h1 c r b' hc hb (sym_ind h0 h1 h2 n r b' (by simp at hn; omega) hb)
    · rw [normL_esc hc hx hy] at h
      obtain ⟨b', hb, rfl⟩ := Option.map_eq_some_iff.1 h
      match n, hn with
      | n + 1, hn => exact h2 c x y r b' hc hx hy hb (sym_ind h0 h1 h2 n r b' (by simp at hn; omega) hb)
    · rw [hf] at h; cases h
theorem norm_len {l b : List UInt8} (h : normL l = some b) : b.length ≤ l.length :=
  sym_ind (P := fun l b => b.length ≤ l.length) (Nat.le_refl _) (fun c r b _ _ ih => by simp; exact ih) (fun c x y r b _ _ _ _ ih => by have := esc_len (by16 x y); simp only [List.length_append, List.length_cons]; omega) _ l b (Nat.le_refl _) h
theorem norm_esc (d : UInt8) (r : List UInt8) : normL (esc d ++ r) = (normL r).map (esc d ++ ·) := by
  have hd := d.toNat_lt
  by_cases h : freeB d = true
  · have e : esc d = [d] := by unfold esc; rw [if_pos h]
    rw [e]
    exact normL_plain (by rw [beq_eq_false_iff_ne]; rintro rfl; rw [free_37] at h; cases h)
  · have e : esc d = esc3 d := by unfold esc; rw [if_neg h]
    have h1 := digI_hex (d.toNat / 16) (by omega)
    have h2 := digI_hex (d.toNat % 16) (by omega)
    rw [e]
    unfold esc3
    simp only [List.cons_append, List.nil_append]
    rw [normL_esc (by rfl) (by rw [h1]; omega) (by rw [h2]; omega), by16_hex, e]
    unfold esc3
    simp only [List.cons_append, List.nil_append]
theorem norm_idem {l b : List UInt8} (h : normL l = some b) : normL b = some b :=
  sym_ind (P := fun _ b => normL b = some b) rfl (fun c r b hc _ ih => by rw [normL_plain hc, ih]; rfl) (fun c x y r b _ _ _ _ ih => by rw [norm_esc, ih]; rfl) _ l b (Nat.le_refl _) h
theorem norm_unesc {l b : List UInt8} (h : normL l = some b) : unescL b = unescL l ∧ ∃ a, unescL l = some a :=
  sym_ind (P := fun l b => unescL b = unescL l ∧ ∃ a, unescL l = some a) ⟨rfl, [], rfl⟩
    (fun c r b hc _ ih => by
      obtain ⟨e, a, ha⟩ := ih
      rw [unescL_plain hc, unescL_plain hc, e, ha]; exact ⟨rfl, _, rfl⟩)
    (fun c x y r b hc hx hy _ ih => by
      obtain ⟨e, a, ha⟩ := ih
      rw [unesc_esc, unescL_esc hc hx hy, e, ha]; exact ⟨rfl, _, rfl⟩) _ l b (Nat.le_refl _) h
/-! ### Good bytes. -/
def goodB (c : UInt8) : Bool := 33 ≤ c && c ≤ 126 && !(c == 35)
theorem u8b {p : UInt8 → Bool} (h : ((List.range 256).all fun n => p (UInt8.ofNat n)) = true) (c : UInt8) : p c = true := by
  have := List.all_eq_true.1 h c.toNat (List.mem_range.2 c.toNat_lt)
  simpa using this
theorem esc_good (d : UInt8) : (esc d).all goodB = true ∧ (63 : UInt8) ∉ esc d ∧ (47 : UInt8) ∉ esc d := by
  have := u8b (p := fun d => (esc d).all goodB && !(esc d).contains 63 && !(esc d).contains 47) (by kernel_rfl) d
  simp only [Bool.and_eq_true, Bool.not_eq_true', List.contains_eq_mem, decide_eq_false_iff_not] at this
  exact ⟨this.1.1, this.1.2, this.2⟩
theorem norm_good {l b : List UInt8} (hg : l.all goodB = true) (h : normL l = some b) : b.all goodB = true :=
  sym_ind (P := fun l b => l.all goodB = true → b.all goodB = true) (fun h => h)
    (fun c r b _ _ ih hg => by rw [List.all_cons, Bool.and_eq_true] at *; exact ⟨hg.1, ih hg.2⟩)
    (fun c x y r b _ _ _ _ ih hg => by
      rw [List.all_append, (esc_good _).1, Bool.true_and]
      simp only [List.all_cons, Bool.and_eq_true] at hg
      exact ih hg.2.2.2) _ l b (Nat.le_refl _) h hg
theorem norm_no {l b : List UInt8} (h : normL l = some b) (k : UInt8) (hk : ∀ d, k ∉ esc d) (hl : k ∉ l) : k ∉ b :=
  sym_ind (P := fun l b => k ∉ l → k ∉ b) (fun h => h)
    (fun c r b _ _ ih hl => by
      simp only [List.mem_cons, not_or] at *
      exact ⟨hl.1, ih hl.2⟩)
    (fun c x y r b _ _ _ _ ih hl => by
      simp only [List.mem_cons, List.mem_append, not_or] at *
      exact ⟨hk _, ih hl.2.2.2⟩) _ l b (Nat.le_refl _) h hl
/-! ### A sign that is no digit stands between two texts. -/
theorem norm_mid {c : UInt8} (h37 : (c == 37) = false) (hd : digI c < 0) (y : List UInt8) : ∀ (n : Nat) (x : List UInt8), x.length ≤ n → normL (x ++ c :: y) = (normL x).bind fun a => (normL y).map fun b => a ++ c :: b
  | n, x, hn => by
    rcases x with _ | ⟨e, x⟩
    · rw [List.nil_append, normL_plain h37]
      show _ = (normL y).map _
      rfl
    · simp only [List.length_cons] at hn
      match n, hn with
      | n + 1, hn =>
        rw [List.cons_append]
        cases he : (e == 37)
        · rw [normL_plain he, normL_plain he, norm_mid h37 hd y n x (by omega)]
          cases normL x <;> cases normL y <;> rfl
        · rcases x with _ | ⟨a, _ | ⟨b, x⟩⟩
          · rw [normL_short he (by simp : ([] : List UInt8).length < 2), List.nil_append]
            rcases y with _ | ⟨z, y⟩
            · rw [normL_short he (by simp)]; rfl
            · rw [normL_bad he (.inl hd)]; rfl
          · rw [normL_short he (by simp : [a].length < 2)]
            show normL (e :: a :: c :: y) = _
            rw [normL_bad he (.inr hd)]; rfl
          · show normL (e :: a :: b :: (x ++ c :: y)) = _
            by_cases h : 0 ≤ digI a ∧ 0 ≤ digI b
            · rw [normL_esc he h.1 h.2, normL_esc he h.1 h.2, norm_mid h37 hd y n x (by simp at hn; omega)]
              cases normL x <;> cases normL y <;> simp
            · rw [normL_bad he (by omega), normL_bad he (by omega)]; rfl
theorem unesc_mid {c : UInt8} (h37 : (c == 37) = false) (hd : digI c < 0) (y : List UInt8) : ∀ (n : Nat) (x : List UInt8), x.length ≤ n → unescL (x ++ c :: y) = (unescL x).bind fun a => (unescL y).map fun b => a ++ c :: b
  | n, x, hn => by
    rcases x with _ | ⟨e, x⟩
    · rw [List.nil_append, unescL_plain h37]
      show _ = (unescL y).map _
      rfl
    · simp only [List.length_cons] at hn
      match n, hn with
      | n + 1, hn =>
        rw [List.cons_append]
        cases he : (e == 37)
        · rw [unescL_plain he, unescL_plain he, unesc_mid h37 hd y n x (by omega)]
          cases unescL x <;> cases unescL y <;> rfl
        · rcases x with _ | ⟨a, _ | ⟨b, x⟩⟩
          · rw [unescL_short he (by simp : ([] : List UInt8).length < 2), List.nil_append]
            rcases y with _ | ⟨z, y⟩
            · rw [unescL_short he (by simp)]; rfl
            · rw [unescL_bad he (.inl hd)]; rfl
          · rw [unescL_short he (by simp : [a].length < 2)]
            show unescL (e :: a :: c :: y) = _
            rw [unescL_bad he (.inr hd)]; rfl
          · show unescL (e :: a :: b :: (x ++ c :: y)) = _
            by_cases h : 0 ≤ digI a ∧ 0 ≤ digI b
            · rw [unescL_esc he h.1 h.2, unescL_esc he h.1 h.2, unesc_mid h37 hd y n x (by simp at hn; omega)]
              cases unescL x <;> cases unescL y <;> simp
            · rw [unescL_bad he (by omega), unescL_bad he (by omega)]; rfl
theorem norm_at {c : UInt8} (h37 : (c == 37) = false) (hd : digI c < 0) {x y b : List UInt8} (h : normL (x ++ c :: y) = some b) : ∃ a z, normL x = some a ∧ normL y = some z ∧ b = a ++ c :: z := by
  rw [norm_mid h37 hd y _ x (Nat.le_refl _)] at h
  cases hx : normL x with
  | none => rw [hx] at h; cases h
  | some a =>
    cases hy : normL y with
    | none => rw [hx, hy] at h; cases h
    | some z => rw [hx, hy] at h; injection h with h; exact ⟨a, z, rfl, rfl, h.symm⟩
theorem norm_to {c : UInt8} (h37 : (c == 37) = false) (hd : digI c < 0) {x y a z : List UInt8} (hx : normL x = some a) (hy : normL y = some z) : normL (x ++ c :: y) = some (a ++ c :: z) := by
  rw [norm_mid h37 hd y _ x (Nat.le_refl _), hx, hy]; rfl
theorem unesc_to {c : UInt8} (h37 : (c == 37) = false) (hd : digI c < 0) {x y a z : List UInt8} (hx : unescL x = some a) (hy : unescL y = some z) : unescL (x ++ c :: y) = some (a ++ c :: z) := by
  rw [unesc_mid h37 hd y _ x (Nat.le_refl _), hx, hy]; rfl
/-! ### Steps. -/
def dotsF : List (List UInt8) → List (List UInt8) → List (List UInt8)
  | out, [] => out
  | out, s :: r => if s = [46, 46] then dotsF (out.dropLast ++ (if r.isEmpty then [[]] else [])) r else if s = [46] then dotsF (out ++ (if r.isEmpty then [[]] else [])) r else dotsF (out ++ [s]) r
def noDot (s : List UInt8) : Prop := s ≠ [46, 46] ∧ s ≠ [46]
theorem mem_dropLast {α : Type} {x : α} {l : List α} (h : x ∈ l.dropLast) : x ∈ l := (List.dropLast_sublist l).subset h
theorem dots_mem {Q : List UInt8 → Prop} (h0 : Q []) : ∀ (l out : List (List UInt8)), (∀ s ∈ out, Q s) → (∀ s ∈ l, noDot s → Q s) → ∀ s ∈ dotsF out l, Q s
  | [], out, ho, _ => ho
  | s :: r, out, ho, hl => by
    have hr : ∀ x ∈ r, noDot x → Q x := fun x hx => hl x (List.mem_cons_of_mem _ hx)
    have he : ∀ x ∈ (if r.isEmpty then [[]] else [] : List (List UInt8)), Q x := by
      intro x hx
      split at hx
      · rw [List.mem_singleton.1 hx]; exact h0
      · cases hx
    unfold dotsF
    split
    · exact dots_mem h0 r _ (fun x hx => (List.mem_append.1 hx).elim (fun h => ho x (mem_dropLast h)) (he x)) hr
    · split
      · exact dots_mem h0 r _ (fun x hx => (List.mem_append.1 hx).elim (ho x) (he x)) hr
      · rename_i h1 h2
        exact dots_mem h0 r _ (fun x hx => (List.mem_append.1 hx).elim (ho x) (fun h => by rw [List.mem_singleton.1 h]; exact hl s (List.mem_cons_self ..) ⟨h1, h2⟩)) hr
theorem dots_no (l : List (List UInt8)) : ∀ s ∈ dotsF [] l, noDot s :=
  dots_mem (Q := noDot) ⟨by simp, by simp⟩ l [] (fun _ h => by cases h) (fun _ _ h => h)
theorem dots_ne : ∀ (l out : List (List UInt8)), l ≠ [] ∨ out ≠ [] → l = [] ∨ dotsF out l ≠ []
  | [], out, _ => .inl rfl
  | s :: r, out, _ => by
    right
    have key : ∀ o : List (List UInt8), (r = [] → o ≠ []) → dotsF o r ≠ [] := by
      intro o ho
      cases r with
      | nil => exact ho rfl
      | cons a r =>
        rcases dots_ne (a :: r) o (.inl (by simp)) with h | h
        · cases h
        · exact h
    unfold dotsF
    split
    · exact key _ (fun h => by subst h; simp)
    · split
      · exact key _ (fun h => by subst h; simp)
      · exact key _ (fun _ => by simp)
theorem dots_keep : ∀ (l out : List (List UInt8)), (∀ s ∈ l, noDot s) → dotsF out l = out ++ l
  | [], out, _ => by simp [dotsF]
  | s :: r, out, h => by
    obtain ⟨h1, h2⟩ := h s (List.mem_cons_self ..)
    unfold dotsF
    rw [if_neg h1, if_neg h2, dots_keep r _ (fun x hx => h x (List.mem_cons_of_mem _ hx)), List.append_assoc]; rfl
def tot (W : List UInt8 → Nat) (l : List (List UInt8)) : Nat := (l.map fun s => W s + 1).sum
theorem tot_app (W : List UInt8 → Nat) (a b : List (List UInt8)) : tot W (a ++ b) = tot W a + tot W b := by unfold tot; rw [List.map_append, List.sum_append]
theorem tot_dropLast (W : List UInt8 → Nat) : ∀ l : List (List UInt8), tot W l.dropLast ≤ tot W l
  | [] => Nat.le_refl _
  | [x] => Nat.zero_le _
  | x :: y :: l => by
    have := tot_dropLast W (y :: l)
    rw [List.dropLast_cons_cons]
    show tot W ([x] ++ (y :: l).dropLast) ≤ tot W ([x] ++ (y :: l))
    rw [tot_app, tot_app]; omega
theorem dots_tot (W : List UInt8 → Nat) (h0 : W [] = 0) : ∀ (l out : List (List UInt8)), tot W (dotsF out l) ≤ tot W out + tot W l
  | [], out => by simp [dotsF, tot]
  | s :: r, out => by
    have hs : tot W (s :: r) = (W s + 1) + tot W r := by unfold tot; simp
    have he : tot W (if r.isEmpty then [[]] else [] : List (List UInt8)) ≤ 1 := by split <;> simp [tot, h0]
    unfold dotsF
    split
    · have h1 := dots_tot W h0 r (out.dropLast ++ (if r.isEmpty then [[]] else []))
      have h2 := tot_dropLast W out
      rw [tot_app] at h1; omega
    · split
      · have h1 := dots_tot W h0 r (out ++ (if r.isEmpty then [[]] else []))
        rw [tot_app] at h1; omega
      · have h1 := dots_tot W h0 r (out ++ [s])
        have h2 : tot W [s] = W s + 1 := by unfold tot; simp
        rw [tot_app] at h1; omega
theorem join_tot (c : UInt8) : ∀ l : List (List UInt8), l ≠ [] → (Lib.join l [c]).length + 1 = tot List.length l
  | [], h => absurd rfl h
  | [x], _ => by rw [Lib.join_one]; simp [tot]
  | x :: y :: l, _ => by
    have ih := join_tot c (y :: l) (by simp)
    rw [Lib.join_cons] at ih
    rw [Lib.join_cons, joinTail_c]
    have h : tot List.length (x :: y :: l) = x.length + 1 + tot List.length (y :: l) := by unfold tot; simp
    rw [h, ← ih]
    simp only [List.length_append, List.length_cons, List.length_nil]; omega
theorem join_two (c : UInt8) (x y : List UInt8) (l : List (List UInt8)) : Lib.join (x :: y :: l) [c] = x ++ c :: Lib.join (y :: l) [c] := by
  rw [Lib.join_cons, Lib.join_cons, joinTail_c]; simp
theorem sg_of_join (c : UInt8) : ∀ l : List (List UInt8), l ≠ [] → (∀ s ∈ l, c ∉ s) → sg c [] (Lib.join l [c]) = l
  | [], h, _ => absurd rfl h
  | [x], _, hc => by rw [Lib.join_one]; exact sg_one (hc x (by simp))
  | x :: y :: l, _, hc => by
    rw [join_two, sg_hit _ _ (hc x (by simp)), sg_of_join c (y :: l) (by simp) (fun s hs => hc s (List.mem_cons_of_mem _ hs))]
/-- The path without steps that are dots. -/
def dotsP (p : List UInt8) : List UInt8 := 47 :: Lib.join (dotsF [] (sg 47 [] (p.drop 1))) [47]
theorem s47 : ((47 : UInt8) == 37) = false ∧ digI 47 < 0 ∧ ((63 : UInt8) == 37) = false ∧ digI 63 < 0 := by decide
theorem join_norm : ∀ l : List (List UInt8), l ≠ [] → (∀ s ∈ l, normL s = some s) → normL (Lib.join l [47]) = some (Lib.join l [47])
  | [], h, _ => absurd rfl h
  | [x], _, hc => by rw [Lib.join_one]; exact hc x (by simp)
  | x :: y :: l, _, hc => by
    rw [join_two]
    exact norm_to s47.1 s47.2.1 (hc x (by simp)) (join_norm (y :: l) (by simp) (fun s hs => hc s (List.mem_cons_of_mem _ hs)))
theorem seg_norm : ∀ (n : Nat) (l b : List UInt8), l.length ≤ n → normL l = some b → l = b → ∀ s ∈ sg 47 [] l, normL s = some s
  | n, l, b, hn, h, hb => by
    subst hb
    rcases cut_at 47 l with hno | ⟨x, y, rfl, hx⟩
    · intro s hs
      rw [sg_one hno, List.mem_singleton] at hs
      subst hs; exact h
    · obtain ⟨a, z, ha, hz, he⟩ := norm_at s47.1 s47.2.1 h
      have hax : a.length ≤ x.length := norm_len ha
      have hzy : z.length ≤ y.length := norm_len hz
      have hlen := congrArg List.length he
      simp only [List.length_append, List.length_cons] at hlen
      have e1 : x = a ∧ 47 :: y = 47 :: z := List.append_inj he (by omega)
      obtain ⟨rfl, e2⟩ := e1
      injection e2 with _ e2
      subst e2
      intro s hs
      rw [sg_hit _ _ hx] at hs
      rcases List.mem_cons.1 hs with rfl | hs
      · exact ha
      · match n, hn with
        | 0, hn => simp at hn
        | n + 1, hn => exact seg_norm n y y (by simp at hn; omega) hz rfl s hs
theorem all_sg {Q : UInt8 → Prop} : ∀ (l cur : List UInt8), (∀ c ∈ cur, Q c) → (∀ c ∈ l, Q c) → ∀ s ∈ sg 47 cur l, ∀ c ∈ s, Q c
  | [], cur, hc, _, s, hs => by rw [show sg 47 cur [] = [cur] from rfl, List.mem_singleton] at hs; subst hs; exact hc
  | x :: r, cur, hc, hl, s, hs => by
    rw [sg_c] at hs
    split at hs
    · rcases List.mem_cons.1 hs with rfl | hs
      · exact hc
      · exact all_sg r [] (fun _ h => by cases h) (fun c h => hl c (List.mem_cons_of_mem _ h)) s hs
    · exact all_sg r _ (fun c h => (List.mem_append.1 h).elim (hc c) (fun h => by rw [List.mem_singleton.1 h]; exact hl x (List.mem_cons_self ..))) (fun c h => hl c (List.mem_cons_of_mem _ h)) s hs
theorem all_join {Q : UInt8 → Prop} (h47 : Q 47) : ∀ l : List (List UInt8), (∀ s ∈ l, ∀ c ∈ s, Q c) → ∀ c ∈ Lib.join l [47], Q c
  | [], _, c, hc => by simp [Lib.join] at hc
  | [x], h, c, hc => by rw [Lib.join_one] at hc; exact h x (by simp) c hc
  | x :: y :: l, h, c, hc => by
    rw [join_two] at hc
    rcases List.mem_append.1 hc with hc | hc
    · exact h x (by simp) c hc
    · rcases List.mem_cons.1 hc with rfl | hc
      · exact h47
      · exact all_join h47 (y :: l) (fun s hs => h s (List.mem_cons_of_mem _ hs)) c hc
/-- What a path's steps are, when no dots are left. -/
structure Steps (l : List (List UInt8)) : Prop where
  ne : l ≠ []
  dot : ∀ s ∈ l, noDot s
  norm : ∀ s ∈ l, normL s = some s
  good : ∀ s ∈ l, ∀ c ∈ s, goodB c = true ∧ c ≠ 63 ∧ c ≠ 47
theorem steps_of {p : List UInt8} (hn : normL p = some p) (hg : p.all goodB = true) (hq : (63 : UInt8) ∉ p) (r : List UInt8) (hp : p = 47 :: r) : Steps (dotsF [] (sg 47 [] r)) := by
  have hnr : normL r = some r := by
    have h2 : normL (([] : List UInt8) ++ 47 :: r) = some p := by rw [List.nil_append, ← hp]; exact hn
    obtain ⟨a, z, ha, hz, he⟩ := norm_at s47.1 s47.2.1 h2
    injection ha with ha
    subst ha
    rw [hp] at he
    injection he with _ he
    rw [he] at hz ⊢
    exact norm_idem hz
  have hall : ∀ c ∈ r, goodB c = true ∧ c ≠ 63 := fun c hc => ⟨List.all_eq_true.1 hg c (by rw [hp]; exact List.mem_cons_of_mem _ hc), fun e => hq (by rw [hp, ← e]; exact List.mem_cons_of_mem _ hc)⟩
  refine ⟨?_, dots_no _, ?_, ?_⟩
  · rcases dots_ne (sg 47 [] r) [] (.inl (sg_ne 47 r [])) with h | h
    · exact absurd h (sg_ne 47 r [])
    · exact h
  · exact dots_mem (Q := fun s => normL s = some s) rfl _ _ (fun _ h => by cases h) (fun s hs _ => seg_norm _ r r (Nat.le_refl _) hnr rfl s hs)
  · refine dots_mem (Q := fun s => ∀ c ∈ s, goodB c = true ∧ c ≠ 63 ∧ c ≠ 47) (fun _ h => by cases h) _ _ (fun _ h => by cases h) (fun s hs _ c hc => ?_)
    obtain ⟨h1, h2⟩ := all_sg (Q := fun c => goodB c = true ∧ c ≠ 63) r [] (fun _ h => by cases h) hall s hs c hc
    exact ⟨h1, h2, fun e => sg_no 47 r [] (by simp) s hs (e ▸ hc)⟩
end Tar
end Go.Proofs.YthocoplaehbncaaDoor
