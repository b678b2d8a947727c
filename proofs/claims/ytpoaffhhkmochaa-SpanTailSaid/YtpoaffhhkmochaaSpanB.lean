/- SpanWithin: the law's walk. -/
import Derived.Test.YtpoaffhhkmochaaSpanA
namespace Go.Proofs.Ytpoaffhhkmochaa
open Go.RowKit
namespace Spn
theorem resL_len (l : List (Int × Int)) (size : Int) : (resL l size).length ≤ l.length := by
  unfold resL
  exact Nat.le_trans (List.length_filter_le _ _) (by simp)
theorem resolve_ok {l out : List (Int × Int)} {size : Int} (h : resolve l size = .ok out) : out ≠ [] ∧ out.length ≤ l.length ∧ ∀ d ∈ out, 0 ≤ d.1 ∧ d.1 < d.2 ∧ d.2 ≤ size := by
  unfold resolve at h
  split at h
  · simp at h
  · rename_i hn
    split at h
    · simp at h
    · split at h
      · simp at h
      · rename_i he
        simp only [Except.ok.injEq] at h
        subst h
        simp only [not_or, Bool.not_eq_true] at hn
        refine ⟨he, resL_len _ _, fun d hd => ?_⟩
        unfold resL at hd
        rw [List.mem_filter, List.mem_map] at hd
        obtain ⟨⟨x, hx, rfl⟩, hd⟩ := hd
        have hw : wantB x = true := by
          have := hn.2.1; rw [List.any_eq_false] at this; simpa using this x hx
        have hb := wantB_bounds hw
        have : (res1 size x).1 < (res1 size x).2 := by simpa [someB] using hd
        refine ⟨?_, this, ?_⟩
        · unfold res1
          by_cases h1 : x.1 < 0
          · rw [if_pos h1]; by_cases h2 : 0 < size - x.2
            · rw [if_pos h2]; exact Int.le_of_lt h2
            · rw [if_neg h2]; exact Int.le_refl _
          · rw [if_neg h1]; split <;> exact Int.not_lt.mp h1
        · unfold res1
          by_cases h1 : x.1 < 0
          · rw [if_pos h1]; show size ≤ size; omega
          · rw [if_neg h1]; split
            · exact Int.le_refl _
            · by_cases h2 : size < x.2 + 1
              · rw [if_pos h2]; exact Int.le_refl _
              · rw [if_neg h2]; exact Int.not_lt.mp h2
theorem resolve_nil : resolve [] 0 = .error 1 := by unfold resolve; rw [if_pos (.inl rfl)]
end Spn

set_option maxRecDepth 8000 in
set_option maxHeartbeats 1600000 in
theorem spanWithin_walk (v : Value) (l : List (Int × Int)) (size : Int) (w : World) (h : SlR w e_ii v l) (hl : l.length * 16 ≤ 140737488351232) (_ : ∀ d ∈ l, (Lit.int .i64 d.1).wf = true ∧ (Lit.int .i64 d.2).wf = true) (hz : (Lit.int .i64 size).wf = true) :
    Calls Try.prog 8 #[v, .int .i64 size] w fun e w' => e = .returned (.bool true) ∧ Below w.heap.size w w' := by
  have hz2 : size ≤ 9223372036854775807 ∧ -9223372036854775808 ≤ size := by simp only [Lit.wf, decide_eq_true_eq, Bool.and_eq_true] at hz; exact ⟨by have := hz.2; simp [IntKind.max, IntKind.signed, IntKind.bits] at this; omega, by have := hz.1; simp [IntKind.min, IntKind.signed, IntKind.bits] at this; omega⟩
  have C := Lib.hid (resolve_any v l size w h (by omega) hz2.1 hz2.2)
  obtain ⟨A, c, rfl, hc, -⟩ := h
  go_enter Try.func8, Try.ntmps8
  go_wp2_with fail
  refine C.out.mono ?_
  rintro e w1 ⟨ha, b1⟩
  unfold ResAns at ha
  cases hr : Spn.resolve l size with
  | error k =>
    rw [hr] at ha
    simp only at ha
    subst ha
    go_wp2_with fail
    refine (resolve_any (.slice none 0 0) [] 0 _ (SlR.nil _ _) (by simp) (by omega) (by omega)).mono ?_
    rintro e w2 ⟨ha, b2⟩
    unfold ResAns at ha
    rw [Spn.resolve_nil] at ha
    simp only at ha
    subst ha
    have hk : (k == 0) = false := by
      unfold Spn.resolve at hr
      split at hr
      · simp at hr; subst hr; rfl
      · split at hr
        · simp at hr; subst hr; rfl
        · split at hr
          · simp at hr; subst hr; rfl
          · simp at hr
    clear hr
    go_wp2_with fail
    go_ret
    exact ⟨rfl, b1.trans (b2.mono b1.size)⟩
  | ok out =>
    rw [hr] at ha
    simp only at ha
    obtain ⟨v1, rfl, hown⟩ := ha
    have HP := Lib.hid (Spn.resolve_ok hr)
    clear hr
    have hlb : out.length ≤ 8796093021952 := by have := HP.out.2.1; omega
    have HO := Lib.hid hown
    rcases hown.form with ⟨hv, ha⟩ | ⟨g, cap, rfl⟩
    · exact absurd ha HP.out.1
    clear hown
    go_wp2_with fail
    refine (resolve_any (.slice none 0 0) [] 0 _ (SlR.nil _ _) (by simp) (by omega) (by omega)).mono ?_
    rintro e w2 ⟨ha, b2⟩
    unfold ResAns at ha
    rw [Spn.resolve_nil] at ha
    simp only at ha
    subst ha
    have HS := Lib.hid (SlR.of_owns (HO.out.below b2))
    go_wp2_with fail
    go_loopw [30] (fun i wr => ∃ k : Nat, k ≤ out.length ∧ i = .int .i64 k ∧ Below w2.heap.size w2 wr) (fun i _ => out.length - (intOf i).toNat)
    case atStart => exact ⟨0, by omega, rfl, Below.refl _ _⟩
    case round =>
      obtain ⟨k, hk, rfl, hbel⟩ := hrel
      have hsz0 := hbel.size
      by_cases hlt : k < out.length
      · obtain ⟨b, o, c', he, hb, hcell⟩ := HS.out.two (fun _ => rfl) (by omega)
        obtain ⟨⟨rfl, rfl, -⟩, rfl⟩ : (g = b ∧ 0 = o ∧ True) ∧ cap = c' := by injection he with h1 h2 h3; injection h1 with h1; injection h1 with h4 h5 h6; exact ⟨⟨h4, h5, trivial⟩, h3⟩
        obtain ⟨q0, q1⟩ := hcell k hlt (.int .i64 out[k].1) (.int .i64 out[k].2) rfl rfl
        have c0 := (hbel.cell (p := ⟨g, 0 + k * 2, none⟩) hb).trans q0
        have c1 := (hbel.cell (p := ⟨g, 0 + k * 2 + 1, none⟩) hb).trans q1
        rw [Nat.zero_add] at c0 c1
        clear hcell q0 q1 he
        obtain ⟨t1, t2, t3⟩ := HP.out.2.2 out[k] (List.getElem_mem hlt)
        have u1 : decide (out[k].1 < 0) = false := decide_eq_false (by omega)
        have u2 : decide (out[k].2 ≤ out[k].1) = false := decide_eq_false (by omega)
        have u3 : decide (size < out[k].2) = false := decide_eq_false (by omega)
        go_wp2_with fail
        go_roundw
        case rel => exact ⟨k + 1, by omega, by go_num, hbel.alloc hbel.size _⟩
        case measure => simp [intOf]; omega
      · have h1 : 0 < out.length := List.length_pos_iff.mpr HP.out.1
        have h2 := HP.out.2.1
        go_wp2_with fail
        go_ret
        exact ⟨ret_bool (by simp; try omega), b1.trans ((b2.mono b1.size).trans (hbel.mono (Nat.le_trans b1.size b2.size)))⟩
end Go.Proofs.Ytpoaffhhkmochaa
