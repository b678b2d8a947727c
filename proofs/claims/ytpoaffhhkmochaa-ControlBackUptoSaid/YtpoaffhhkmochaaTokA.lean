/- What token's byte tests and Quote compute. -/
import Derived.Test.YtpoaffhhkmochaaChecked
import Derived.Test.YtpoaffhhkmochaaBytes
namespace Go.Proofs.Ytpoaffhhkmochaa
set_option maxRecDepth 20000
open Go.RowKit
namespace Tok
def plainB (c : UInt8) : Bool := (32 ≤ c && c ≤ 126) || c == 9
def blankB (c : UInt8) : Bool := c == 32 || c == 9
def esc (c : UInt8) : List UInt8 := if c == 34 || c == 92 then [92, c] else [c]
def escs (l : List UInt8) : List UInt8 := l.flatMap esc
def quoteL (l : List UInt8) : List UInt8 := 34 :: (escs l ++ [34])
theorem escs_snoc (l : List UInt8) (c : UInt8) : escs (l ++ [c]) = escs l ++ esc c := by simp [escs]
theorem esc_len (c : UInt8) : (esc c).length ≤ 2 := by unfold esc; split <;> simp
theorem escs_len (l : List UInt8) : (escs l).length ≤ 2 * l.length := by
  induction l with
  | nil => simp [escs]
  | cons c l ih => have := esc_len c; simp only [escs, List.flatMap_cons, List.length_append, List.length_cons] at ih ⊢; omega
end Tok

theorem plainB_iff (c : UInt8) : Tok.plainB c = true ↔ (32 ≤ (c.toNat : Int) ∧ (c.toNat : Int) ≤ 126) ∨ (c.toNat : Int) = 9 := by
  simp [Tok.plainB, u8_le, u8_eq]
theorem blankB_iff (c : UInt8) : Tok.blankB c = true ↔ (c.toNat : Int) = 32 ∨ (c.toNat : Int) = 9 := by
  simp [Tok.blankB, u8_eq]

theorem isPlain_any (c : UInt8) (w : World) :
    Calls Try.prog 76 #[.int .u8 (c.toNat : Int)] w fun e w' => e = .returned (.bool (Tok.plainB c)) ∧ w = w' := by
  have H := Lib.hid (plainB_iff c)
  go_enter Try.func76, Try.ntmps76
  go_wp2
  all_goals
    go_ret
    exact ⟨ret_bool (by rw [Bool.eq_iff_iff, H.out]; simp; omega), rfl⟩

theorem isBlank_any (c : UInt8) (w : World) :
    Calls Try.prog 97 #[.int .u8 (c.toNat : Int)] w fun e w' => e = .returned (.bool (Tok.blankB c)) ∧ w = w' := by
  have H := Lib.hid (blankB_iff c)
  go_enter Try.func97, Try.ntmps97
  go_wp2
  all_goals
    go_ret
    exact ⟨ret_bool (by rw [Bool.eq_iff_iff, H.out]; simp; try omega), rfl⟩

/-- What Quote answers to a text that is not too long. -/
def QuoteEnd (l : List UInt8) (e : Ending) : Prop :=
  (l.all Tok.plainB = true ∧ e = .returned (.tuple #[.string (mkS (Tok.quoteL l)), .int .i64 0])) ∨ (l.all Tok.plainB = false ∧ e = .returned (.tuple #[.string ByteArray.empty, .int .i64 3]))

theorem quote_large (s : ByteArray) (w : World) (hs : 1000 < s.size) (h2 : s.size ≤ 140737488351232) :
    Calls Try.prog 57 #[.string s] w fun e w' => e = .returned (.tuple #[.string ByteArray.empty, .int .i64 2]) ∧ w = w' := by
  go_enter Try.func57, Try.ntmps57
  go_wp2_with fail
  go_ret2
  exact ⟨rfl, rfl⟩

set_option maxHeartbeats 800000 in
theorem quote_walk (s : ByteArray) (w : World) (hs : s.size ≤ 1000) :
    Calls Try.prog 57 #[.string s] w fun e w' => QuoteEnd (sl s) e ∧ Below w.heap.size w w' := by
  go_enter Try.func57, Try.ntmps57
  go_wp2_with fail
  go_loopw [4, 13] (fun v i wr => ∃ k : Nat, k ≤ s.size ∧ i = .int .i64 k ∧ Owns wr w.heap.size 5 1 eb v (34 :: Tok.escs ((sl s).take k)) ∧ ((sl s).take k).all Tok.plainB = true ∧ Below w.heap.size w wr) (fun _ i _ => s.size - (intOf i).toNat)
  case atStart =>
    refine ⟨0, by omega, rfl, ?_, by simp, (Below.refl _ _).alloc (Nat.le_refl _) _⟩
    exact Owns.lit w w.heap.size #[.int .u8 34] [34] (Nat.le_refl _) (by decide) rfl rfl
  case round =>
    obtain ⟨k, hk, rfl, hown, hall, hbel⟩ := hrel
    have hesl : (Tok.escs ((sl s).take k)).length ≤ 2000 := by
      have := Tok.escs_len ((sl s).take k)
      have := List.length_take_le k (sl s)
      omega
    by_cases hlt : k < s.size
    · have HC := Lib.hid (sl_getElem? s k hlt)
      have HA := Lib.hid hall
      clear hall
      by_cases hp : Tok.plainB s[k] = true
      · by_cases h34 : (((s[k].toNat : Int) == 34) || ((s[k].toNat : Int) == 92)) = true
        · have HE : Hid (Tok.esc s[k] = [92, s[k]]) := by
            show Tok.esc s[k] = [92, s[k]]
            unfold Tok.esc
            rw [if_pos]
            simpa [u8_eq] using h34
          have hq : ((s[k].toNat : Int) == 34) = true ∨ (((s[k].toNat : Int) == 34) = false ∧ ((s[k].toNat : Int) == 92) = true) := by
            cases h : ((s[k].toNat : Int) == 34) <;> simp_all
          clear h34
          rcases hq with hq | ⟨hq, hq'⟩
          all_goals
            go_wp2_with (first | (go_at_call 76; refine (isPlain_any _ _).mono ?_; rintro e w' ⟨rfl, rfl⟩) | (at_builtin; go_must (refine wpList_append_owns rfl (.tmp 34) (.tmp 36) _ rfl w.heap.size 5 (.int .u8 0) 1 1 eb Try.underlying82 byteInfo rfl (by decide) _ _ rfl (hown.alloc _) ⟨wr.heap.size, 0, none⟩ 2 2 [92, s[k]] rfl rfl rfl (new_cells _ [bv 92, bv s[k]] _) (eb_one [92, s[k]]) (by simp only [List.length_cons, maxLen]; omega) (by simp only [List.length_cons]; omega) (bel_size hbel (Nat.le_refl _) _) ?_); intro v1 w1 hown1 hg1))
            go_roundw
            case rel => exact ⟨k + 1, by omega, by go_num, by rw [take_succ_of HC.out, Tok.escs_snoc, HE.out]; exact hown1, all_take_succ HC.out HA.out hp, bel_append hbel (Nat.le_refl _) hown hg1⟩
            case measure => simp [intOf]; omega
        · have h34' : ((s[k].toNat : Int) == 34) = false ∧ ((s[k].toNat : Int) == 92) = false := by
            cases h : ((s[k].toNat : Int) == 34) <;> cases h' : ((s[k].toNat : Int) == 92) <;> simp_all
          obtain ⟨hq, hq'⟩ := h34'
          have HE : Hid (Tok.esc s[k] = [s[k]]) := by
            show Tok.esc s[k] = [s[k]]
            unfold Tok.esc
            rw [if_neg]
            simpa [u8_eq] using h34
          clear h34
          go_wp2_with (first | (go_at_call 76; refine (isPlain_any _ _).mono ?_; rintro e w' ⟨rfl, rfl⟩) | (at_builtin; go_must (refine wpList_append_owns rfl (.tmp 19) (.tmp 21) _ rfl w.heap.size 5 (.int .u8 0) 1 1 eb Try.underlying82 byteInfo rfl (by decide) _ _ rfl (hown.alloc _) ⟨wr.heap.size, 0, none⟩ 1 1 [s[k]] rfl rfl rfl (new_cells _ [bv s[k]] _) (eb_one [s[k]]) (by simp only [List.length_cons, maxLen]; omega) (by simp only [List.length_cons]; omega) (bel_size hbel (Nat.le_refl _) _) ?_); intro v1 w1 hown1 hg1))
          go_roundw
          case rel => exact ⟨k + 1, by omega, by go_num, by rw [take_succ_of HC.out, Tok.escs_snoc, HE.out]; exact hown1, all_take_succ HC.out HA.out hp, bel_append hbel (Nat.le_refl _) hown hg1⟩
          case measure => simp [intOf]; omega
      · have hp' : Tok.plainB s[k] = false := by simpa using hp
        clear hp
        go_wp2_with (go_at_call 76; refine (isPlain_any _ _).mono ?_; rintro e w' ⟨rfl, rfl⟩)
        go_ret2
        exact ⟨.inr ⟨all_false HC.out hp', rfl⟩, hbel⟩
    · obtain rfl : k = s.size := by omega
      have ht : (sl s).take s.size = sl s := List.take_of_length_le (by rw [sl_len]; exact Nat.le_refl _)
      rw [ht] at hown hall hesl
      have HA := Lib.hid hall
      clear hall ht
      go_wp2_with (at_builtin; go_must (refine wpList_append_owns rfl (.tmp 39) (.tmp 40) _ rfl w.heap.size 5 (.int .u8 0) 1 1 eb Try.underlying82 byteInfo rfl (by decide) _ _ rfl (hown.alloc _) ⟨wr.heap.size, 0, none⟩ 1 1 [34] rfl rfl rfl (new_cells _ [bv 34] _) (eb_one [34]) (by simp only [List.length_cons, maxLen]; omega) (by simp only [List.length_cons]; omega) (bel_size hbel (Nat.le_refl _) _) ?_); intro v1 w1 hown1 hg1; have hb1 := bel_append hbel (Nat.le_refl _) hown hg1; have hrs := run_string_own (dst := 9) Try.underlying82 Try.underlying5 Try.underlying9 (by rw [← eb_map]; exact hown1))
      go_ret2
      exact ⟨.inl ⟨HA.out, rfl⟩, hb1⟩
end Go.Proofs.Ytpoaffhhkmochaa
