/- What etag's Weak and Strong, slices.Contains of texts and policy.Invalidates compute; the laws TagOrder and PolicySafe. -/
import Derived.Test.YtpoaffhhkmochaaChecked
import Derived.Test.YtpoaffhhkmochaaBase
import Derived.Test.YtpoaffhhkmochaaRegion
namespace Go.Proofs.Ytpoaffhhkmochaa
open Go.RowKit

theorem weak_any (wa wb : Bool) (a b : ByteArray) (w : World) :
    Calls Try.prog 14 #[.agg #[.bool wa, .string a], .agg #[.bool wb, .string b]] w fun e w' => e = .returned (.bool (a.toList == b.toList)) ∧ Below w.heap.size w w' := by
  go_enter Try.func14, Try.ntmps14
  go_wp2
  go_ret
  exact ⟨rfl, by go_grown⟩

theorem strong_any (wa wb : Bool) (a b : ByteArray) (w : World) :
    Calls Try.prog 15 #[.agg #[.bool wa, .string a], .agg #[.bool wb, .string b]] w fun e w' => e = .returned (.bool (!wa && !wb && a.toList == b.toList)) ∧ Below w.heap.size w w' := by
  cases wa <;> cases wb
  all_goals
    go_enter Try.func15, Try.ntmps15
    go_wp2
    go_ret
    exact ⟨ret_bool (by simp), by go_grown⟩

/-- slices.Index of texts: the first place, or -1. -/
def IdxAns (xs : List ByteArray) (t : ByteArray) (e : Ending) : Prop :=
  (∃ k : Nat, k < xs.length ∧ t ∈ xs ∧ e = .returned (.int .i64 k)) ∨ (t ∉ xs ∧ e = .returned (.int .i64 (-1)))
set_option maxHeartbeats 400000 in
theorem indexStr_any (v : Value) (xs : List ByteArray) (t : ByteArray) (w : World) (h : SlR w es v xs) (hx : xs.length ≤ 140737488351232) :
    Calls Try.prog 70 #[v, .string t] w fun e w' => IdxAns xs t e ∧ w = w' := by
  obtain ⟨A, c, rfl, hc, hA⟩ := h
  go_enter Try.func70, Try.ntmps70
  go_wp2_with fail
  go_loop [8] (fun i => ∃ k : Nat, k ≤ xs.length ∧ i = .int .i64 k ∧ t ∉ xs.take k) (fun i => xs.length - (intOf i).toNat)
  case atStart => exact ⟨0, by omega, rfl, by simp⟩
  case round =>
    obtain ⟨k, hk, rfl, hN⟩ := hrel
    have HN := Lib.hid hN
    clear hN
    by_cases hlt : k < xs.length
    · obtain ⟨b, o, rfl, hb, hcell⟩ := hA (by omega)
      have c1 := hcell k (.string xs[k]) (by rw [es_map]; simp [hlt])
      clear hA hcell
      by_cases hxy : t = xs[k]
      · have ht : (t.toList == xs[k].toList) = true := by rw [← hxy]; simp
        have HM : Hid (t ∈ xs) := by show _; rw [hxy]; exact List.getElem_mem hlt
        clear hxy
        go_wp2_with fail
        go_ret
        exact ⟨.inl ⟨k, hlt, HM.out, rfl⟩, rfl⟩
      · have ht : (t.toList == xs[k].toList) = false := by
          rw [ba_toList, ba_toList]; simp only [beq_eq_false_iff_ne]
          exact fun h => hxy (sl_inj h)
        have HM : Hid (t ∉ xs.take (k + 1)) := by
          show _
          rw [List.take_add_one, List.getElem?_eq_getElem hlt]
          simp only [Option.toList_some, List.mem_append, List.mem_singleton, not_or]
          exact ⟨HN.out, hxy⟩
        clear hxy
        go_wp2_with fail
        go_round
        case rel => exact ⟨k + 1, by omega, by go_num, HM.out⟩
        case measure => simp [intOf]; omega
    · have HM : Hid (t ∉ xs) := by show _; have := HN.out; rwa [List.take_of_length_le (by omega)] at this
      go_wp2_with fail
      go_ret
      exact ⟨.inr ⟨HM.out, rfl⟩, rfl⟩

/-- Is a text in a list? -/
def hasB (xs : List ByteArray) (t : ByteArray) : Bool := xs.any (fun x => decide (x = t))
theorem hasB_true {xs : List ByteArray} {t : ByteArray} (h : t ∈ xs) : hasB xs t = true := by
  unfold hasB; rw [List.any_eq_true]; exact ⟨t, h, by simp⟩
theorem hasB_false {xs : List ByteArray} {t : ByteArray} (h : t ∉ xs) : hasB xs t = false := by
  unfold hasB; rw [List.any_eq_false]; intro x hx; simp; rintro rfl; exact h hx
theorem hasB_iff {xs : List ByteArray} {t : ByteArray} : hasB xs t = true ↔ t ∈ xs :=
  ⟨fun h => Classical.byContradiction fun hm => Bool.noConfusion (h.symm.trans (hasB_false hm)), hasB_true⟩
theorem containsStr_any (v : Value) (xs : List ByteArray) (t : ByteArray) (w : World) (h : SlR w es v xs) (hx : xs.length ≤ 140737488351232) :
    Calls Try.prog 48 #[v, .string t] w fun e w' => e = .returned (.bool (hasB xs t)) ∧ w = w' := by
  go_enter Try.func48, Try.ntmps48
  go_wp2_with fail
  refine (indexStr_any v xs t _ h hx).mono ?_
  rintro e w' ⟨ha, rfl⟩
  rcases ha with ⟨k, hk, hm, rfl⟩ | ⟨hm, rfl⟩
  · have HM := Lib.hid hm
    clear hm
    go_wp2_with fail
    go_ret
    exact ⟨ret_bool (hasB_true HM.out).symm, rfl⟩
  · have HM := Lib.hid hm
    clear hm
    go_wp2_with fail
    go_ret
    exact ⟨ret_bool (hasB_false HM.out).symm, rfl⟩

def invNames : List ByteArray := [⟨#[80, 85, 84]⟩, ⟨#[80, 79, 83, 84]⟩, ⟨#[68, 69, 76, 69, 84, 69]⟩, ⟨#[80, 65, 84, 67, 72]⟩]
def invB (m : ByteArray) (code : Int) : Bool := hasB invNames m && (decide (200 ≤ code) && decide (code < 400))
set_option maxHeartbeats 400000 in
theorem invalidates_any (m : ByteArray) (code : Int) (w : World) :
    Calls Try.prog 30 #[.string m, .int .i64 code] w fun e w' => e = .returned (.bool (invB m code)) ∧ Below w.heap.size w w' := by
  have hr := SlR.lit (enc := es) w [.string ⟨#[80, 85, 84]⟩, .string ⟨#[80, 79, 83, 84]⟩, .string ⟨#[68, 69, 76, 69, 84, 69]⟩, .string ⟨#[80, 65, 84, 67, 72]⟩] 9 invNames rfl
  have hb1 := (Below.refl w.heap.size w).alloc (Nat.le_refl _) (.cells #[.string ⟨#[80, 85, 84]⟩, .string ⟨#[80, 79, 83, 84]⟩, .string ⟨#[68, 69, 76, 69, 84, 69]⟩, .string ⟨#[80, 65, 84, 67, 72]⟩] 9)
  have HR := Lib.hid hr
  clear hr
  by_cases hm : m ∈ invNames
  · have HM : Hid (hasB invNames m = true) := hasB_true hm
    clear hm
    go_enter Try.func30, Try.ntmps30
    go_wp2_with fail
    refine (containsStr_any _ invNames m _ HR.out (by decide)).mono ?_
    rintro e w' ⟨rfl, rfl⟩
    rw [HM.out]
    go_wp2_with fail
    all_goals
      go_ret
      exact ⟨ret_bool (by unfold invB; rw [HM.out]; simp; try omega), hb1⟩
  · have HM : Hid (hasB invNames m = false) := hasB_false hm
    clear hm
    go_enter Try.func30, Try.ntmps30
    go_wp2_with fail
    refine (containsStr_any _ invNames m _ HR.out (by decide)).mono ?_
    rintro e w' ⟨rfl, rfl⟩
    rw [HM.out]
    go_wp2_with fail
    all_goals
      go_ret
      exact ⟨ret_bool (by unfold invB; rw [HM.out]; simp), hb1⟩

set_option maxHeartbeats 1600000 in
theorem policySafe_walk (m : ByteArray) (code : Int) (w : World) (_ : m.size ≤ 140737488351232) (_ : (Lit.int .i64 code).wf = true) :
    Calls Try.prog 12 #[.string m, .int .i64 code] w fun e w' => e = .returned (.bool true) ∧ Below w.heap.size w w' := by
  have e1 : invB ⟨#[80, 85, 84]⟩ 200 = true := by decide
  have e2 : invB ⟨#[71, 69, 84]⟩ 200 = false := by decide
  have e3 : invB ⟨#[72, 69, 65, 68]⟩ 200 = false := by decide
  have e4 : invB ⟨#[68, 69, 76, 69, 84, 69]⟩ 404 = false := by decide
  have K1 : ∀ w, Calls Try.prog 30 #[.string ⟨#[80, 85, 84]⟩, .int .i64 200] w fun e w' => e = .returned (.bool true) ∧ Below w.heap.size w w' := fun w => by rw [← e1]; exact invalidates_any _ _ w
  have K2 : ∀ w, Calls Try.prog 30 #[.string ⟨#[71, 69, 84]⟩, .int .i64 200] w fun e w' => e = .returned (.bool false) ∧ Below w.heap.size w w' := fun w => by rw [← e2]; exact invalidates_any _ _ w
  have K3 : ∀ w, Calls Try.prog 30 #[.string ⟨#[72, 69, 65, 68]⟩, .int .i64 200] w fun e w' => e = .returned (.bool false) ∧ Below w.heap.size w w' := fun w => by rw [← e3]; exact invalidates_any _ _ w
  have K4 : ∀ w, Calls Try.prog 30 #[.string ⟨#[68, 69, 76, 69, 84, 69]⟩, .int .i64 404] w fun e w' => e = .returned (.bool false) ∧ Below w.heap.size w w' := fun w => by rw [← e4]; exact invalidates_any _ _ w
  have H1 := Lib.hid K1
  have H2 := Lib.hid K2
  have H3 := Lib.hid K3
  have H4 := Lib.hid K4
  clear K1 K2 K3 K4 e1 e2 e3 e4
  cases hi : invB m code
  · have HI := Lib.hid hi
    clear hi
    go_enter Try.func12, Try.ntmps12
    go_wp2_with fail
    refine (invalidates_any m code _).mono ?_
    rintro e w1 ⟨rfl, b1⟩
    rw [HI.out]
    go_wp2_with fail
    refine (H1.out _).mono ?_
    rintro e w2 ⟨rfl, b2⟩
    go_wp2_with fail
    refine (H2.out _).mono ?_
    rintro e w3 ⟨rfl, b3⟩
    go_wp2_with fail
    refine (H3.out _).mono ?_
    rintro e w4 ⟨rfl, b4⟩
    go_wp2_with fail
    refine (H4.out _).mono ?_
    rintro e w5 ⟨rfl, b5⟩
    have bb := (((b1.trans (b2.mono b1.size)).trans (b3.mono (Nat.le_trans b1.size b2.size))).trans (b4.mono (Nat.le_trans (Nat.le_trans b1.size b2.size) b3.size))).trans (b5.mono (Nat.le_trans (Nat.le_trans (Nat.le_trans b1.size b2.size) b3.size) b4.size))
    go_wp2_with fail
    go_ret
    exact ⟨rfl, bb⟩
  · have hj := hi
    have HI := Lib.hid hi
    clear hi
    unfold invB at hj
    simp only [Bool.and_eq_true, decide_eq_true_eq] at hj
    obtain ⟨hm, h200, h400⟩ := hj
    rw [hasB_iff] at hm
    have g1 : (!m.toList == [71, 69, 84]) = true := by
      rw [ba_toList]; unfold invNames at hm
      simp only [List.mem_cons, List.not_mem_nil, or_false] at hm
      rcases hm with rfl | rfl | rfl | rfl <;> rfl
    have g2 : (!m.toList == [72, 69, 65, 68]) = true := by
      rw [ba_toList]; unfold invNames at hm
      simp only [List.mem_cons, List.not_mem_nil, or_false] at hm
      rcases hm with rfl | rfl | rfl | rfl <;> rfl
    clear hm
    go_enter Try.func12, Try.ntmps12
    go_wp2_with fail
    refine (invalidates_any m code _).mono ?_
    rintro e w1 ⟨rfl, b1⟩
    rw [HI.out]
    go_wp2_with fail
    refine (H1.out _).mono ?_
    rintro e w2 ⟨rfl, b2⟩
    go_wp2_with fail
    refine (H2.out _).mono ?_
    rintro e w3 ⟨rfl, b3⟩
    go_wp2_with fail
    refine (H3.out _).mono ?_
    rintro e w4 ⟨rfl, b4⟩
    go_wp2_with fail
    refine (H4.out _).mono ?_
    rintro e w5 ⟨rfl, b5⟩
    have bb := (((b1.trans (b2.mono b1.size)).trans (b3.mono (Nat.le_trans b1.size b2.size))).trans (b4.mono (Nat.le_trans (Nat.le_trans b1.size b2.size) b3.size))).trans (b5.mono (Nat.le_trans (Nat.le_trans (Nat.le_trans b1.size b2.size) b3.size) b4.size))
    go_wp2_with fail
    go_ret
    exact ⟨rfl, bb⟩

/-! ### TagOrder -/
/-- Behind some calls that each turned nothing that was there. -/
theorem belT {w a b : World} (h : Below w.heap.size w a) (k : Below a.heap.size a b) : Below w.heap.size w b := h.trans (k.mono h.size)

set_option maxHeartbeats 16000000 in
set_option maxRecDepth 100000 in
theorem tagOrder_core (wa wb wc : Bool) (a b c : ByteArray) (p q r s1 s2 s3 : Bool) (w : World)
    (hab : (a.toList == b.toList) = p) (hba : (b.toList == a.toList) = p) (hbc : (b.toList == c.toList) = q) (hac : (a.toList == c.toList) = r)
    (gab : (!wa && !wb && a.toList == b.toList) = s1) (gba : (!wb && !wa && b.toList == a.toList) = s1) (gbc : (!wb && !wc && b.toList == c.toList) = s2) (gac : (!wa && !wc && a.toList == c.toList) = s3)
    (hcs : (p = false ∧ s1 = false) ∨ (p = true ∧ q = false ∧ s1 = false) ∨ (p = true ∧ q = false ∧ s1 = true ∧ s2 = false) ∨ (p = true ∧ q = true ∧ r = true ∧ s1 = false) ∨ (p = true ∧ q = true ∧ r = true ∧ s1 = true ∧ s2 = false) ∨ (p = true ∧ q = true ∧ r = true ∧ s1 = true ∧ s2 = true ∧ s3 = true)) :
    Calls Try.prog 3 #[.agg #[.bool wa, .string a], .agg #[.bool wb, .string b], .agg #[.bool wc, .string c]] w fun e w' => e = .returned (.bool true) ∧ Below w.heap.size w w' := by
  have W : ∀ (wa wb : Bool) (a b : ByteArray) (v : Bool), (a.toList == b.toList) = v → ∀ w, Calls Try.prog 14 #[.agg #[.bool wa, .string a], .agg #[.bool wb, .string b]] w fun e w' => e = .returned (.bool v) ∧ Below w.heap.size w w' :=
    fun wa wb a b v h w => by rw [← h]; exact weak_any wa wb a b w
  have S : ∀ (wa wb : Bool) (a b : ByteArray) (v : Bool), (!wa && !wb && a.toList == b.toList) = v → ∀ w, Calls Try.prog 15 #[.agg #[.bool wa, .string a], .agg #[.bool wb, .string b]] w fun e w' => e = .returned (.bool v) ∧ Below w.heap.size w w' :=
    fun wa wb a b v h w => by rw [← h]; exact strong_any wa wb a b w
  have HW := Lib.hid W
  have HS := Lib.hid S
  have Wab := Lib.hid (fun w => W wa wb a b p hab w)
  have Wba := Lib.hid (fun w => W wb wa b a p hba w)
  have Wbc := Lib.hid (fun w => W wb wc b c q hbc w)
  have Wac := Lib.hid (fun w => W wa wc a c r hac w)
  have Waa := Lib.hid (fun w => W wa wa a a true (by simp) w)
  have Sab := Lib.hid (fun w => S wa wb a b s1 gab w)
  have Sba := Lib.hid (fun w => S wb wa b a s1 gba w)
  have Sbc := Lib.hid (fun w => S wb wc b c s2 gbc w)
  have Sac := Lib.hid (fun w => S wa wc a c s3 gac w)
  have Saa := Lib.hid (fun w => S wa wa a a (!wa) (by simp) w)
  clear W S hab hba hbc hac gab gba gbc gac
  rcases hcs with ⟨rfl, rfl⟩ | ⟨rfl, rfl, rfl⟩ | ⟨rfl, rfl, rfl, rfl⟩ | ⟨rfl, rfl, rfl, rfl⟩ | ⟨rfl, rfl, rfl, rfl, rfl⟩ | ⟨rfl, rfl, rfl, rfl, rfl, rfl⟩
  all_goals
    go_enter Try.func3, Try.ntmps3
    go_wp2_with fail
    refine (HW.out false true ⟨#[120]⟩ ⟨#[120]⟩ true (by simp) _).mono ?_
    rintro e w1 ⟨rfl, b1⟩
    go_wp2_with fail
    refine (HS.out false true ⟨#[120]⟩ ⟨#[120]⟩ false (by simp) _).mono ?_
    rintro e w2 ⟨rfl, b2⟩
    have b12 := b1.trans (b2.mono b1.size)
    have bb : Below w.heap.size w w2 := ((((Below.refl w.heap.size w).alloc (Nat.le_refl _) _).alloc (by simp) _).alloc (by simp; omega) _).trans (b12.mono (by simp; omega))
    have c0 : w2.cell? ⟨w.heap.size, 0, none⟩ = some (.bool wa) := (b12.cell (by simp; try omega)).trans (by go_simp)
    have c1 : w2.cell? ⟨w.heap.size, 1, none⟩ = some (.string a) := (b12.cell (by simp; try omega)).trans (by go_simp)
    have c2 : w2.cell? ⟨w.heap.size + 1, 0, none⟩ = some (.bool wb) := (b12.cell (by simp; try omega)).trans (by go_simp)
    have c3 : w2.cell? ⟨w.heap.size + 1, 1, none⟩ = some (.string b) := (b12.cell (by simp; try omega)).trans (by go_simp)
    have c4 : w2.cell? ⟨w.heap.size + 2, 0, none⟩ = some (.bool wc) := (b12.cell (by simp; try omega)).trans (by go_simp)
    have c5 : w2.cell? ⟨w.heap.size + 2, 1, none⟩ = some (.string c) := (b12.cell (by simp; try omega)).trans (by go_simp)
    clear b1 b2 b12
    go_wp2_with fail
    have HC : Hid (∀ w', Below w2.heap.size w2 w' → w'.cell? ⟨w.heap.size, 0, none⟩ = some (.bool wa) ∧ w'.cell? ⟨w.heap.size, 1, none⟩ = some (.string a) ∧ w'.cell? ⟨w.heap.size + 1, 0, none⟩ = some (.bool wb) ∧ w'.cell? ⟨w.heap.size + 1, 1, none⟩ = some (.string b) ∧ w'.cell? ⟨w.heap.size + 2, 0, none⟩ = some (.bool wc) ∧ w'.cell? ⟨w.heap.size + 2, 1, none⟩ = some (.string c)) := by
      intro w' hb
      refine ⟨?_, ?_, ?_, ?_, ?_, ?_⟩ <;> exact (hb.cell (World.block_lt_of_cell? _ _ (by assumption))).trans (by assumption)
    clear c0 c1 c2 c3 c4 c5
    refine wp_region_seq [(true, 0), (true, 1), (true, 3), (true, 4), (false, 2), (false, 5), (true, 6), (true, 7), (true, 8), (true, 9), (true, 11), (true, 12), (false, 10), (false, 13), (true, 14), (true, 15), (true, 16), (true, 17), (true, 18), (false, 19), (true, 20), (true, 21), (true, 22), (false, 23), (true, 24), (true, 25), (true, 26)] (fun w' => Below w2.heap.size w2 w') (by kernel_rfl) (by kernel_rfl) (fun _ _ _ _ _ h => h) (by kernel_rfl) (by kernel_rfl) (by first | exact (Below.refl _ _).drew | exact Below.drew (by assumption)) ?_
    have bS : Below w2.heap.size w2 _ := (by first | exact (Below.refl _ w2).drew | exact Below.drew (by assumption))
    iterate 27 (first
      | (apply seqH_skip; (focus (simp only [List.getElem?_toArray, List.getElem?_cons_succ, List.getElem?_cons_zero]; rfl)); (focus rfl); simp only [Act.put, List.setIfInBounds_toArray, List.set_cons_zero, List.set_cons_succ])
      | (apply seqH_take; (focus (simp only [List.getElem?_toArray, List.getElem?_cons_succ, List.getElem?_cons_zero]; rfl)); (focus rfl); (focus (intro w' hS; obtain ⟨c0, c1, c2, c3, c4, c5⟩ := HC.out _ hS; go_simp; try rfl)); simp only [Act.put, List.setIfInBounds_toArray, List.set_cons_zero, List.set_cons_succ])
      | (apply seqH_pass; (focus (simp only [List.getElem?_toArray, List.getElem?_cons_succ, List.getElem?_cons_zero]; rfl)); (focus rfl); (focus assumption); simp only [Act.put, List.setIfInBounds_toArray, List.set_cons_zero, List.set_cons_succ])
      | (apply seqH_eff; (focus (simp only [List.getElem?_toArray, List.getElem?_cons_succ, List.getElem?_cons_zero]; rfl)); (focus rfl); intro K hK; go_simp; (first | (go_at_call 14; (first | (with_reducible refine (Wab.out _).mono ?_) | (with_reducible refine (Wba.out _).mono ?_) | (with_reducible refine (Wbc.out _).mono ?_) | (with_reducible refine (Wac.out _).mono ?_) | (with_reducible refine (Waa.out _).mono ?_))) | (go_at_call 15; (first | (with_reducible refine (Sab.out _).mono ?_) | (with_reducible refine (Sba.out _).mono ?_) | (with_reducible refine (Sbc.out _).mono ?_) | (with_reducible refine (Sac.out _).mono ?_) | (with_reducible refine (Saa.out _).mono ?_)))); rintro e wN ⟨rfl, bN⟩; refine hK _ _ (seq_next (by assumption) bN (fun bS' => ?_)); clear hK K))
    refine seqH_nil ?_
    go_wp2_with fail
    refine wp_region_seq [(true, 0), (true, 1), (false, 2), (true, 3), (true, 4), (true, 5), (true, 6), (false, 7), (true, 8), (true, 9), (true, 10), (true, 11), (true, 12), (false, 13), (true, 14), (true, 15), (true, 16), (true, 17), (false, 18), (true, 19), (true, 20), (true, 21), (true, 22), (false, 23), (true, 24), (true, 25), (true, 26), (true, 27), (true, 28), (false, 29), (true, 30), (true, 31), (true, 32), (true, 33), (true, 34), (false, 35), (true, 36), (true, 37), (true, 38), (true, 39), (true, 41), (true, 42), (true, 43), (false, 40), (true, 44), (true, 45), (true, 46)] (fun w' => Below w2.heap.size w2 w') (by kernel_rfl) (by kernel_rfl) (fun _ _ _ _ _ h => h) (by kernel_rfl) (by kernel_rfl) (Below.drew (by assumption)) ?_
    have bT : Below w2.heap.size w2 _ := Below.drew (by assumption)
    iterate 47 (first
      | (apply seqH_skip; (focus (simp only [List.getElem?_toArray, List.getElem?_cons_succ, List.getElem?_cons_zero]; rfl)); (focus rfl); simp only [Act.put, List.setIfInBounds_toArray, List.set_cons_zero, List.set_cons_succ])
      | (apply seqH_take; (focus (simp only [List.getElem?_toArray, List.getElem?_cons_succ, List.getElem?_cons_zero]; rfl)); (focus rfl); (focus (intro w' hS; obtain ⟨c0, c1, c2, c3, c4, c5⟩ := HC.out _ hS; go_simp; try rfl)); simp only [Act.put, List.setIfInBounds_toArray, List.set_cons_zero, List.set_cons_succ])
      | (apply seqH_pass; (focus (simp only [List.getElem?_toArray, List.getElem?_cons_succ, List.getElem?_cons_zero]; rfl)); (focus rfl); (focus assumption); simp only [Act.put, List.setIfInBounds_toArray, List.set_cons_zero, List.set_cons_succ])
      | (apply seqH_eff; (focus (simp only [List.getElem?_toArray, List.getElem?_cons_succ, List.getElem?_cons_zero]; rfl)); (focus rfl); intro K hK; go_simp; (first | (go_at_call 14; (first | (with_reducible refine (Wab.out _).mono ?_) | (with_reducible refine (Wba.out _).mono ?_) | (with_reducible refine (Wbc.out _).mono ?_) | (with_reducible refine (Wac.out _).mono ?_) | (with_reducible refine (Waa.out _).mono ?_))) | (go_at_call 15; (first | (with_reducible refine (Sab.out _).mono ?_) | (with_reducible refine (Sba.out _).mono ?_) | (with_reducible refine (Sbc.out _).mono ?_) | (with_reducible refine (Sac.out _).mono ?_) | (with_reducible refine (Saa.out _).mono ?_)))); rintro e wN ⟨rfl, bN⟩; refine hK _ _ (seq_next (by assumption) bN (fun bS' => ?_)); clear hK K))
    refine seqH_nil ?_
    go_wp2_with fail
    go_ret
    exact ⟨ret_bool (by simp), bb.trans (Below.mono (by assumption) bb.size)⟩

theorem tagOrder_walk (wa : Bool) (a : ByteArray) (wb : Bool) (b : ByteArray) (wc : Bool) (c : ByteArray) (w : World) :
    Calls Try.prog 3 #[.agg #[.bool wa, .string a], .agg #[.bool wb, .string b], .agg #[.bool wc, .string c]] w fun e w' => e = .returned (.bool true) ∧ Below w.heap.size w w' := by
  have sy : ∀ x y : ByteArray, (y.toList == x.toList) = (x.toList == y.toList) := fun x y => by rw [Bool.eq_iff_iff]; simp only [beq_iff_eq]; exact eq_comm
  refine tagOrder_core wa wb wc a b c _ _ _ _ _ _ w rfl (sy a b) rfl rfl rfl (by rw [sy a b, Bool.and_comm (!wb)]) rfl rfl ?_
  have tr : (a.toList == b.toList) = true → (b.toList == c.toList) = (a.toList == c.toList) := fun h => by rw [beq_iff_eq] at h; rw [h]
  cases hp : (a.toList == b.toList)
  · simp
  · have := tr hp
    cases hq : (b.toList == c.toList) <;> rw [hq] at this <;> rw [← this] <;> cases wa <;> cases wb <;> cases wc <;> simp
end Go.Proofs.Ytpoaffhhkmochaa
