/- Where the pieces of a text end (the law's edges); Eq over lists of numbers. -/
import Derived.Test.YtnobcehiahcfkaaCkW
namespace Go.Proofs.Ytnobcehiahcfkaa
set_option maxRecDepth 20000
open Go.RowKit Go.Shelf
theorem i64_small {x : Int} (h0 : -9223372036854775808 ≤ x) (h1 : x ≤ 9223372036854775807) : IntKind.i64.wrap x = x := by
  rw [IntKind.wrap_i64]
  omega
/-- A number as one cell. -/
def en (n : Nat) : List Value := [.int .i64 (n : Int)]
theorem en_map (l : List Nat) : l.flatMap en = l.map (fun n : Nat => Value.int .i64 (n : Int)) := by induction l <;> simp_all [en]
theorem en_one (l : List Nat) : ∀ u ∈ l.flatMap en, u.oneCell' = true := by rw [en_map]; simp [Value.oneCell']
theorem intInfo : ElemInfo Try.prog 3 (.int .i64 0) 1 8 := by unfold ElemInfo; kernel_rfl
/-- A slice of numbers that has an element: its cells. -/
theorem SlR.nums {w : World} {v : Value} {xs : List Nat} (h : SlR w en v xs) (hn : 0 < xs.length) :
    ∃ b off c, v = .slice (some ⟨b, off, none⟩) xs.length c ∧ xs.length ≤ c ∧ b < w.heap.size ∧ ∀ j (hj : j < xs.length), w.cell? ⟨b, off + j, none⟩ = some (.int .i64 ((xs[j] : Nat) : Int)) := by
  obtain ⟨A, c, hv, hc, hx⟩ := h
  obtain ⟨b, off, rfl, hb, hcell⟩ := hx hn
  exact ⟨b, off, c, hv, hc, hb, fun j hj => hcell j _ (by rw [en_map]; simp [hj])⟩
set_option maxHeartbeats 1000000 in
theorem edges_any (s : ByteArray) (w : World) (hs : s.size ≤ 140737488355328) :
    Calls Try.prog 15 #[.string s] w fun e w' => ∃ v, e = .returned v ∧ Owns w' w.heap.size 3 1 en v (Pc.ed gear (sl s)) ∧ Below w.heap.size w w' := by
  have HN := Lib.hid (cut_count (sl s) (by rw [sl_len]; exact hs))
  have HF := Lib.hid (congrArg List.length (Pc.cut_flat gear (sl s)))
  have HE : Hid (Pc.ed gear (sl s) = Pc.edges 0 (Pc.cut gear (sl s))) := rfl
  go_enter Try.func15, Try.ntmps15
  go_wp2_with fail
  refine (cut_any s w hs).mono ?_
  rintro e w1 ⟨v, rfl, ho, b1⟩
  generalize Pc.cut gear (sl s) = C at *
  have hml : (C.map mkS).length = C.length := List.length_map ..
  have hr := SlR.of_owns ho
  have HR := Lib.hid hr
  obtain ⟨A, c, hv, -, -⟩ := hr
  rw [hml] at hv
  subst hv
  clear ho
  have hcn : C.length ≤ 8796093022208 := by have := HN.out; omega
  go_wp2_with fail
  go_loopw [3, 4, 10] (fun o n i wr => ∃ k : Nat, i = .int .i64 k ∧ k ≤ C.length ∧ n = .int .i64 (((C.take k).flatten.length : Nat) : Int) ∧ Owns wr w1.heap.size 3 1 en o (Pc.edges 0 (C.take k)) ∧ Below w1.heap.size w1 wr) (fun _ _ i _ => C.length - (intOf i).toNat)
  case atStart => exact ⟨0, rfl, Nat.zero_le _, rfl, Owns.nil .., Below.refl _ _⟩
  case round =>
    obtain ⟨k, rfl, hk, rfl, hoo, hbe1⟩ := hrel
    by_cases hlt : k < C.length
    · obtain ⟨b, off, c2, hv, hc2, hb, hcell⟩ := HR.out.texts (by omega)
      injection hv with h1 h2 h3
      subst h1 h3
      have c0 := (hbe1.cell (p := ⟨b, off + k, none⟩) hb).trans (hcell k (by rw [hml]; exact hlt))
      rw [List.getElem_map] at c0
      have HTF : Hid ((C.take (k + 1)).flatten.length = (C.take k).flatten.length + C[k].length) := by
        show _ = _
        rw [List.take_add_one, List.getElem?_eq_getElem hlt, Option.toList_some, List.flatten_append, List.length_append]
        simp
      have HES : Hid (Pc.edges 0 (C.take (k + 1)) = Pc.edges 0 (C.take k) ++ [(C.take k).flatten.length + C[k].length]) := by
        show _ = _
        rw [List.take_add_one, List.getElem?_eq_getElem hlt, Option.toList_some, Pc.edges_snoc]
      have HFL : Hid ((C.take (k + 1)).flatten.length ≤ s.size) := by
        show _ ≤ _
        have h1 := HF.out
        rw [sl_len, ← List.take_append_drop (k + 1) C, List.flatten_append, List.length_append] at h1
        omega
      have hel : (Pc.edges 0 (C.take k)).length = k := by rw [Pc.edges_len, List.length_take]; omega
      have hadd : (C.take k).flatten.length + C[k].length ≤ 140737488355328 := by rw [← HTF.out]; exact Nat.le_trans HFL.out hs
      have hpz : (mkS C[k]).size = C[k].length := rfl
      clear hcell h2 hc2
      generalize C[k] = p at *
      generalize (C.take k).flatten.length = L at *
      generalize Pc.edges 0 (C.take k) = es0 at *
      have hfm : [L + p.length].flatMap en = [.int .i64 ((L : Int) + (p.length : Int))] := by simp [en]
      have HOO := Lib.hid hoo
      have hb12 := Nat.le_refl wr.heap.size
      clear hoo hml
      go_wp2_with (at_builtin; go_must (refine wpList_append_owns rfl (.tmp 18) (.tmp 20) _ rfl w1.heap.size 3 (.int .i64 0) 1 8 en Try.underlying22 intInfo rfl (by decide) _ es0 rfl (HOO.out.alloc _) ⟨wr.heap.size, 0, none⟩ 1 1 [L + p.length] rfl rfl rfl (by rw [hfm]; exact new_cells _ [.int .i64 ((L : Int) + (p.length : Int))] _) (en_one _) (by simp only [maxLen, hel]; omega) (by rw [hel]; omega) (bel_size hbe1 (Nat.le_refl _) _) ?_); intro v3 w3 hown3 hg3)
      go_roundw
      case rel =>
        exact ⟨k + 1, by go_num, hlt, by rw [HTF.out]; go_num, by rw [HES.out]; exact hown3, bel_append hbe1 (Nat.le_refl _) HOO.out hg3⟩
      case measure => exact meas_lt hlt
    · have hE : C.take k = C := List.take_of_length_le (by omega)
      rw [hE] at hoo
      go_wp2_with fail
      go_ret
      exact ⟨_, rfl, by rw [HE.out]; exact hoo.mono b1.size, b1.trans (hbe1.mono b1.size)⟩
theorem ed_len (s : List UInt8) (h : s.length ≤ 140737488355328) : (Pc.ed gear s).length ≤ 140737488351232 := by
  have := cut_count s h
  rw [Pc.ed, Pc.edges_len]
  omega
theorem ed_le (s : List UInt8) {i q : Nat} (h : (Pc.ed gear s)[i]? = some q) : q ≤ s.length := by
  rw [Pc.ed_E] at h
  have := (Pc.E_drop gear _ _ _ _ _ _ h).2.1
  omega
/-! ### Eq over numbers. -/
set_option maxHeartbeats 800000 in
theorem eqNat_any (v1 v2 : Value) (xs ys : List Nat) (w : World) (h1 : SlR w en v1 xs) (h2 : SlR w en v2 ys) (hx : xs.length ≤ 140737488351232) (hy : ys.length ≤ 140737488351232) :
    Calls Try.prog 17 #[v1, v2] w fun e w' => e = .returned (.bool (decide (xs = ys))) ∧ w = w' := by
  obtain ⟨A, c, rfl, hc, hA⟩ := h1
  obtain ⟨B, d, rfl, hd, hB⟩ := h2
  by_cases hl : xs.length = ys.length
  · have hL := Lib.hid hl
    have hb : (((xs.length : Nat) : Int) != ((ys.length : Nat) : Int)) = false := by simp [hl]
    clear hl
    go_enter Try.func17, Try.ntmps17
    go_wp2_with fail
    go_loop [14] (fun i => ∃ k : Nat, k ≤ xs.length ∧ i = .int .i64 k ∧ xs.take k = ys.take k) (fun i => xs.length - (intOf i).toNat)
    case atStart => exact ⟨0, by omega, rfl, rfl⟩
    case round =>
      obtain ⟨k, hk, rfl, hEq⟩ := hrel
      have HE := Lib.hid hEq
      clear hEq
      by_cases hlt : k < xs.length
      · have hlt' : k < ys.length := by rw [← hL.out]; exact hlt
        obtain ⟨b1, o1, rfl, hb1, hc1⟩ := hA (by omega)
        obtain ⟨b2, o2, rfl, hb2, hc2⟩ := hB (by omega)
        have c1 := hc1 k (.int .i64 (xs[k] : Nat)) (by rw [en_map]; simp [hlt])
        have c2 := hc2 k (.int .i64 (ys[k] : Nat)) (by rw [en_map]; simp [hlt'])
        clear hA hB hc1 hc2
        by_cases hxy : xs[k] = ys[k]
        · have ht : (((xs[k] : Nat) : Int) != ((ys[k] : Nat) : Int)) = false := by rw [hxy]; simp
          have HS : Hid (xs.take (k + 1) = ys.take (k + 1)) := by
            show _ = _
            rw [List.take_add_one, List.take_add_one, HE.out, List.getElem?_eq_getElem hlt, List.getElem?_eq_getElem hlt', hxy]
          have hxy' := hxy
          clear hxy
          go_wp2_with fail
          go_round
          case rel => exact ⟨k + 1, by omega, by go_num, HS.out⟩
          case measure => simp [intOf]; omega
        · have ht : (((xs[k] : Nat) : Int) != ((ys[k] : Nat) : Int)) = true := by rw [bne_iff_ne]; omega
          have HF : Hid (decide (xs = ys) = false) := by
            show _ = _
            rw [decide_eq_false_iff_not]; rintro rfl; exact hxy rfl
          go_wp2_with fail
          go_ret
          exact ⟨ret_bool HF.out.symm, rfl⟩
      · have HF : Hid (decide (xs = ys) = true) := by
          show _ = _
          rw [decide_eq_true_iff]
          have := HE.out
          rw [List.take_of_length_le (by omega), List.take_of_length_le (by rw [← hL.out]; omega)] at this
          exact this
        go_wp2_with fail
        go_ret
        exact ⟨ret_bool HF.out.symm, rfl⟩
  · have hb : (((xs.length : Nat) : Int) != ((ys.length : Nat) : Int)) = true := by simp; omega
    have HF : Hid (decide (xs = ys) = false) := by
      show _ = _
      rw [decide_eq_false_iff_not]; intro h; rw [h] at hl; exact hl rfl
    clear hl
    go_enter Try.func17, Try.ntmps17
    go_wp2_with fail
    go_ret
    exact ⟨ret_bool HF.out.symm, rfl⟩
end Go.Proofs.Ytnobcehiahcfkaa
