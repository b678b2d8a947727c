/- The laws DateNext, DateCycle, DateOrder, DateDay: their Go texts return true, and nothing that was there has turned. -/
import Derived.Test.YtopmpkgopaenbaaDateWalks
namespace Go.Proofs.Ytopmpkgopaenbaa
open Go.RowKit

set_option maxHeartbeats 400000 in
theorem dateNext_walk (n : Int) (w : World) (_ : (Lit.int .i64 n).wf = true) :
    Calls Try.prog 3 #[.int .i64 n] w fun e w' => e = .returned (.bool true) ∧ Below w.heap.size w w' := by
  have b0 : 0 ≤ n % 2932896 := by omega
  have b1 : n % 2932896 < 2932896 := by omega
  have R0 := Lib.hid (fun w => rest_any n 2932896 w (by omega) (by omega))
  generalize n % 2932896 = N at b0 b1 R0
  have C1 : ∀ w, Calls Try.prog 8 #[.int .i64 N] w fun e w' => e = .returned (.tuple #[.int .i64 (Cal.cy N), .int .i64 (Cal.cm N), .int .i64 (Cal.cd N), .int .i64 0]) ∧ w = w' := fun w => civil_ok N w b0 (by omega)
  have C2 : ∀ w, Calls Try.prog 8 #[.int .i64 (N + 1)] w fun e w' => e = .returned (.tuple #[.int .i64 (Cal.cy (N + 1)), .int .i64 (Cal.cm (N + 1)), .int .i64 (Cal.cd (N + 1)), .int .i64 0]) ∧ w = w' := fun w => civil_ok (N + 1) w (by omega) (by omega)
  have hc := Cal.civ_next N b0 b1
  have v := (Cal.civ_ok N b0 (by omega)).1
  obtain ⟨a1, a2, a3, a4, a5, a6⟩ := (Cal.vld_iff _ _ _).1 v
  have bb := Cal.mdays_bd (Cal.cy N) (Cal.cm N)
  generalize Cal.mdays (Cal.cy N) (Cal.cm N) = md at a6 bb
  clear v
  generalize Cal.cy N = y at *
  generalize Cal.cm N = m at *
  generalize Cal.cd N = d at *
  generalize Cal.cy (N + 1) = z at *
  generalize Cal.cm (N + 1) = k at *
  generalize Cal.cd (N + 1) = c at *
  rcases hc with ⟨rfl, rfl, rfl, h31⟩ | ⟨rfl, rfl, rfl, h28, h31⟩ | ⟨rfl, rfl, rfl, rfl, h28, h31⟩
  all_goals
    have D1 := Lib.hid C1
    have D2 := Lib.hid C2
    clear C1 C2
    go_enter Try.func3, Try.ntmps3
    go_wp2_with fail
    refine (R0.out _).mono ?_; rintro e w' ⟨rfl, rfl⟩
    go_wp2_with fail
    refine (D1.out _).mono ?_; rintro e w' ⟨rfl, rfl⟩
    go_wp2_with fail
    refine (D2.out _).mono ?_; rintro e w' ⟨rfl, rfl⟩
    go_wp2_with fail
    go_ret
    exact ⟨rfl, Below.refl _ _⟩

theorem v13 : Cal.vld 1970 13 1 = false := by decide

/-- Three calls of Days, whatever they answer. -/
theorem vld_no {y m d : Int} (h : ¬ Cal.vld y m d = true) : Cal.vld y m d = false := by simpa using h

set_option maxHeartbeats 800000 in
theorem dateCycle_walk (y m d : Int) (w : World) (wy : (Lit.int .i64 y).wf = true) (_ : (Lit.int .i64 m).wf = true) (_ : (Lit.int .i64 d).wf = true) :
    Calls Try.prog 4 #[.int .i64 y, .int .i64 m, .int .i64 d] w fun e w' => e = .returned (.bool true) ∧ Below w.heap.size w w' := by
  have by' : -9223372036854775808 ≤ y ∧ y ≤ 9223372036854775807 := bounds_i64 wy
  clear wy
  have D3 := Lib.hid (fun w => days_no 1970 13 1 w v13)
  have cm := Cal.vld_cycle y m
  have ck := Cal.num_cycle y m d
  by_cases h1 : Cal.vld y m d = true
  · obtain ⟨x1, x2, x3, x4, x5, x6⟩ := (Cal.vld_iff _ _ _).1 h1
    have D1 := Lib.hid (fun w => days_ok y m d w h1)
    by_cases h2 : Cal.vld (y + 400) m d = true
    · have D2 := Lib.hid (fun w => days_ok (y + 400) m d w h2)
      rw [ck] at D2
      have b := Cal.num_range y m d h1
      generalize Cal.num y m d = N at *
      clear h1 h2 cm ck x6
      go_enter Try.func4, Try.ntmps4
      go_wp2_with fail
      refine (D1.out _).mono ?_; rintro e w' ⟨rfl, rfl⟩
      go_wp2_with fail
      refine (D2.out _).mono ?_; rintro e w' ⟨rfl, rfl⟩
      go_wp2_with fail
      refine (D3.out _).mono ?_; rintro e w' ⟨rfl, rfl⟩
      go_wp2_with fail
      go_ret
      exact ⟨rfl, Below.refl _ _⟩
    · have D2 := Lib.hid (fun w => days_no (y + 400) m d w (vld_no h2))
      have hy : 9599 < y := by
        by_cases c : 9599 < y
        · exact c
        · exact absurd ((Cal.vld_iff _ _ _).2 ⟨by omega, by omega, x3, x4, x5, by omega⟩) h2
      clear h1 h2 cm ck x6
      go_enter Try.func4, Try.ntmps4
      go_wp2_with fail
      refine (D1.out _).mono ?_; rintro e w' ⟨rfl, rfl⟩
      go_wp2_with fail
      refine (D2.out _).mono ?_; rintro e w' ⟨rfl, rfl⟩
      go_wp2_with fail
      refine (D3.out _).mono ?_; rintro e w' ⟨rfl, rfl⟩
      go_wp2_with fail
      go_ret
      exact ⟨rfl, Below.refl _ _⟩
  · have D1 := Lib.hid (fun w => days_no y m d w (vld_no h1))
    by_cases hw : 9223372036854775407 < y
    · have hv : Cal.vld (wrap64 (y + 400)) m d = false := by
        refine vld_no fun h => ?_
        have := (Cal.vld_iff _ _ _).1 h
        unfold wrap64 at this; omega
      have D2 := Lib.hid (fun w => days_no (wrap64 (y + 400)) m d w hv)
      clear h1 cm ck hv
      go_enter Try.func4, Try.ntmps4
      go_wp2_with fail
      refine (D1.out _).mono ?_; rintro e w' ⟨rfl, rfl⟩
      go_wp2_with fail
      refine (D2.out _).mono ?_; rintro e w' ⟨rfl, rfl⟩
      go_wp2_with fail
      refine (D3.out _).mono ?_; rintro e w' ⟨rfl, rfl⟩
      go_wp2_with fail
      go_ret
      exact ⟨rfl, Below.refl _ _⟩
    · by_cases h2 : Cal.vld (y + 400) m d = true
      · have D2 := Lib.hid (fun w => days_ok (y + 400) m d w h2)
        obtain ⟨x1, x2, x3, x4, x5, x6⟩ := (Cal.vld_iff _ _ _).1 h2
        have hy : y < 1970 := by
          by_cases c : y < 1970
          · exact c
          · exact absurd ((Cal.vld_iff _ _ _).2 ⟨by omega, by omega, x3, x4, x5, by omega⟩) h1
        generalize Cal.num (y + 400) m d = N at *
        clear h1 h2 cm ck x6
        go_enter Try.func4, Try.ntmps4
        go_wp2_with fail
        refine (D1.out _).mono ?_; rintro e w' ⟨rfl, rfl⟩
        go_wp2_with fail
        refine (D2.out _).mono ?_; rintro e w' ⟨rfl, rfl⟩
        go_wp2_with fail
        refine (D3.out _).mono ?_; rintro e w' ⟨rfl, rfl⟩
        go_wp2_with fail
        go_ret
        exact ⟨rfl, Below.refl _ _⟩
      · have D2 := Lib.hid (fun w => days_no (y + 400) m d w (vld_no h2))
        clear h1 h2 cm ck
        go_enter Try.func4, Try.ntmps4
        go_wp2_with fail
        refine (D1.out _).mono ?_; rintro e w' ⟨rfl, rfl⟩
        go_wp2_with fail
        refine (D2.out _).mono ?_; rintro e w' ⟨rfl, rfl⟩
        go_wp2_with fail
        refine (D3.out _).mono ?_; rintro e w' ⟨rfl, rfl⟩
        go_wp2_with fail
        go_ret
        exact ⟨rfl, Below.refl _ _⟩

set_option maxHeartbeats 800000 in
theorem dateOrder_walk (y m d z k c : Int) (w : World) (_ : (Lit.int .i64 y).wf = true) (_ : (Lit.int .i64 m).wf = true) (_ : (Lit.int .i64 d).wf = true) (_ : (Lit.int .i64 z).wf = true) (_ : (Lit.int .i64 k).wf = true) (_ : (Lit.int .i64 c).wf = true) :
    Calls Try.prog 5 #[.int .i64 y, .int .i64 m, .int .i64 d, .int .i64 z, .int .i64 k, .int .i64 c] w fun e w' => e = .returned (.bool true) ∧ Below w.heap.size w w' := by
  have D3 := Lib.hid (fun w => days_no 1970 13 1 w v13)
  by_cases h1 : Cal.vld y m d = true
  · have D1 := Lib.hid (fun w => days_ok y m d w h1)
    by_cases h2 : Cal.vld z k c = true
    · have D2 := Lib.hid (fun w => days_ok z k c w h2)
      have li := Cal.num_lt_iff h1 h2
      have gi := Cal.num_lt_iff h2 h1
      generalize Cal.num y m d = N at *
      generalize Cal.num z k c = M at *
      unfold Cal.ahead at li gi
      clear h1 h2
      have cs : (N < M ∧ y < z) ∨ (N < M ∧ y = z ∧ m < k) ∨ (N < M ∧ y = z ∧ m = k ∧ d < c) ∨ (M ≤ N ∧ z < y) ∨ (M ≤ N ∧ y = z ∧ k < m) ∨ (M ≤ N ∧ y = z ∧ m = k ∧ c ≤ d) := by omega
      clear li gi
      rcases cs with ⟨i1, i2⟩ | ⟨i1, rfl, i2⟩ | ⟨i1, rfl, rfl, i2⟩ | ⟨i1, i2⟩ | ⟨i1, rfl, i2⟩ | ⟨i1, rfl, rfl, i2⟩
      all_goals
        go_enter Try.func5, Try.ntmps5
        go_wp2_with fail
        refine (D1.out _).mono ?_; rintro e w' ⟨rfl, rfl⟩
        go_wp2_with fail
        refine (D2.out _).mono ?_; rintro e w' ⟨rfl, rfl⟩
        go_wp2_with fail
        refine (D3.out _).mono ?_; rintro e w' ⟨rfl, rfl⟩
        go_wp2_with fail
        go_ret
        exact ⟨ret_bool (by simp <;> omega), Below.refl _ _⟩
    · have D2 := Lib.hid (fun w => days_no z k c w (vld_no h2))
      generalize Cal.num y m d = N at *
      clear h1 h2
      go_enter Try.func5, Try.ntmps5
      go_wp2_with fail
      refine (D1.out _).mono ?_; rintro e w' ⟨rfl, rfl⟩
      go_wp2_with fail
      refine (D2.out _).mono ?_; rintro e w' ⟨rfl, rfl⟩
      go_wp2_with fail
      refine (D3.out _).mono ?_; rintro e w' ⟨rfl, rfl⟩
      go_wp2_with fail
      go_ret
      exact ⟨rfl, Below.refl _ _⟩
  · have D1 := Lib.hid (fun w => days_no y m d w (vld_no h1))
    by_cases h2 : Cal.vld z k c = true
    · have D2 := Lib.hid (fun w => days_ok z k c w h2)
      generalize Cal.num z k c = N at *
      clear h1 h2
      go_enter Try.func5, Try.ntmps5
      go_wp2_with fail
      refine (D1.out _).mono ?_; rintro e w' ⟨rfl, rfl⟩
      go_wp2_with fail
      refine (D2.out _).mono ?_; rintro e w' ⟨rfl, rfl⟩
      go_wp2_with fail
      refine (D3.out _).mono ?_; rintro e w' ⟨rfl, rfl⟩
      go_wp2_with fail
      go_ret
      exact ⟨rfl, Below.refl _ _⟩
    · have D2 := Lib.hid (fun w => days_no z k c w (vld_no h2))
      clear h1 h2
      go_enter Try.func5, Try.ntmps5
      go_wp2_with fail
      refine (D1.out _).mono ?_; rintro e w' ⟨rfl, rfl⟩
      go_wp2_with fail
      refine (D2.out _).mono ?_; rintro e w' ⟨rfl, rfl⟩
      go_wp2_with fail
      refine (D3.out _).mono ?_; rintro e w' ⟨rfl, rfl⟩
      go_wp2_with fail
      go_ret
      exact ⟨rfl, Below.refl _ _⟩

set_option maxHeartbeats 800000 in
theorem dateDay_walk (n y m d : Int) (w : World) (_ : (Lit.int .i64 n).wf = true) (_ : (Lit.int .i64 y).wf = true) (_ : (Lit.int .i64 m).wf = true) (_ : (Lit.int .i64 d).wf = true) :
    Calls Try.prog 6 #[.int .i64 n, .int .i64 y, .int .i64 m, .int .i64 d] w fun e w' => e = .returned (.bool true) ∧ Below w.heap.size w w' := by
  have hcs : (0 ≤ n ∧ n ≤ 2932896) ∨ n < 0 ∨ 2932896 < n := by omega
  by_cases h1 : Cal.vld y m d = true
  · have D1 := Lib.hid (fun w => days_ok y m d w h1)
    have r := Cal.num_range y m d h1
    have D2 := Lib.hid (fun w => civil_ok (Cal.num y m d) w r.1 r.2)
    obtain ⟨e1, e2, e3⟩ := Cal.civ_num h1
    rw [e1, e2, e3] at D2
    generalize Cal.num y m d = N at *
    clear h1 e1 e2 e3
    rcases hcs with ⟨h0, h2⟩ | h0 | h0
    · have D0 := Lib.hid (fun w => civil_ok n w h0 h2)
      obtain ⟨v, e⟩ := Cal.civ_ok n h0 h2
      have D4 := Lib.hid (fun w => days_ok _ _ _ w v)
      rw [e] at D4
      clear v e
      generalize Cal.cy n = cy at *
      generalize Cal.cm n = cm at *
      generalize Cal.cd n = cd at *
      go_enter Try.func6, Try.ntmps6
      go_wp2_with fail
      refine (D0.out _).mono ?_; rintro e w' ⟨rfl, rfl⟩
      go_wp2_with fail
      refine (D1.out _).mono ?_; rintro e w' ⟨rfl, rfl⟩
      go_wp2_with fail
      refine (D2.out _).mono ?_; rintro e w' ⟨rfl, rfl⟩
      go_wp2_with fail
      refine (D4.out _).mono ?_; rintro e w' ⟨rfl, rfl⟩
      go_wp2_with fail
      go_ret
      exact ⟨rfl, Below.refl _ _⟩
    all_goals
      have D0 := Lib.hid (fun w => civil_no n w (by omega))
      go_enter Try.func6, Try.ntmps6
      go_wp2_with fail
      refine (D0.out _).mono ?_; rintro e w' ⟨rfl, rfl⟩
      go_wp2_with fail
      refine (D1.out _).mono ?_; rintro e w' ⟨rfl, rfl⟩
      go_wp2_with fail
      refine (D2.out _).mono ?_; rintro e w' ⟨rfl, rfl⟩
      go_wp2_with fail
      go_ret
      exact ⟨ret_bool (by simp <;> omega), Below.refl _ _⟩
  · have D1 := Lib.hid (fun w => days_no y m d w (vld_no h1))
    clear h1
    rcases hcs with ⟨h0, h2⟩ | h0 | h0
    · have D0 := Lib.hid (fun w => civil_ok n w h0 h2)
      obtain ⟨v, e⟩ := Cal.civ_ok n h0 h2
      have D4 := Lib.hid (fun w => days_ok _ _ _ w v)
      rw [e] at D4
      clear v e
      generalize Cal.cy n = cy at *
      generalize Cal.cm n = cm at *
      generalize Cal.cd n = cd at *
      go_enter Try.func6, Try.ntmps6
      go_wp2_with fail
      refine (D0.out _).mono ?_; rintro e w' ⟨rfl, rfl⟩
      go_wp2_with fail
      refine (D1.out _).mono ?_; rintro e w' ⟨rfl, rfl⟩
      go_wp2_with fail
      refine (D4.out _).mono ?_; rintro e w' ⟨rfl, rfl⟩
      go_wp2_with fail
      go_ret
      exact ⟨rfl, Below.refl _ _⟩
    all_goals
      have D0 := Lib.hid (fun w => civil_no n w (by omega))
      go_enter Try.func6, Try.ntmps6
      go_wp2_with fail
      refine (D0.out _).mono ?_; rintro e w' ⟨rfl, rfl⟩
      go_wp2_with fail
      refine (D1.out _).mono ?_; rintro e w' ⟨rfl, rfl⟩
      go_wp2_with fail
      go_ret
      exact ⟨ret_bool (by simp <;> omega), Below.refl _ _⟩
end Go.Proofs.Ytopmpkgopaenbaa
