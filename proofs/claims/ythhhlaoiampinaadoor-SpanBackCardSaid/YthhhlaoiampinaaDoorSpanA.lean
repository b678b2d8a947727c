/- What span's isNumber, isWant, check and Resolve compute. -/
import Derived.Test.YthhhlaoiampinaaDoorChecked
import Derived.Test.YthhhlaoiampinaaDoorBase
import Derived.Test.YthhhlaoiampinaaDoorRows2
namespace Go.Proofs.YthhhlaoiampinaaDoor
open Go.RowKit
namespace Spn
def numB (n : Int) : Bool := decide (0 ≤ n) && decide (n ≤ 99999)
def wantB (d : Int × Int) : Bool := if d.1 == -1 then numB d.2 else if d.2 == -1 then numB d.1 else numB d.1 && numB d.2 && decide (d.1 ≤ d.2)
def res1 (size : Int) (d : Int × Int) : Int × Int := if d.1 < 0 then ((if 0 < size - d.2 then size - d.2 else 0), size) else if d.2 < 0 then (d.1, size) else (d.1, if size < d.2 + 1 then size else d.2 + 1)
def someB (d : Int × Int) : Bool := decide (d.1 < d.2)
def resL (l : List (Int × Int)) (size : Int) : List (Int × Int) := (l.map (res1 size)).filter someB
/-- What Resolve answers. -/
def resolve (l : List (Int × Int)) (size : Int) : Except Int (List (Int × Int)) :=
  if l = [] ∨ l.any (fun d => !wantB d) = true ∨ size < 0 then .error 1 else if 20 < l.length then .error 2 else if resL l size = [] then .error 11 else .ok (resL l size)
theorem numB_bounds {n : Int} (h : numB n = true) : 0 ≤ n ∧ n ≤ 99999 := by simpa [numB] using h
theorem wantB_bounds {d : Int × Int} (h : wantB d = true) : -1 ≤ d.1 ∧ d.1 ≤ 99999 ∧ -1 ≤ d.2 ∧ d.2 ≤ 99999 ∧ (d.1 < 0 → 0 ≤ d.2) := by
  unfold wantB at h
  split at h
  · rename_i h1; have := numB_bounds h; simp at h1; omega
  · split at h
    · rename_i h1 h2; have := numB_bounds h; simp at h2; omega
    · simp only [Bool.and_eq_true] at h
      have := numB_bounds h.1.1; have := numB_bounds h.1.2; omega
theorem resL_take {l : List (Int × Int)} {size : Int} {k : Nat} (hlt : k < l.length) : resL (l.take (k + 1)) size = resL (l.take k) size ++ (if someB (res1 size l[k]) then [res1 size l[k]] else []) := by
  unfold resL
  rw [List.take_add_one, List.getElem?_eq_getElem hlt, List.map_append, List.filter_append]
  simp only [Option.toList_some, List.map_cons, List.map_nil, List.filter_cons, List.filter_nil]
theorem resL_yes {l : List (Int × Int)} {size : Int} {k : Nat} {F T : Int} (hlt : k < l.length) (h1 : res1 size l[k] = (F, T)) (h2 : F < T) : resL (l.take (k + 1)) size = resL (l.take k) size ++ [(F, T)] := by
  rw [resL_take hlt, h1, if_pos (by simpa [someB] using h2)]
theorem resL_no {l : List (Int × Int)} {size : Int} {k : Nat} {F T : Int} (hlt : k < l.length) (h1 : res1 size l[k] = (F, T)) (h2 : ¬ F < T) : resL (l.take (k + 1)) size = resL (l.take k) size := by
  rw [resL_take hlt, h1, if_neg (by simpa [someB] using h2), List.append_nil]
end Spn

theorem isNumber_any (n : Int) (w : World) :
    Calls Tryd.prog 55 #[.int .i64 n] w fun e w' => e = .returned (.bool (Spn.numB n)) ∧ w = w' := by
  go_enter Tryd.func55, Tryd.ntmps55
  go_wp2
  all_goals
    go_ret
    exact ⟨ret_bool (by unfold Spn.numB; simp; try omega), rfl⟩

set_option maxHeartbeats 400000 in
theorem isWant_any (a b : Int) (w : World) :
    Calls Tryd.prog 40 #[.agg #[.int .i64 a, .int .i64 b]] w fun e w' => e = .returned (.bool (Spn.wantB (a, b))) ∧ Below w.heap.size w w' := by
  cases ha : (a == -1)
  · cases hb : (b == -1)
    · cases hn : Spn.numB a
      all_goals
        have HN := Lib.hid hn
        have H1 := Lib.hid (isNumber_any a)
        rw [hn] at H1
        clear hn
        go_enter Tryd.func40, Tryd.ntmps40
        go_wp2_with fail
        refine (H1.out _).mono ?_
        rintro e w' ⟨rfl, rfl⟩
        go_wp2_with (first | (refine (isNumber_any b _).mono ?_; rintro e w' ⟨rfl, rfl⟩))
        all_goals
          go_ret
          refine ⟨ret_bool ?_, by go_grown⟩
          unfold Spn.wantB
          simp only [ha, hb, HN.out, Bool.false_eq_true, if_false]
          simp_all
    · have HB := Lib.hid hb
      go_enter Tryd.func40, Tryd.ntmps40
      go_wp2_with fail
      refine (isNumber_any a _).mono ?_
      rintro e w' ⟨rfl, rfl⟩
      go_wp2_with fail
      go_ret
      exact ⟨ret_bool (by unfold Spn.wantB; simp only [ha, HB.out, Bool.false_eq_true, if_false, if_true]), by go_grown⟩
  · go_enter Tryd.func40, Tryd.ntmps40
    go_wp2_with fail
    refine (isNumber_any b _).mono ?_
    rintro e w' ⟨rfl, rfl⟩
    go_wp2_with fail
    go_ret
    exact ⟨ret_bool (by unfold Spn.wantB; simp only [ha, if_true]), by go_grown⟩

theorem check1_any (a b : Int) (w : World) :
    Calls Tryd.prog 39 #[.agg #[.int .i64 a, .int .i64 b]] w fun e w' => e = .returned (.bool (!Spn.wantB (a, b))) ∧ Below w.heap.size w w' := by
  go_enter Tryd.func39, Tryd.ntmps39
  go_wp2_with fail
  refine (isWant_any a b _).mono ?_
  rintro e w1 ⟨rfl, b1⟩
  go_wp2_with fail
  go_ret
  exact ⟨rfl, ((Below.refl _ _).alloc (Nat.le_refl _) _).trans (b1.mono (by simp))⟩
set_option maxHeartbeats 800000 in
theorem indexWant_any (v : Value) (l : List (Int × Int)) (w : World) (h : SlR w e_ii v l) (hl : l.length ≤ 140737488351232) :
    Calls Tryd.prog 56 #[v, .func (.func 39) #[] #[]] w fun e w' => ((l.any (fun d => !Spn.wantB d) = true ∧ ∃ k : Nat, k < l.length ∧ e = .returned (.int .i64 k)) ∨ (l.any (fun d => !Spn.wantB d) = false ∧ e = .returned (.int .i64 (-1)))) ∧ Below w.heap.size w w' := by
  have h2 := Lib.hid (fun hn => h.two (fun _ => rfl) hn)
  obtain ⟨A, c, rfl, hc, -⟩ := h
  go_enter Tryd.func56, Tryd.ntmps56
  go_wp2_with fail
  go_loopw [8] (fun i wr => ∃ k : Nat, k ≤ l.length ∧ i = .int .i64 k ∧ (l.take k).any (fun d => !Spn.wantB d) = false ∧ Below w.heap.size w wr) (fun i _ => l.length - (intOf i).toNat)
  case atStart => exact ⟨0, by omega, rfl, rfl, Below.refl _ _⟩
  case round =>
    obtain ⟨k, hk, rfl, hN, hbel⟩ := hrel
    have HN := Lib.hid hN
    clear hN
    by_cases hlt : k < l.length
    · obtain ⟨b, o, c', he, hb, hcell⟩ := h2.out (by omega)
      obtain ⟨rfl, rfl⟩ : A = some ⟨b, o, none⟩ ∧ c = c' := by injection he with h1 h2 h3; exact ⟨h1, h3⟩
      obtain ⟨q0, q1⟩ := hcell k hlt (.int .i64 l[k].1) (.int .i64 l[k].2) rfl rfl
      have c0 := (hbel.cell (p := ⟨b, o + k * 2, none⟩) hb).trans q0
      have c1 := (hbel.cell (p := ⟨b, o + k * 2 + 1, none⟩) hb).trans q1
      clear hcell h2 q0 q1 he
      have HT : Hid ((l.take (k + 1)).any (fun d => !Spn.wantB d) = !Spn.wantB l[k]) := by
        show _ = _; rw [List.take_add_one, List.getElem?_eq_getElem hlt, List.any_append, HN.out]; simp
      cases hq : Spn.wantB l[k]
      · have HA : Hid (l.any (fun d => !Spn.wantB d) = true) := by
          show _ = _; rw [List.any_eq_true]; exact ⟨l[k], List.getElem_mem hlt, by rw [hq]; rfl⟩
        have HQ := Lib.hid hq
        clear hq
        go_wp2_with fail
        refine (check1_any l[k].1 l[k].2 _).mono ?_
        rintro e w1 ⟨rfl, b1⟩
        rw [HQ.out]
        go_wp2_with fail
        go_ret
        exact ⟨.inl ⟨HA.out, k, hlt, rfl⟩, hbel.trans (b1.mono hbel.size)⟩
      · have HQ := Lib.hid hq
        clear hq
        go_wp2_with fail
        refine (check1_any l[k].1 l[k].2 _).mono ?_
        rintro e w1 ⟨rfl, b1⟩
        rw [HQ.out]
        go_wp2_with fail
        go_roundw
        case rel => exact ⟨k + 1, by omega, by go_num, by rw [HT.out, HQ.out]; rfl, hbel.trans (b1.mono hbel.size)⟩
        case measure => simp [intOf]; omega
    · have HA : Hid (l.any (fun d => !Spn.wantB d) = false) := by show _ = _; have := HN.out; rwa [List.take_of_length_le (by omega)] at this
      go_wp2_with fail
      go_ret
      exact ⟨.inr ⟨HA.out, rfl⟩, hbel⟩

theorem containsWant_any (v : Value) (l : List (Int × Int)) (w : World) (h : SlR w e_ii v l) (hl : l.length ≤ 140737488351232) :
    Calls Tryd.prog 38 #[v, .func (.func 39) #[] #[]] w fun e w' => e = .returned (.bool (l.any (fun d => !Spn.wantB d))) ∧ Below w.heap.size w w' := by
  go_enter Tryd.func38, Tryd.ntmps38
  go_wp2_with fail
  refine (indexWant_any v l _ h hl).mono ?_
  rintro e w1 ⟨ha, b1⟩
  rcases ha with ⟨hm, k, hk, rfl⟩ | ⟨hm, rfl⟩
  all_goals
    have HM := Lib.hid hm
    clear hm
    go_wp2_with fail
    go_ret
    exact ⟨ret_bool (by rw [HM.out]; try simp), b1⟩

/-- check: 0 if they may be asked for, else 1. -/
def Spn.checkI (l : List (Int × Int)) : Int := if l = [] ∨ l.any (fun d => !Spn.wantB d) = true then 1 else 0
theorem checkWant_any (v : Value) (l : List (Int × Int)) (w : World) (h : SlR w e_ii v l) (hl : l.length ≤ 140737488351232) :
    Calls Tryd.prog 24 #[v] w fun e w' => e = .returned (.int .i64 (Spn.checkI l)) ∧ Below w.heap.size w w' := by
  have C := Lib.hid (containsWant_any v l w h hl)
  obtain ⟨A, c, rfl, hc, -⟩ := h
  by_cases h0 : l = []
  · have HF : Hid (Spn.checkI l = 1) := if_pos (.inl h0)
    subst h0
    go_enter Tryd.func24, Tryd.ntmps24
    go_wp2_with fail
    go_ret
    exact ⟨ret_int HF.out.symm, Below.refl _ _⟩
  · have h1 : (((l.length : Nat) : Int) == 0) = false := by
      rw [beq_eq_false_iff_ne]; intro h; exact h0 (List.eq_nil_of_length_eq_zero (by omega))
    cases hq : l.any (fun d => !Spn.wantB d)
    all_goals
      have C' := C.out
      rw [hq] at C'
      have D := Lib.hid C'
      clear C'
    · have HF : Hid (Spn.checkI l = 0) := by
        show _ = _; unfold Spn.checkI; rw [if_neg]; rw [hq]; simp [h0]
      clear hq h0
      go_enter Tryd.func24, Tryd.ntmps24
      go_wp2_with fail
      refine D.out.mono ?_
      rintro e w1 ⟨rfl, b1⟩
      go_wp2_with fail
      go_ret
      exact ⟨ret_int HF.out.symm, b1⟩
    · have HF : Hid (Spn.checkI l = 1) := by
        show _ = _; unfold Spn.checkI; rw [hq, if_pos (.inr rfl)]
      clear hq h0
      go_enter Tryd.func24, Tryd.ntmps24
      go_wp2_with fail
      refine D.out.mono ?_
      rintro e w1 ⟨rfl, b1⟩
      go_wp2_with fail
      go_ret
      exact ⟨ret_int HF.out.symm, b1⟩

/-- What Resolve answers. -/
def ResAns (T : TypeId) (base : Nat) (l : List (Int × Int)) (size : Int) (e : Ending) (w' : World) : Prop :=
  match Spn.resolve l size with
  | .error c => e = .returned (.tuple #[.slice none 0 0, .int .i64 c])
  | .ok out => ∃ v, e = .returned (.tuple #[v, .int .i64 0]) ∧ Owns w' base T 2 e_ii v out
theorem sliceInfo : ElemInfo Tryd.prog 31 (.agg #[.int .i64 0, .int .i64 0]) 2 16 := by unfold ElemInfo; kernel_rfl
theorem eii_one (l : List (Int × Int)) : ∀ u ∈ l.flatMap e_ii, u.oneCell' = true := by
  intro u hu
  obtain ⟨d, _, hd⟩ := List.mem_flatMap.1 hu
  simp only [e_ii, List.mem_cons, List.not_mem_nil, or_false] at hd
  rcases hd with rfl | rfl <;> rfl

theorem new_ii (w : World) (F T : Int) (t : TypeId) (b : Nat) (hb : b = w.heap.size) : ∀ j u, ([(F, T)].flatMap e_ii)[j]? = some u → (w.alloc (.cells #[.int .i64 F, .int .i64 T] t)).cell? ((⟨b, 0, none⟩ : Addr).add j) = some u := by
  subst hb
  exact new_cells w [.int .i64 F, .int .i64 T] t
end Go.Proofs.YthhhlaoiampinaaDoor
