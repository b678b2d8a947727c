/- What span's isNumber, isWant, check and Resolve compute. -/
import Derived.Test.YtpoaffhhkmochaaChecked
import Derived.Test.YtpoaffhhkmochaaBase
namespace Go.Proofs.Ytpoaffhhkmochaa
open Go.RowKit
namespace Spn
def numB (n : Int) : Bool := decide (0 ≤ n) && decide (n ≤ 99999)
def wantB (d : Int × Int) : Bool := if d.1 == -1 then numB d.2 else if d.2 == -1 then numB d.1 else numB d.1 && numB d.2 && decide (d.1 ≤ d.2)
def res1 (size : Int) (d : Int × Int) : Int × Int := if d.1 < 0 then ((if 0 < size - d.2 then size - d.2 else 0), size) else if d.2 < 0 then (d.1, size) else (d.1, if size < d.2 + 1 then size else d.2 + 1)
def someB (d : Int × Int) : Bool := decide (d.1 < d.2)
def resL (l : List (Int × Int)) (size : Int) : List (Int × Int) := (l.map (res1 size)).filter someB
/-- What Resolve answers. -/
def resolve (l : List (Int × Int)) (size : Int) : Except Int (List (Int × Int)) :=
  if l = [] ∨ l.any (fun d => !wantB d) = true ∨ size < 0 then .error 1 else if 20 < l.length then .error 2 else if resL l size = [] then .error 11 else .ok (resL l size)
theorem numB_bounds {n : Int} (h : numB n = true) : 0 ≤ n ∧ n ≤ 99999 := by simpa [numB] using h
theorem wantB_bounds {d : Int × Int} (h : wantB d = true) : -1 ≤ d.1 ∧ d.1 ≤ 99999 ∧ -1 ≤ d.2 ∧ d.2 ≤ 99999 ∧ (d.1 < 0 → 0 ≤ d.2) := by
  unfold wantB at h
  split at h
  · rename_i h1; have := numB_bounds h; simp at h1; omega
  · split at h
    · rename_i h1 h2; have := numB_bounds h; simp at h2; omega
    · simp only [Bool.and_eq_true] at h
      have := numB_bounds h.1.1; have := numB_bounds h.1.2; omega
theorem resL_take {l : List (Int × Int)} {size : Int} {k : Nat} (hlt : k < l.length) : resL (l.take (k + 1)) size = resL (l.take k) size ++ (if someB (res1 size l[k]) then [res1 size l[k]] else []) := by
  unfold resL
  rw [List.take_add_one, List.getElem?_eq_getElem hlt, List.map_append, List.filter_append]
  simp only [Option.toList_some, List.map_cons, List.map_nil, List.filter_cons, List.filter_nil]
theorem resL_yes {l : List (Int × Int)} {size : Int} {k : Nat} {F T : Int} (hlt : k < l.length) (h1 : res1 size l[k] = (F, T)) (h2 : F < T) : resL (l.take (k + 1)) size = resL (l.take k) size ++ [(F, T)] := by
  rw [resL_take hlt, h1, if_pos (by simpa [someB] using h2)]
theorem resL_no {l : List (Int × Int)} {size : Int} {k : Nat} {F T : Int} (hlt : k < l.length) (h1 : res1 size l[k] = (F, T)) (h2 : ¬ F < T) : resL (l.take (k + 1)) size = resL (l.take k) size := by
  rw [resL_take hlt, h1, if_neg (by simpa [someB] using h2), List.append_nil]
end Spn

theorem isNumber_any (n : Int) (w : World) :
    Calls Try.prog 81 #[.int .i64 n] w fun e w' => e = .returned (.bool (Spn.numB n)) ∧ w = w' := by
  go_enter Try.func81, Try.ntmps81
  go_wp2
  all_goals
    go_ret
    exact ⟨ret_bool (by unfold Spn.numB; simp; try omega), rfl⟩

set_option maxHeartbeats 400000 in
theorem isWant_any (a b : Int) (w : World) :
    Calls Try.prog 65 #[.agg #[.int .i64 a, .int .i64 b]] w fun e w' => e = .returned (.bool (Spn.wantB (a, b))) ∧ Below w.heap.size w w' := by
  cases ha : (a == -1)
  · cases hb : (b == -1)
    · cases hn : Spn.numB a
      all_goals
        have HN := Lib.hid hn
        have H1 := Lib.hid (isNumber_any a)
        rw [hn] at H1
        clear hn
        go_enter Try.func65, Try.ntmps65
        go_wp2_with fail
        refine (H1.out _).mono ?_
        rintro e w' ⟨rfl, rfl⟩
        go_wp2_with (first | (refine (isNumber_any b _).mono ?_; rintro e w' ⟨rfl, rfl⟩))
        all_goals
          go_ret
          refine ⟨ret_bool ?_, by go_grown⟩
          unfold Spn.wantB
          simp only [ha, hb, HN.out, Bool.false_eq_true, if_false]
          simp_all
    · have HB := Lib.hid hb
      go_enter Try.func65, Try.ntmps65
      go_wp2_with fail
      refine (isNumber_any a _).mono ?_
      rintro e w' ⟨rfl, rfl⟩
      go_wp2_with fail
      go_ret
      exact ⟨ret_bool (by unfold Spn.wantB; simp only [ha, HB.out, Bool.false_eq_true, if_false, if_true]), by go_grown⟩
  · go_enter Try.func65, Try.ntmps65
    go_wp2_with fail
    refine (isNumber_any b _).mono ?_
    rintro e w' ⟨rfl, rfl⟩
    go_wp2_with fail
    go_ret
    exact ⟨ret_bool (by unfold Spn.wantB; simp only [ha, if_true]), by go_grown⟩

theorem check1_any (a b : Int) (w : World) :
    Calls Try.prog 64 #[.agg #[.int .i64 a, .int .i64 b]] w fun e w' => e = .returned (.bool (!Spn.wantB (a, b))) ∧ Below w.heap.size w w' := by
  go_enter Try.func64, Try.ntmps64
  go_wp2_with fail
  refine (isWant_any a b _).mono ?_
  rintro e w1 ⟨rfl, b1⟩
  go_wp2_with fail
  go_ret
  exact ⟨rfl, ((Below.refl _ _).alloc (Nat.le_refl _) _).trans (b1.mono (by simp))⟩
theorem flat2 {α : Type} {en : α → List Value} (hen : ∀ x, (en x).length = 2) : ∀ (xs : List α) (k i : Nat) (x : α) (u : Value), xs[k]? = some x → i < 2 → (en x)[i]? = some u → (xs.flatMap en)[k * 2 + i]? = some u
  | [], k, i, x, u, h, _, _ => by simp at h
  | y :: ys, 0, i, x, u, h, hi, hu => by
    simp at h; subst h
    rw [List.flatMap_cons, Nat.zero_mul, Nat.zero_add, List.getElem?_append_left (by rw [hen]; exact hi)]; exact hu
  | y :: ys, k + 1, i, x, u, h, hi, hu => by
    rw [List.flatMap_cons, List.getElem?_append_right (by rw [hen]; omega), hen, show (k + 1) * 2 + i - 2 = k * 2 + i from by omega]
    exact flat2 hen ys k i x u (by simpa using h) hi hu
/-- The cells of an element of a list that is read, of two cells. -/
theorem SlR.two {α : Type} {en : α → List Value} {w : World} {v : Value} {xs : List α} (hen : ∀ x, (en x).length = 2) (h : SlR w en v xs) (hn : 0 < xs.length) :
    ∃ b off c, v = .slice (some ⟨b, off, none⟩) xs.length c ∧ b < w.heap.size ∧ ∀ k (hk : k < xs.length) (u0 u1 : Value), (en xs[k])[0]? = some u0 → (en xs[k])[1]? = some u1 → w.cell? ⟨b, off + k * 2, none⟩ = some u0 ∧ w.cell? ⟨b, off + k * 2 + 1, none⟩ = some u1 := by
  obtain ⟨A, c, hv, hc, hx⟩ := h
  obtain ⟨b, off, rfl, hb, hcell⟩ := hx hn
  exact ⟨b, off, c, hv, hb, fun k hk u0 u1 h0 h1 => ⟨hcell (k * 2 + 0) u0 (flat2 hen xs k 0 _ u0 (List.getElem?_eq_getElem hk) (by omega) h0), hcell (k * 2 + 1) u1 (flat2 hen xs k 1 _ u1 (List.getElem?_eq_getElem hk) (by omega) h1)⟩⟩

set_option maxHeartbeats 800000 in
theorem indexWant_any (v : Value) (l : List (Int × Int)) (w : World) (h : SlR w e_ii v l) (hl : l.length ≤ 140737488351232) :
    Calls Try.prog 80 #[v, .func (.func 64) #[] #[]] w fun e w' => ((l.any (fun d => !Spn.wantB d) = true ∧ ∃ k : Nat, k < l.length ∧ e = .returned (.int .i64 k)) ∨ (l.any (fun d => !Spn.wantB d) = false ∧ e = .returned (.int .i64 (-1)))) ∧ Below w.heap.size w w' := by
  have h2 := Lib.hid (fun hn => h.two (fun _ => rfl) hn)
  obtain ⟨A, c, rfl, hc, -⟩ := h
  go_enter Try.func80, Try.ntmps80
  go_wp2_with fail
  go_loopw [8] (fun i wr => ∃ k : Nat, k ≤ l.length ∧ i = .int .i64 k ∧ (l.take k).any (fun d => !Spn.wantB d) = false ∧ Below w.heap.size w wr) (fun i _ => l.length - (intOf i).toNat)
  case atStart => exact ⟨0, by omega, rfl, rfl, Below.refl _ _⟩
  case round =>
    obtain ⟨k, hk, rfl, hN, hbel⟩ := hrel
    have HN := Lib.hid hN
    clear hN
    by_cases hlt : k < l.length
    · obtain ⟨b, o, c', he, hb, hcell⟩ := h2.out (by omega)
      obtain ⟨rfl, rfl⟩ : A = some ⟨b, o, none⟩ ∧ c = c' := by injection he with h1 h2 h3; exact ⟨h1, h3⟩
      obtain ⟨q0, q1⟩ := hcell k hlt (.int .i64 l[k].1) (.int .i64 l[k].2) rfl rfl
      have c0 := (hbel.cell (p := ⟨b, o + k * 2, none⟩) hb).trans q0
      have c1 := (hbel.cell (p := ⟨b, o + k * 2 + 1, none⟩) hb).trans q1
      clear hcell h2 q0 q1 he
      have HT : Hid ((l.take (k + 1)).any (fun d => !Spn.wantB d) = !Spn.wantB l[k]) := by
        show _ = _; rw [List.take_add_one, List.getElem?_eq_getElem hlt, List.any_append, HN.out]; simp
      cases hq : Spn.wantB l[k]
      · have HA : Hid (l.any (fun d => !Spn.wantB d) = true) := by
          show _ = _; rw [List.any_eq_true]; exact ⟨l[k], List.getElem_mem hlt, by rw [hq]; rfl⟩
        have HQ := Lib.hid hq
        clear hq
        go_wp2_with fail
        refine (check1_any l[k].1 l[k].2 _).mono ?_
        rintro e w1 ⟨rfl, b1⟩
        rw [HQ.out]
        go_wp2_with fail
        go_ret
        exact ⟨.inl ⟨HA.out, k, hlt, rfl⟩, hbel.trans (b1.mono hbel.size)⟩
      · have HQ := Lib.hid hq
        clear hq
        go_wp2_with fail
        refine (check1_any l[k].1 l[k].2 _).mono ?_
        rintro e w1 ⟨rfl, b1⟩
        rw [HQ.out]
        go_wp2_with fail
        go_roundw
        case rel => exact ⟨k + 1, by omega, by go_num, by rw [HT.out, HQ.out]; rfl, hbel.trans (b1.mono hbel.size)⟩
        case measure => simp [intOf]; omega
    · have HA : Hid (l.any (fun d => !Spn.wantB d) = false) := by show _ = _; have := HN.out; rwa [List.take_of_length_le (by omega)] at this
      go_wp2_with fail
      go_ret
      exact ⟨.inr ⟨HA.out, rfl⟩, hbel⟩

theorem containsWant_any (v : Value) (l : List (Int × Int)) (w : World) (h : SlR w e_ii v l) (hl : l.length ≤ 140737488351232) :
    Calls Try.prog 63 #[v, .func (.func 64) #[] #[]] w fun e w' => e = .returned (.bool (l.any (fun d => !Spn.wantB d))) ∧ Below w.heap.size w w' := by
  go_enter Try.func63, Try.ntmps63
  go_wp2_with fail
  refine (indexWant_any v l _ h hl).mono ?_
  rintro e w1 ⟨ha, b1⟩
  rcases ha with ⟨hm, k, hk, rfl⟩ | ⟨hm, rfl⟩
  all_goals
    have HM := Lib.hid hm
    clear hm
    go_wp2_with fail
    go_ret
    exact ⟨ret_bool (by rw [HM.out]; try simp), b1⟩

/-- check: 0 if they may be asked for, else 1. -/
def Spn.checkI (l : List (Int × Int)) : Int := if l = [] ∨ l.any (fun d => !Spn.wantB d) = true then 1 else 0
theorem checkWant_any (v : Value) (l : List (Int × Int)) (w : World) (h : SlR w e_ii v l) (hl : l.length ≤ 140737488351232) :
    Calls Try.prog 40 #[v] w fun e w' => e = .returned (.int .i64 (Spn.checkI l)) ∧ Below w.heap.size w w' := by
  have C := Lib.hid (containsWant_any v l w h hl)
  obtain ⟨A, c, rfl, hc, -⟩ := h
  by_cases h0 : l = []
  · have HF : Hid (Spn.checkI l = 1) := if_pos (.inl h0)
    subst h0
    go_enter Try.func40, Try.ntmps40
    go_wp2_with fail
    go_ret
    exact ⟨ret_int HF.out.symm, Below.refl _ _⟩
  · have h1 : (((l.length : Nat) : Int) == 0) = false := by
      rw [beq_eq_false_iff_ne]; intro h; exact h0 (List.eq_nil_of_length_eq_zero (by omega))
    cases hq : l.any (fun d => !Spn.wantB d)
    all_goals
      have C' := C.out
      rw [hq] at C'
      have D := Lib.hid C'
      clear C'
    · have HF : Hid (Spn.checkI l = 0) := by
        show _ = _; unfold Spn.checkI; rw [if_neg]; rw [hq]; simp [h0]
      clear hq h0
      go_enter Try.func40, Try.ntmps40
      go_wp2_with fail
      refine D.out.mono ?_
      rintro e w1 ⟨rfl, b1⟩
      go_wp2_with fail
      go_ret
      exact ⟨ret_int HF.out.symm, b1⟩
    · have HF : Hid (Spn.checkI l = 1) := by
        show _ = _; unfold Spn.checkI; rw [hq, if_pos (.inr rfl)]
      clear hq h0
      go_enter Try.func40, Try.ntmps40
      go_wp2_with fail
      refine D.out.mono ?_
      rintro e w1 ⟨rfl, b1⟩
      go_wp2_with fail
      go_ret
      exact ⟨ret_int HF.out.symm, b1⟩

/-- What Resolve answers. -/
def ResAns (T : TypeId) (base : Nat) (l : List (Int × Int)) (size : Int) (e : Ending) (w' : World) : Prop :=
  match Spn.resolve l size with
  | .error c => e = .returned (.tuple #[.slice none 0 0, .int .i64 c])
  | .ok out => ∃ v, e = .returned (.tuple #[v, .int .i64 0]) ∧ Owns w' base T 2 e_ii v out
theorem sliceInfo : ElemInfo Try.prog 51 (.agg #[.int .i64 0, .int .i64 0]) 2 16 := by unfold ElemInfo; kernel_rfl
theorem eii_one (l : List (Int × Int)) : ∀ u ∈ l.flatMap e_ii, u.oneCell' = true := by
  intro u hu
  obtain ⟨d, _, hd⟩ := List.mem_flatMap.1 hu
  simp only [e_ii, List.mem_cons, List.not_mem_nil, or_false] at hd
  rcases hd with rfl | rfl <;> rfl

theorem new_ii (w : World) (F T : Int) (t : TypeId) (b : Nat) (hb : b = w.heap.size) : ∀ j u, ([(F, T)].flatMap e_ii)[j]? = some u → (w.alloc (.cells #[.int .i64 F, .int .i64 T] t)).cell? ((⟨b, 0, none⟩ : Addr).add j) = some u := by
  subst hb
  exact new_cells w [.int .i64 F, .int .i64 T] t
set_option maxRecDepth 8000 in
set_option maxHeartbeats 1600000 in
theorem resolve_any (v : Value) (l : List (Int × Int)) (size : Int) (w : World) (h : SlR w e_ii v l) (hl : l.length ≤ 140737488351232) (hz : size ≤ 9223372036854775807) (hz' : -9223372036854775808 ≤ size) :
    Calls Try.prog 24 #[v, .int .i64 size] w fun e w' => ResAns 51 w.heap.size l size e w' ∧ Below w.heap.size w w' := by
  have HR := Lib.hid h
  obtain ⟨A, c, rfl, hc, -⟩ := h
  go_enter Try.func24, Try.ntmps24
  go_wp2_with fail
  refine (checkWant_any _ l _ HR.out hl).mono ?_
  rintro e w1 ⟨rfl, b1⟩
  by_cases hbad : Spn.checkI l = 1 ∨ size < 0
  · have HE : Hid (Spn.resolve l size = .error 1) := by
      show _ = _; unfold Spn.resolve; rw [if_pos]
      rcases hbad with h | h
      · unfold Spn.checkI at h; split at h
        · rename_i h'; rcases h' with h' | h'
          · exact .inl h'
          · exact .inr (.inl h')
        · omega
      · exact .inr (.inr h)
    by_cases hc1 : Spn.checkI l = 1
    · rw [hc1]
      clear hbad hc1
      go_wp2_with fail
      go_ret2
      exact ⟨by unfold ResAns; rw [HE.out]; rfl, b1⟩
    · have hc0 : Spn.checkI l = 0 := by unfold Spn.checkI at hc1 ⊢; split at hc1 <;> simp_all
      have hs : size < 0 := hbad.resolve_left hc1
      rw [hc0]
      clear hbad hc1 hc0
      go_wp2_with fail
      go_ret2
      exact ⟨by unfold ResAns; rw [HE.out]; rfl, b1⟩
  · have hc0 : Spn.checkI l = 0 := by unfold Spn.checkI at hbad ⊢; split at hbad <;> simp_all
    have hs : 0 ≤ size := by omega
    have hgood : l ≠ [] ∧ l.any (fun d => !Spn.wantB d) = false := by
      unfold Spn.checkI at hc0; split at hc0
      · omega
      · rename_i h; simp only [not_or, Bool.not_eq_true] at h; exact h
    rw [hc0]
    clear hbad hc0
    by_cases h20 : 20 < l.length
    · have HE : Hid (Spn.resolve l size = .error 2) := by
        show _ = _; unfold Spn.resolve; rw [if_neg (by simp only [hgood.2, Bool.false_eq_true, false_or, not_or]; exact ⟨hgood.1, by omega⟩), if_pos h20]
      clear hgood
      go_wp2_with fail
      go_ret2
      exact ⟨by unfold ResAns; rw [HE.out]; rfl, b1⟩
    · have HE : Hid (Spn.resolve l size = if Spn.resL l size = [] then .error 11 else .ok (Spn.resL l size)) := by
        show _ = _; unfold Spn.resolve; rw [if_neg (by simp only [hgood.2, Bool.false_eq_true, false_or, not_or]; exact ⟨hgood.1, by omega⟩), if_neg h20]
      have HG := Lib.hid hgood
      clear hgood
      go_wp2_with fail
      go_loopw [6, 22] (fun u4 i wr => ∃ k : Nat, k ≤ l.length ∧ i = .int .i64 k ∧ Owns wr w1.heap.size 51 2 e_ii u4 (Spn.resL (l.take k) size) ∧ Below w1.heap.size w1 wr) (fun u4 i _ => l.length - (intOf i).toNat)
      case atStart => exact ⟨0, by omega, rfl, Owns.nil _ _ _ _ _, Below.refl _ _⟩
      case round =>
        obtain ⟨k, hk, rfl, hown, hbel⟩ := hrel
        by_cases hlt : k < l.length
        · obtain ⟨b, o, c', he, hb, hcell⟩ := HR.out.two (fun _ => rfl) (by omega)
          obtain ⟨rfl, rfl⟩ : A = some ⟨b, o, none⟩ ∧ c = c' := by injection he with h1 h2 h3; exact ⟨h1, h3⟩
          obtain ⟨q0, q1⟩ := hcell k hlt (.int .i64 l[k].1) (.int .i64 l[k].2) rfl rfl
          have hb1 : b < w1.heap.size := Nat.lt_of_lt_of_le hb b1.size
          have c0 := (hbel.cell (p := ⟨b, o + k * 2, none⟩) hb1).trans ((b1.cell (p := ⟨b, o + k * 2, none⟩) hb).trans q0)
          have c1 := (hbel.cell (p := ⟨b, o + k * 2 + 1, none⟩) hb1).trans ((b1.cell (p := ⟨b, o + k * 2 + 1, none⟩) hb).trans q1)
          clear hcell q0 q1 he
          have hw : Spn.wantB l[k] = true := by
            have := HG.out.2; rw [List.any_eq_false] at this; simpa using this l[k] (List.getElem_mem hlt)
          have HB := Lib.hid (Spn.wantB_bounds hw)
          obtain ⟨hf0, hf1, hl0, hl1, hneg⟩ := HB.out
          have HT := Lib.hid (Spn.resL_take (size := size) hlt)
          have hsz0 := hbel.size
          have HY := fun F T h1 h2 => Lib.hid (Spn.resL_yes (l := l) (size := size) (k := k) (F := F) (T := T) hlt h1 h2)
          have HNo := fun F T h1 h2 => Lib.hid (Spn.resL_no (l := l) (size := size) (k := k) (F := F) (T := T) hlt h1 h2)
          have R1 : l[k].1 < 0 → Hid (Spn.res1 size l[k] = (if 0 < wrap64 (size - l[k].2) then wrap64 (size - l[k].2) else 0, size)) := by
            intro h
            show _ = _
            have hwr : wrap64 (size - l[k].2) = size - l[k].2 := by have := hneg h; unfold wrap64; omega
            unfold Spn.res1; rw [if_pos h, hwr]
          have R2 : 0 ≤ l[k].1 → l[k].2 < 0 → Hid (Spn.res1 size l[k] = (l[k].1, size)) := by
            intro h h'
            show _ = _
            unfold Spn.res1; rw [if_neg (by omega), if_pos h']
          have R3 : 0 ≤ l[k].1 → 0 ≤ l[k].2 → Hid (Spn.res1 size l[k] = (l[k].1, if size < l[k].2 + 1 then size else l[k].2 + 1)) := by
            intro h h'
            show _ = _
            unfold Spn.res1; rw [if_neg (by omega), if_neg (by omega)]
          clear hneg hs hf0 hf1
          have hlen20 : (Spn.resL (l.take k) size).length ≤ 20 := by
            unfold Spn.resL
            refine Nat.le_trans (List.length_filter_le _ _) ?_
            simp; omega
          go_wp2_with (at_builtin; go_must (refine wpList_append_owns rfl (.tmp 54) (.tmp 56) _ rfl w1.heap.size 51 (.agg #[.int .i64 0, .int .i64 0]) 2 16 e_ii Try.underlying47 sliceInfo rfl (by decide) _ _ rfl (((hown.alloc _).alloc _).alloc _) ⟨_, 0, none⟩ 1 1 [(_, _)] rfl rfl rfl (new_ii _ _ _ _ _ (by simp)) (eii_one [_]) (by simp only [maxLen]; omega) (by omega) (by simp; omega) ?_); intro v2 w2 hown2 hg2)
          all_goals
            go_roundw
            case measure => simp [intOf]; omega
          · exact ⟨k + 1, by omega, by go_num, by rw [(HY _ _ (R1 (by assumption)).out (by assumption)).out]; exact hown2, bel_append0 (((hbel.alloc hbel.size _).alloc (by simp; omega) _).alloc (by simp; omega) _) (Nat.le_refl _) (((hown.alloc _).alloc _).alloc _) hg2⟩
          · exact ⟨k + 1, by omega, by go_num, by rw [(HNo _ _ (R1 (by assumption)).out (Int.not_lt.mpr (by assumption))).out]; exact (hown.alloc _).alloc _, (hbel.alloc hbel.size _).alloc (by simp; omega) _⟩
          · exact ⟨k + 1, by omega, by go_num, by rw [(HY _ _ (R2 (by assumption) (by assumption)).out (by assumption)).out]; exact hown2, bel_append0 (((hbel.alloc hbel.size _).alloc (by simp; omega) _).alloc (by simp; omega) _) (Nat.le_refl _) (((hown.alloc _).alloc _).alloc _) hg2⟩
          · exact ⟨k + 1, by omega, by go_num, by rw [(HNo _ _ (R2 (by assumption) (by assumption)).out (Int.not_lt.mpr (by assumption))).out]; exact (hown.alloc _).alloc _, (hbel.alloc hbel.size _).alloc (by simp; omega) _⟩
          · exact ⟨k + 1, by omega, by go_num, by rw [(HY _ _ (R3 (by assumption) (by assumption)).out (by assumption)).out]; exact hown2, bel_append0 (((hbel.alloc hbel.size _).alloc (by simp; omega) _).alloc (by simp; omega) _) (Nat.le_refl _) (((hown.alloc _).alloc _).alloc _) hg2⟩
          · exact ⟨k + 1, by omega, by go_num, by rw [(HNo _ _ (R3 (by assumption) (by assumption)).out (Int.not_lt.mpr (by assumption))).out]; exact (hown.alloc _).alloc _, (hbel.alloc hbel.size _).alloc (by simp; omega) _⟩
        · have ht : l.take k = l := List.take_of_length_le (by omega)
          rw [ht] at hown
          clear ht
          have HO := Lib.hid hown
          have HW := Lib.hid (b1.trans (hbel.mono b1.size))
          by_cases hnil : Spn.resL l size = []
          · have HE' : Hid (Spn.resolve l size = .error 11) := by show _ = _; rw [HE.out, if_pos hnil]
            obtain ⟨n, hn, hv⟩ : ∃ n A c, n = 0 ∧ u6 = .slice A n c := by
              rcases hown.form with ⟨hv, ha⟩ | ⟨g, cap, hv⟩
              · exact ⟨0, none, 0, rfl, hv⟩
              · exact ⟨_, _, _, by rw [hnil]; rfl, hv⟩
            obtain ⟨c2, rfl, rfl⟩ := hv
            clear hown hnil
            go_wp2_with fail
            go_ret2
            exact ⟨by unfold ResAns; rw [HE'.out]; rfl, HW.out⟩
          · have HE' : Hid (Spn.resolve l size = .ok (Spn.resL l size)) := by show _ = _; rw [HE.out, if_neg hnil]
            rcases hown.form with ⟨hv, ha⟩ | ⟨g, cap, rfl⟩
            · exact absurd ha hnil
            · have h1 : (((Spn.resL l size).length : Int) == 0) = false := by
                rw [beq_eq_false_iff_ne]; intro h; exact hnil (List.eq_nil_of_length_eq_zero (by omega))
              clear hown hnil
              go_wp2_with fail
              go_ret2
              exact ⟨by unfold ResAns; rw [HE'.out]; exact ⟨_, rfl, HO.out.mono b1.size⟩, HW.out⟩
end Go.Proofs.Ytpoaffhhkmochaa
