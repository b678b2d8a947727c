/- A slice of structs of two texts, of whatever size the machine holds: how it is opened in the first form of a row. -/
import Derived.Test.YtnobcehiahcfkaaY10
import Derived.SizedLaws
import Derived.Test.YtnobcehiahcfkaaY13
import Derived.Test.YtnobcehiahcfkaaY11
import Derived.ArgAppend
namespace Go.Proofs.Ytnobcehiahcfkaa
open Go.ChangeShapes Go.WideShapes Go.Deep Go.RowKit Go.Joins
theorem weights_mem_all {H : Type} {P : Program} {e : TypeId} : ∀ {l : List (DataW H)} {x : DataW H}, x ∈ l → ∀ n ∈ x.weights P e, n ∈ DataW.weightsAll P e l
  | y :: l, x, hx, n, hn => by
    rw [DataW.weightsAll]
    rcases List.mem_cons.1 hx with rfl | hx
    · exact List.mem_append_left _ hn
    · exact List.mem_append_right _ (weights_mem_all hx n hn)
/-- What the size rule says of a slice of structs of two texts. -/
theorem sized_ss {H : Type} {P : Program} {ts : List TypeId} {ds : List (DataW H)} (h : (DataW.weightsEach P ts ds).all (· ≤ reachBytes) = true) {j : Nat} {t e : TypeId} {f0 f1 : Field} {es sp : List (DataW H)} (ht : ts[j]? = some t) (hd : ds[j]? = some (.slice es sp)) (hu : P.underlying t = some (.slice e)) (he : P.underlying e = some (.struct #[f0, f1])) :
    ∀ x ∈ es, ∀ b0 b1, x = .agg [.lit (.string b0), .lit (.string b1)] → b0.length ≤ 140737488351232 ∧ b1.length ≤ 140737488351232 := by
  intro x hx b0 b1 hxe
  have hm : ∀ n ∈ x.weights P e, n ≤ reachBytes := fun n hn => by
    have := List.all_eq_true.1 h _ (DataW.weights_mem_each ht hd n (by
      rw [DataW.weights, hu]
      exact List.mem_cons_of_mem _ (List.mem_append_left _ (weights_mem_all hx n hn))))
    simpa using this
  subst hxe
  simp only [DataW.weights, he, DataW.weightsEach] at hm
  have h0 := hm b0.length (by simp [DataW.weightsEach, DataW.weights])
  have h1 := hm b1.length (by simp [DataW.weightsEach, DataW.weights])
  simp only [reachBytes] at h0 h1
  exact ⟨h0, h1⟩
theorem sized_ts {H : Type} {P : Program} {ts : List TypeId} {ds : List (DataW H)} (h : (DataW.weightsEach P ts ds).all (· ≤ reachBytes) = true) {j : Nat} {t e : TypeId} {es sp : List (DataW H)} (ht : ts[j]? = some t) (hd : ds[j]? = some (.slice es sp)) (hu : P.underlying t = some (.slice e)) :
    ∀ x ∈ es, ∀ b0, x = .lit (.string b0) → b0.length ≤ 140737488351232 := by
  intro x hx b0 hxe
  have := List.all_eq_true.1 h _ (DataW.weights_mem_each ht hd b0.length (by
    rw [DataW.weights, hu]
    exact List.mem_cons_of_mem _ (List.mem_append_left _ (weights_mem_all hx _ (by rw [hxe]; simp [DataW.weights])))))
  have h2 : b0.length ≤ reachBytes := by simpa using this
  simpa only [reachBytes] using h2
/-- A slice of texts, of whatever size the machine holds. -/
theorem open_textsr {H : Type} {P : Program} {enc : TypeId × Value → H} {w : World} {base : Nat} {spare : Nat → Bool} {held : Bool} {r : Reach} {b0 n : Nat} {t e : TypeId} {v : Value} {d : DataW H} {p : List MemPlace} (ht : P.underlying t = some (.slice e)) (he : P.underlying e = some .string) (hC : P.cellsOf e = 1)
    (hv : Value.okWide P w r b0 t v) (h : DataW.Trod enc P w base spare held t v d p) (hb : ∀ es sp, d = .slice es sp → (es.length + sp.length) * n ≤ 140737488351232) (hin : ∀ es sp, d = .slice es sp → ∀ x ∈ es, ∀ b0, x = .lit (.string b0) → b0.length ≤ 140737488351232) :
    ∃ xs : List ByteArray, SlR w es v xs ∧ xs.length * n ≤ 140737488351232 ∧ ∀ s ∈ xs, s.size ≤ 140737488351232 := by
  obtain ⟨A, len, cap, rfl⟩ := okWide_slice ht hv
  obtain ⟨fuel, hf⟩ := h
  rcases open_slice ht hf with ⟨hcs, _⟩ | ⟨a, len', cap', m, n', D, Pl, hcs, _, hl, hm, hmm, hx, hi⟩
  · simp [Value.cells] at hcs
    obtain ⟨rfl, rfl, rfl⟩ := hcs
    exact ⟨[], SlR.nil _ _, by simp, by simp⟩
  · simp [Value.cells] at hcs
    obtain ⟨rfl, rfl, rfl⟩ := hcs
    have hlm : len ≤ m := by rw [hmm]; split <;> omega
    obtain ⟨xs, hxl, hs, hR⟩ := slr_of (w := w) (en := es) (size := 1) (a := a) (len := len) (cap := cap) (fun i x => D i = .lit (.string x.data.toList)) (fun _ => rfl) hl (by omega) (fun i hi' => by
      obtain ⟨cs', hc, ht'⟩ := hi i (by omega)
      rw [hC] at hc
      obtain ⟨_, hcl, hat⟩ := World.cells?_some hc
      obtain ⟨s, e0, hy, hz⟩ := DataW.trod_string he ht'
      refine ⟨s, fun j u hu => ?_, ?_⟩
      · have hj : j = 0 := by
          rcases Nat.eq_zero_or_pos j with h0 | h0
          · exact h0
          · rw [List.getElem?_eq_none (by simp [es]; omega)] at hu; cases hu
        subst hj
        have hu' : u = .string s := by simpa [es] using hu.symm
        subst hu'
        have := hat 0 (by omega)
        rw [e0] at this
        rw [← Go.Deep.add_add, hC] at *
        simpa using this
      · simp only [Prod.mk.injEq] at hy
        rw [hy.1])
    refine ⟨xs, hs, ?_, fun s hs' => ?_⟩
    · have := hb _ _ (congrArg Prod.fst hx)
      simp only [List.length_map, List.length_range] at this
      subst hxl
      exact Nat.le_trans (Nat.mul_le_mul_right _ (Nat.le_add_right _ _)) this
    · obtain ⟨i, hi', rfl⟩ := List.mem_iff_getElem.1 hs'
      have hDi := hR i hi'
      have := hin _ _ (congrArg Prod.fst hx) (D i) (List.mem_map.2 ⟨i, List.mem_range.2 (by omega), rfl⟩) _ hDi
      simp only [Array.length_toList] at this
      exact this
theorem open_ssr {H : Type} {P : Program} {enc : TypeId × Value → H} {w : World} {base : Nat} {spare : Nat → Bool} {held : Bool} {r : Reach} {b0 n : Nat} {t e : TypeId} {f0 f1 : Field} {v : Value} {d : DataW H} {p : List MemPlace} (ht : P.underlying t = some (.slice e)) (he : P.underlying e = some (.struct #[f0, f1])) (hone : oneCellFields P #[f0, f1] = true) (hC : P.cellsOf e = 2)
    (h0 : P.underlying f0.type = some .string) (h1 : P.underlying f1.type = some .string) (hv : Value.okWide P w r b0 t v) (h : DataW.Trod enc P w base spare held t v d p) (hb : ∀ es sp, d = .slice es sp → (es.length + sp.length) * n ≤ 140737488351232)
    (hin : ∀ es sp, d = .slice es sp → ∀ x ∈ es, ∀ b0 b1, x = .agg [.lit (.string b0), .lit (.string b1)] → b0.length ≤ 140737488351232 ∧ b1.length ≤ 140737488351232) :
    ∃ xs : List (ByteArray × ByteArray), SlR w e_ss v xs ∧ xs.length * n ≤ 140737488351232 ∧ ∀ d ∈ xs, d.1.size ≤ 140737488351232 ∧ d.2.size ≤ 140737488351232 := by
  obtain ⟨A, len, cap, rfl⟩ := okWide_slice ht hv
  obtain ⟨fuel, hf⟩ := h
  rcases open_slice_fields ht he hone hC hf with ⟨hcs, _⟩ | ⟨a, len', cap', m, D, Pl, hcs, _, hl, hm, hmm, hx, hi⟩
  · simp [Value.cells] at hcs
    obtain ⟨rfl, rfl, rfl⟩ := hcs
    exact ⟨[], SlR.nil _ _, by simp, by simp⟩
  · simp [Value.cells] at hcs
    obtain ⟨rfl, rfl, rfl⟩ := hcs
    have hlm : len ≤ m := by rw [hmm]; split <;> omega
    obtain ⟨xs, hxl, hs, hR⟩ := slr_of (w := w) (en := e_ss) (size := 2) (a := a) (len := len) (cap := cap) (fun i d => D i = .agg [.lit (.string d.1.data.toList), .lit (.string d.2.data.toList)]) (fun _ => rfl) hl (by omega) (fun i hi' => by
      obtain ⟨ys, n', hD, _, hyl, hfl⟩ := hi i (by omega)
      obtain ⟨v0, y0, c0, g0, t0⟩ := hfl 0 f0 rfl
      obtain ⟨v1, y1, c1, g1, t1⟩ := hfl 1 f1 rfl
      obtain ⟨x0, e0, z0, _⟩ := DataW.trod_string h0 t0
      obtain ⟨x1, e1, z1, _⟩ := DataW.trod_string h1 t1
      simp only [List.cons.injEq, and_true] at e0 e1
      subst e0 e1 z0 z1
      have hys : ys = [_, _] := List.ext_getElem? (l₂ := [(DataW.lit (.string x0.data.toList), []), (DataW.lit (.string x1.data.toList), [])]) (fun j => by
        match j with
        | 0 => exact g0
        | 1 => exact g1
        | j + 2 => rw [List.getElem?_eq_none (by rw [hyl]; simp), List.getElem?_eq_none (by simp)])
      refine ⟨(x0, x1), fun j u hu => ?_, ?_⟩
      · match j, hu with
        | 0, hu => simp only [e_ss, List.getElem?_cons_zero, List.getElem?_cons_succ, Option.some.injEq] at hu; subst hu; exact c0
        | 1, hu => simp only [e_ss, List.getElem?_cons_zero, List.getElem?_cons_succ, Option.some.injEq] at hu; subst hu; exact c1
        | j + 2, hu => simp [e_ss] at hu
      · rw [hD, hys]; rfl)
    refine ⟨xs, hs, ?_, fun d hd => ?_⟩
    · have := hb _ _ (congrArg Prod.fst hx)
      simp only [List.length_map, List.length_range] at this
      subst hxl
      exact Nat.le_trans (Nat.mul_le_mul_right _ (Nat.le_add_right _ _)) this
    · obtain ⟨i, hi', rfl⟩ := List.mem_iff_getElem.1 hd
      have hDi := hR i hi'
      have := hin _ _ (congrArg Prod.fst hx) (D i) (List.mem_map.2 ⟨i, List.mem_range.2 (by omega), rfl⟩) _ _ hDi
      simp only [Array.length_toList] at this
      exact this
end Go.Proofs.Ytnobcehiahcfkaa
namespace Go.Proofs.Ytnobcehiahcfkaa
set_option maxRecDepth 20000
open Go.RowKit Go.Shelf
set_option maxHeartbeats 8000000 in
theorem pileOnce_walk (s : ByteArray) (v : Value) (xs : List Stp) (w : World) (hs : s.size ≤ 140737488351232) (h : SlR w e_st v xs) (hl : xs.length ≤ 418861572474) (hx : ∀ x ∈ xs, Wide x.k ∧ Wide x.a ∧ Wide x.b ∧ x.s.size ≤ maxLen ∧ x.t.size ≤ maxLen) :
    Calls Try.prog 13 #[.string s, v] w fun e w' => e = .returned (.bool true) ∧ Below w.heap.size w w' := by
  have HR0 := Lib.hid (piled_any v xs w h hl hx)
  obtain ⟨A, cp, rfl, hc⟩ := h.form
  clear h hx
  go_enter Try.func13, Try.ntmps13
  go_wp2_with fail
  refine HR0.out.mono ?_
  rintro e w1 ⟨p, mb, va, es, os, rfl, hpu, _, hol, b1⟩
  have HP0 := Lib.hid hpu
  have HB1 := Lib.hid b1
  have hu0 := hpu.st.us
  have hlo := usedP_len hpu.st.sz
  clear HR0 hpu b1
  go_wp2_with fail
  refine (usedPl_any _ p mb _ es _ HP0.out.st).mono ?_
  rintro e w2 ⟨rfl, rfl⟩
  go_wp2_with fail
  refine (many_any _ p mb _ es _ HP0.out.st).mono ?_
  rintro e w2 ⟨rfl, rfl⟩
  go_wp2_with fail
  refine (putP_pu _ p mb _ es os s _ HP0.out (by omega)).mono ?_
  rintro e w3 ⟨v1, e1, rfl, rf1, hcase⟩
  have HB3 := Lib.hid (HB1.out.trans rf1.bel)
  clear rf1
  rcases hcase with ⟨rfl, hs1, es1, hpr1, hpu1⟩ | ⟨rfl, hpu1, hq⟩
  · have HP1 := Lib.hid hpu1
    have HPR := Lib.hid hpr1
    have hu1 := hpr1.used
    rw [cutB_sum] at hu1
    obtain ⟨hu1a, hu1b⟩ := hu1
    have hu1c := hpu1.st.us
    clear hpu1 hpr1
    go_wp2_with fail
    refine (usedPl_any _ p mb _ es1 _ HP1.out.st).mono ?_
    rintro e w4 ⟨rfl, rfl⟩
    go_wp2_with fail
    refine (many_any _ p mb _ es1 _ HP1.out.st).mono ?_
    rintro e w4 ⟨rfl, rfl⟩
    go_wp2_with fail
    refine (putP_pu _ p mb _ es1 (os ++ [(v1, s)]) s _ HP1.out (by simp; omega)).mono ?_
    rintro e w4 ⟨v2, e2, rfl, rf2, hcase⟩
    have HB4 := Lib.hid (HB3.out.trans rf2.bel)
    clear rf2
    have hrep1 : RepS es1 (allT os ++ cutB s) := by have := HP1.out.rep; rwa [allT_app, allT_one] at this
    have HREP1 := Lib.hid hrep1
    clear hrep1
    rcases hcase with ⟨rfl, _, es2, hpr2, hpu2⟩ | ⟨_, _, hq⟩
    · have HP2 := Lib.hid hpu2
      have hsame := HP2.out.rep.same HP1.out.rep HP2.out.st.kd HP1.out.st.kd (fun t => by simp [allT])
      have hsu := hsame.1
      have hsl := hsame.2
      clear hpu2 hpr2 hsame
      have ho1 := HP2.out.out.own (v1, s) (by simp)
      have ho2 := HP2.out.out.own (v2, s) (by simp)
      have H1 := Lib.hid (SlR.of_owns ho1)
      have H2 := Lib.hid (SlR.of_owns ho2)
      have hcl := cutB_5000 hs1
      have hml : ((cutB s).map hxn).length ≤ 5000 := by rw [List.length_map]; exact hcl
      clear ho1 ho2
      go_wp2_with fail
      refine (eqStr_any _ _ ((cutB s).map hxn) ((cutB s).map hxn) _ H1.out H2.out (by omega) (by omega)).mono ?_
      rintro e w5 ⟨rfl, rfl⟩
      have hst : SameTexts ((cutB s).map hxn) ((cutB s).map hxn) = true := by simp [SameTexts]
      rw [hst]
      clear hst H1 H2
      have hwa : IntKind.i64.wrap (usedP es + (s.size : Int)) = usedP es + (s.size : Int) := by rw [IntKind.wrap_i64]; omega
      have hd1 : decide (usedP es1 < usedP es) = false := by rw [decide_eq_false_iff_not]; omega
      have hd2 : decide (usedP es + (s.size : Int) < usedP es1) = false := by rw [decide_eq_false_iff_not]; omega
      go_wp2_with fail
      refine (usedPl_any _ p mb _ es2 _ HP2.out.st).mono ?_
      rintro e w5 ⟨rfl, rfl⟩
      rw [hsu]
      go_wp2_with fail
      refine (many_any _ p mb _ es2 _ HP2.out.st).mono ?_
      rintro e w5 ⟨rfl, rfl⟩
      rw [hsl]
      go_wp2_with fail
      refine (dropP_pu _ p mb _ es2 os [(v2, s)] (v1, s) _ (by have := HP2.out; rwa [List.append_assoc] at this) (by simp; omega)).mono ?_
      rintro e w6 ⟨rfl, rf3, es3, hpu3⟩
      have HP3 := Lib.hid hpu3
      have HB6 := Lib.hid (HB4.out.trans rf3.bel)
      have hsu3 := (HP3.out.rep.same HP1.out.rep HP3.out.st.kd HP1.out.st.kd (fun t => by simp [allT])).1
      clear hpu3 rf3
      go_wp2_with fail
      refine (usedPl_any _ p mb _ es3 _ HP3.out.st).mono ?_
      rintro e w7 ⟨rfl, rfl⟩
      rw [hsu3]
      go_wp2_with fail
      refine (dropP_pu _ p mb _ es3 os [] (v2, s) _ HP3.out (by simp; omega)).mono ?_
      rintro e w7 ⟨rfl, rf4, es4, hpu4⟩
      have HP4 := Lib.hid hpu4
      have HB7 := Lib.hid (HB6.out.trans rf4.bel)
      have hsame4 := HP4.out.rep.same HP0.out.rep HP4.out.st.kd HP0.out.st.kd (fun t => by simp)
      have hsu4 := hsame4.1
      have hsl4 := hsame4.2
      clear hpu4 rf4 hsame4
      go_wp2_with fail
      refine (usedPl_any _ p mb _ es4 _ HP4.out.st).mono ?_
      rintro e w8 ⟨rfl, rfl⟩
      rw [hsu4]
      go_wp2_with fail
      refine (many_any _ p mb _ es4 _ HP4.out.st).mono ?_
      rintro e w8 ⟨rfl, rfl⟩
      rw [hsl4]
      go_wp2_with fail
      go_ret
      exact ⟨rfl, HB7.out⟩
    · exfalso
      rcases hq with ⟨_, h⟩ | ⟨_, h⟩ | ⟨_, _, fs, hf, h⟩
      · omega
      · exact HREP1.out.nocoll HP1.out.st.kd h
      · have h0 := HREP1.out.again HP1.out.st.kd hf
        subst h0
        have h1 := HP1.out.many
        simp at h
        omega
  · have HP1 := Lib.hid hpu1
    have hq0' : (e1 == 0) = false := by rw [beq_eq_false_iff_ne]; rcases hq with h | h | h <;> omega
    clear hpu1 hq
    go_wp2_with fail
    refine (usedPl_any _ p mb _ es _ HP1.out.st).mono ?_
    rintro e w4 ⟨rfl, rfl⟩
    go_wp2_with fail
    refine (many_any _ p mb _ es _ HP1.out.st).mono ?_
    rintro e w4 ⟨rfl, rfl⟩
    go_wp2_with fail
    go_ret
    exact ⟨rfl, HB3.out⟩
end Go.Proofs.Ytnobcehiahcfkaa
namespace Go.Proofs.Ytnobcehiahcfkaa
set_option maxRecDepth 20000
open Go.RowKit Go.Shelf
theorem pick_es {es : List Pe} {cs : List ByteArray} (h : RepS es cs) : ∀ (ds : List ByteArray), (∀ t ∈ ds, t ∈ cs) → ∃ ys : List Pe, (∀ x ∈ ys, x ∈ es) ∧ ys.map (·.t) = ds ∧ ys.map (·.n) = ds.map hxn
  | [], _ => ⟨[], by simp, rfl, rfl⟩
  | t :: ds, hd => by
    obtain ⟨ys, h1, h2, h3⟩ := pick_es h ds (fun u hu => hd u (List.mem_cons_of_mem _ hu))
    obtain ⟨x, hx, e⟩ := h.mem t (hd t (by simp))
    refine ⟨x :: ys, fun y hy => (List.mem_cons.1 hy).elim (fun e => e ▸ hx) (h1 y), by rw [List.map_cons, h2, e], ?_⟩
    rw [List.map_cons, List.map_cons, h3, (h.ent x hx).1, e]
theorem mkS_flat (l : List (List UInt8)) : (l.map mkS).flatMap sl = l.flatten := by
  induction l with
  | nil => rfl
  | cons x l ih => rw [List.map_cons, List.flatMap_cons, ih, sl_mkS, List.flatten_cons]
theorem cutB_flat (s : ByteArray) : (cutB s).flatMap sl = sl s := by
  unfold cutB
  rw [mkS_flat, Pc.cut_flat]
theorem flatT_t (ys : List Pe) : flatT ys = (ys.map (·.t)).flatMap sl := by
  unfold flatT
  rw [List.flatMap_map]
theorem sumT_t (ys : List Pe) : sumT ys = ((ys.map (·.t)).map (·.size)).sum := by
  unfold sumT
  rw [List.map_map]
  rfl
/-- Get of one that was put. -/
theorem getP_pu (n0 p mb : Nat) (room : Int) (es : List Pe) (os : List Out) (x : Out) (w : World) (h : PU w n0 p mb room es os) (hx : x ∈ os) :
    Calls Try.prog 43 #[ptr p, x.1] w fun e w' => e = .returned (.tuple #[.string x.2, .int .i64 0]) ∧ Below w.heap.size w w' := by
  obtain ⟨ys, h1, h2, h3⟩ := pick_es h.rep (cutB x.2) (fun t ht => List.mem_flatMap.2 ⟨x, hx, ht⟩)
  have h5 := cutB_5000 (h.out.sz x hx)
  have hyl : ys.length = (cutB x.2).length := by rw [← h2, List.length_map]
  refine (getP_all n0 p mb room es ys x.1 w h.st h1 (by rw [h3]; exact SlR.of_owns (h.out.own x hx)) (by omega) h.rep.nz).mono ?_
  rintro e w' ⟨rfl, hb⟩
  rw [sumT_t, h2, cutB_sum, if_pos (h.out.sz x hx), flatT_t, h2, cutB_flat, mkS_sl]
  exact ⟨rfl, hb⟩
theorem used_le {es : List Pe} : ∀ {cs : List ByteArray}, (es.map (·.t)).Nodup → (∀ x ∈ es, x.t ∈ cs) → usedP es ≤ ((cs.map (·.size)).sum : Nat) := by
  induction es with
  | nil => intro cs _ _; simp [usedP]
  | cons x l ih =>
    intro cs hn hm
    rw [List.map_cons, List.nodup_cons] at hn
    obtain ⟨a, b, rfl⟩ := List.append_of_mem (hm x (by simp))
    have h1 := ih (cs := a ++ b) hn.2 (fun y hy => by
      have := hm y (List.mem_cons_of_mem _ hy)
      simp only [List.mem_append, List.mem_cons] at this ⊢
      rcases this with h | h | h
      · exact .inl h
      · exact absurd (List.mem_map.2 ⟨y, hy, h⟩) hn.1
      · exact .inr h)
    simp only [usedP, List.map_cons, List.sum_cons, List.map_append, List.sum_append] at h1 ⊢
    omega
def sumO (os : List Out) : Nat := (os.map fun x => x.2.size).sum
theorem sumO_all (os : List Out) : ((allT os).map (·.size)).sum = sumO os := by
  induction os with
  | nil => rfl
  | cons x l ih =>
    unfold allT sumO at ih ⊢
    rw [List.flatMap_cons, List.map_append, List.sum_append, ih, cutB_sum, List.map_cons, List.sum_cons]
theorem sumO_snoc (a : List Out) (x : Out) : sumO (a ++ [x]) = sumO a + x.2.size := by simp [sumO]
theorem sumO_le {os : List Out} (h : ∀ x ∈ os, x.2.size ≤ 5000) : sumO os ≤ 5000 * os.length := by
  induction os with
  | nil => simp [sumO]
  | cons x l ih =>
    have h1 := ih (fun y hy => h y (List.mem_cons_of_mem _ hy))
    have h2 := h x (by simp)
    simp only [sumO, List.map_cons, List.sum_cons, List.length_cons] at h1 ⊢
    omega
theorem PU.used_le {w : World} {n0 p mb : Nat} {room : Int} {es : List Pe} {os : List Out} (h : PU w n0 p mb room es os) : usedP es ≤ (sumO os : Nat) := by
  rw [← sumO_all]
  exact Go.Proofs.Ytnobcehiahcfkaa.used_le (h.rep.tnd h.st.kd) fun x hx => cntK_pos.1 (by have := h.rep.ent x hx; omega)
theorem PU.empty {w : World} {n0 p mb : Nat} {room : Int} {es : List Pe} (h : PU w n0 p mb room es []) : es = [] := by
  cases es with
  | nil => rfl
  | cons x l =>
    have h1 := h.rep.ent x (by simp)
    have h2 := cntK_le (allT []) x.t
    have h3 : (allT []).length = 0 := rfl
    omega
set_option maxHeartbeats 8000000 in
theorem pileEmpty_walk (v : Value) (xs : List Stp) (w : World) (h : SlR w e_st v xs) (hl : xs.length ≤ 418861572474) (hx : ∀ x ∈ xs, Wide x.k ∧ Wide x.a ∧ Wide x.b ∧ x.s.size ≤ maxLen ∧ x.t.size ≤ maxLen) :
    Calls Try.prog 14 #[v] w fun e w' => e = .returned (.bool true) ∧ Below w.heap.size w w' := by
  have HR0 := Lib.hid (piled_any v xs w h hl hx)
  obtain ⟨A, cp, rfl, hc⟩ := h.form
  clear h hx
  go_enter Try.func14, Try.ntmps14
  go_wp2_with fail
  refine HR0.out.mono ?_
  rintro e w1 ⟨p, mb, va, es, os, rfl, hpu, how, hol, b1⟩
  have HP0 := Lib.hid hpu
  have HO0 := Lib.hid how
  have HB1 := Lib.hid b1
  obtain ⟨Aa, ca, rfl⟩ := how.slice
  clear HR0 hpu b1 how
  go_wp2_with fail
  go_loopw [5, 21] (fun bv iv wr => ∃ (k : Nat), iv = .int .i64 (k : Int) ∧ k ≤ os.length ∧ bv = .int .i64 (sumO (os.take k) : Int) ∧ Below w1.heap.size w1 wr) (fun _ iv _ => os.length - (intOf iv).toNat)
  case atStart => exact ⟨0, rfl, Nat.zero_le _, rfl, Below.refl _ _⟩
  case round =>
    obtain ⟨k, rfl, hk, rfl, hbel⟩ := hrel
    have HBE := Lib.hid hbel
    have HPW := Lib.hid (HP0.out.below hbel)
    have HOW := Lib.hid (HO0.out.below hbel)
    clear hbel
    by_cases hlt : k < os.length
    · obtain ⟨g, off, c9, hv9, hc9, hg9, hcell⟩ := slr_out (SlR.of_owns HOW.out) (by omega)
      injection hv9 with f1 f2 f3
      subst f1 f3
      have c0 := hcell k hlt
      have HTK : Hid (os.take (k + 1) = os.take k ++ [os[k]]) := by show _ = _; rw [List.take_add_one, List.getElem?_eq_getElem hlt]; rfl
      have HM : Hid (os[k] ∈ os) := List.getElem_mem hlt
      have hz := HPW.out.out.sz os[k] HM.out
      have hsl := sumO_le (os := os.take k) (fun x hx => HPW.out.out.sz x (List.take_subset _ _ hx))
      rw [List.length_take] at hsl
      clear hcell f2
      generalize os[k] = o at *
      have hwr : IntKind.i64.wrap ((sumO (os.take k) : Int) + (o.2.size : Int)) = ((sumO (os.take (k + 1)) : Nat) : Int) := by rw [HTK.out, sumO_snoc, IntKind.wrap_i64]; omega
      go_wp2_with fail
      refine (getP_pu _ p mb _ es os o _ HPW.out HM.out).mono ?_
      rintro e w3 ⟨rfl, b3⟩
      have HB3 := Lib.hid (HBE.out.trans (b3.mono HBE.out.size))
      clear b3
      go_wp2_with fail
      exact ⟨⟨k + 1, by simp, by omega, rfl, HB3.out⟩, by simp only [intOf]; omega⟩
    · obtain rfl : k = os.length := by omega
      have htk : os.take os.length = os := List.take_of_length_le (Nat.le_refl _)
      rw [htk]
      have hul := HPW.out.used_le
      have hd : decide (((sumO os : Nat) : Int) < usedP es) = false := by rw [decide_eq_false_iff_not]; omega
      clear htk
      go_wp2_with fail
      refine (usedPl_any _ p mb _ es _ HPW.out.st).mono ?_
      rintro e w3 ⟨rfl, rfl⟩
      have hbw := HB1.out.trans (HBE.out.mono HB1.out.size)
      have HST : Hid (∃ es', PU wr w.heap.size p mb 1000000 es' (os.drop 0)) := ⟨es, HPW.out⟩
      go_wp2_with fail
      go_loopw [48] (fun iv wl => ∃ (k : Nat), iv = .int .i64 (k : Int) ∧ k ≤ os.length ∧ (∃ es', PU wl w.heap.size p mb 1000000 es' (os.drop k)) ∧ Owns wl w.heap.size 24 1 e_ot (.slice Aa os.length ca) os ∧ Below w.heap.size w wl) (fun iv _ => os.length - (intOf iv).toNat)
      case atStart => exact ⟨0, rfl, Nat.zero_le _, HST.out, HOW.out, hbw⟩
      case round =>
        obtain ⟨k, rfl, hk, ⟨es', hpu⟩, how, hbel⟩ := hrel
        have HPX := Lib.hid hpu
        have HOX := Lib.hid how
        have HBX := Lib.hid hbel
        clear hpu how hbel HST hbw
        by_cases hlt : k < os.length
        · obtain ⟨g, off, c9, hv9, hc9, hg9, hcell⟩ := slr_out (SlR.of_owns HOX.out) (by omega)
          injection hv9 with f1 f2 f3
          subst f1 f3
          have c0 := hcell k hlt
          have HDK : Hid (os.drop k = os[k] :: os.drop (k + 1)) := List.drop_eq_getElem_cons hlt
          clear hcell f2
          generalize os[k] = o at *
          go_wp2_with fail
          refine (dropP_pu _ p mb _ es' [] (os.drop (k + 1)) o _ (by rw [List.nil_append, ← HDK.out]; exact HPX.out) (by rw [List.nil_append, List.length_cons, List.length_drop]; omega)).mono ?_
          rintro e w3 ⟨rfl, rf3, es3, hpu3⟩
          have HP3 := Lib.hid hpu3
          have HO3 := Lib.hid (HOX.out.rf rf3 rfl)
          have HB3 := Lib.hid (HBX.out.trans rf3.bel)
          clear rf3 hpu3
          go_wp2_with fail
          exact ⟨⟨k + 1, by simp, by omega, ⟨es3, HP3.out⟩, HO3.out, HB3.out⟩, by simp only [intOf]; omega⟩
        · obtain rfl : k = os.length := by omega
          have hps := HPX.out
          rw [List.drop_of_length_le (Nat.le_refl _)] at hps
          obtain rfl := hps.empty
          have HPS := Lib.hid hps
          have hu0 : usedP [] = 0 := rfl
          clear hps
          go_wp2_with fail
          refine (usedPl_any _ p mb _ [] _ HPS.out.st).mono ?_
          rintro e w3 ⟨rfl, rfl⟩
          go_wp2_with fail
          refine (many_any _ p mb _ [] _ HPS.out.st).mono ?_
          rintro e w3 ⟨rfl, rfl⟩
          go_wp2_with fail
          go_ret
          exact ⟨rfl, HBX.out⟩
end Go.Proofs.Ytnobcehiahcfkaa
namespace Go.Proofs.Ytnobcehiahcfkaa
set_option maxRecDepth 20000
open Go.RowKit Go.Shelf
/-- 'v' is a slice of the call's own (from block 'base' on) that holds these cells, wherever in its block it begins. -/
def OwnO (w : World) (base : Nat) (e : TypeId) (v : Value) (l : List Value) : Prop :=
  (∃ A, v = .slice A 0 0 ∧ (A = none ∨ A ≠ none) ∧ l = []) ∨ ∃ g off cap cur, v = .slice (some ⟨g, off, none⟩) l.length cap ∧ base ≤ g ∧ w.heap[g]? = some (.cells cur e (0, 0)) ∧ l.length ≤ cap ∧ 0 < cap ∧ off + cap ≤ maxLen ∧ cur.size = off + cap ∧ (cur.toList.drop off).take l.length = l
section
variable {P : Program} {w w' : World} {base : Nat} {e : TypeId} {v : Value} {l : List Value}
theorem OwnO.nil (w : World) (base : Nat) (e : TypeId) : OwnO w base e (.slice none 0 0) [] := .inl ⟨_, rfl, .inl rfl, rfl⟩
/-- What may grow when it does. -/
def RowOf (w : World) (base : Nat) (e : TypeId) (row : Option Nat) : Prop := ∀ k, row = some k → base ≤ k ∧ ∃ cur, w.heap[k]? = some (.cells cur e (0, 0))
theorem OwnO.kept {row : Option Nat} (h : OwnO w base e v l) (hg : w.grownBy w' row) (hr : ∀ k, row = some k → ∀ cur, w.heap[k]? ≠ some (.cells cur e (0, 0))) : OwnO w' base e v l := by
  rcases h with h | ⟨g, off, cap, cur, hv, hb, hh, rest⟩
  · exact .inl h
  · exact .inr ⟨g, off, cap, cur, hv, hb, (hg.block g (Array.getElem?_eq_some_iff.1 hh).1 (fun e => hr g e.symm cur hh)).trans hh, rest⟩
theorem OwnO.alloc (h : OwnO w base e v l) (o : Obj) : OwnO (w.alloc o) base e v l := h.kept (World.grownBy_alloc w o none) (fun _ h => by cases h)
theorem OwnO.below (h : OwnO w base e v l) (hb : Below w.heap.size w w') : OwnO w' base e v l :=
  h.kept (row := none) ⟨hb.os, hb.tape, hb.output, hb.size, fun k hk _ => hb.block k hk⟩ (fun _ h => by cases h)
theorem OwnO.rf {ex : List TypeId} {n0 : Nat} (h : OwnO w base e v l) (hr : RF ex n0 w w') (ht : ex.contains e = false) : OwnO w' base e v l := by
  rcases h with h | ⟨g, off, cap, cur, hv, hb, hh, rest⟩
  · exact .inl h
  · exact .inr ⟨g, off, cap, cur, hv, hb, hr.fr g _ hh (by simp only [okObj, ht]; rfl), rest⟩
theorem OwnO.cell (h : OwnO w base e v l) (hn : 0 < l.length) : ∃ g off cap, v = .slice (some ⟨g, off, none⟩) l.length cap ∧ l.length ≤ cap ∧ ∀ j (hj : j < l.length), w.cell? ⟨g, off + j, none⟩ = some l[j] := by
  rcases h with ⟨_, _, _, rfl⟩ | ⟨g, off, cap, cur, hv, hb, hh, hn', _, _, hs, ht⟩
  · simp at hn
  · refine ⟨g, off, cap, hv, hn', fun j hj => ?_⟩
    simp only [World.cell?, hh]
    have := congrArg (fun l => l[j]?) ht
    simp only [List.getElem?_take, hj, if_true, List.getElem?_drop, List.getElem?_eq_getElem hj] at this
    simpa using this
theorem OwnO.form (h : OwnO w base e v l) : ∃ A cap, v = .slice A l.length cap ∧ l.length ≤ cap := by
  rcases h with ⟨A, rfl, _, rfl⟩ | ⟨g, off, cap, cur, hv, _, _, hn, _⟩
  · exact ⟨A, 0, rfl, Nat.le_refl _⟩
  · exact ⟨_, cap, hv, hn⟩
/-- Without the first one. -/
theorem OwnO.tail {g off n cap : Nat} {x : Value} (h : OwnO w base e (.slice (some ⟨g, off, none⟩) n cap) (x :: l)) (A : Option Addr) (hA : 1 < cap → A = some ⟨g, off + 1, none⟩) : OwnO w base e (.slice A (n - 1) (cap - 1)) l := by
  rcases h with ⟨_, _, _, h⟩ | ⟨g', off', cap', cur, hv, hb, hh, hn, h0, hm, hs, ht⟩
  · cases h
  · obtain ⟨rfl, rfl, rfl, rfl⟩ : g = g' ∧ off = off' ∧ n = (x :: l).length ∧ cap = cap' := by injection hv with h1 h2 h3; injection h1 with h1; injection h1 with h1 h4; exact ⟨h1, h4, h2, h3⟩
    rw [List.length_cons] at hn ht ⊢
    by_cases h1 : 1 < cap
    · rw [hA h1]
      refine .inr ⟨g, off + 1, cap - 1, cur, rfl, hb, hh, by omega, by omega, by omega, by omega, ?_⟩
      have h2 := congrArg (List.drop 1) ht
      rw [List.drop_take, List.drop_drop] at h2
      simpa using h2
    · obtain rfl : l = [] := List.eq_nil_of_length_eq_zero (by omega)
      obtain rfl : cap = 1 := by omega
      exact .inl ⟨A, rfl, by cases A <;> simp, rfl⟩
theorem wpList_append_off {ops : Array Oper} {rest : List Oper} {o : Oper} {a : Act} {Q : Exit → Act → World → Prop} (hgd : o.guard = none) (s x : Operand) (t : TypeId)
    (ho : o.op = .call { callee := .builtin .append, args := #[s, x], argTypes := #[t, t] })
    (base : Nat) (e : TypeId) (z : Value) (bytes : Nat) (ht : P.underlying t = some (.slice e)) (hi : ElemInfo P e z 1 bytes) (hz : z.cells.size = 1)
    (v : Value) (l : List Value) (hs : a.eval s = v) (hown : OwnO w base e v l) (ad : Addr) (c : Nat) (u : Value) (hx : a.eval x = .slice (some ad) 1 c) (hc : w.cell? (ad.add 0) = some u) (h1 : u.oneCell' = true)
    (h63 : l.length + 1 ≤ maxLen) (hb : (l.length + 1) * bytes ≤ 140737488355328) (hbase : base ≤ w.heap.size)
    (h : ∀ v' w' row, OwnO w' base e v' (l ++ [u]) → w.grownBy w' row → RowOf w base e row → wpList P ops Q rest (a.put o.dst v') w') : wpList P ops Q (o :: rest) a w := by
  obtain ⟨i, hi0, hz0, hz1, hz2⟩ := info_parts hi
  have hnew : ∀ j y, ([u] : List Value)[j]? = some y → w.cell? (ad.add j) = some y := by
    intro j y hj
    match j, hj with
    | 0, hj => rw [hc, ← hj]; rfl
    | j + 1, hj => simp at hj
  have hone : ∀ y ∈ ([u] : List Value), y.oneCell' = true := fun y hy => by rw [List.mem_singleton.1 hy]; exact h1
  have grow : ∀ v' w', w'.ownsRow w.heap.size e 1 v' (l.length + 1) (l ++ [u]) → OwnO w' base e v' (l ++ [u]) := by
    intro v' w' hr
    rcases hr.2 with ⟨_, h0⟩ | ⟨g, cap, cur, hv, hbg, hh, hn, hm, hsz, htk⟩
    · omega
    · refine .inr ⟨g, 0, cap, cur, by rw [hv, List.length_append]; rfl, by omega, hh, by rw [List.length_append]; exact hn, by omega, by omega, by omega, ?_⟩
      rw [List.drop_zero, List.length_append]
      simpa using htk
  rcases hown with ⟨A, rfl, hA, rfl⟩ | ⟨g, off, cap, cur, rfl, hbg, hg, hnc, h0, hcm, hcs, htake⟩
  · refine wpList_append_grows w hgd s x t ho e i z 1 bytes ht hi0 hz0 hz1 hz2 hz (by decide) A 0 0 [] hs (fun _ => ⟨rfl, rfl⟩) rfl (fun b hb j u hj => by simp at hj) ad 1 c [u] hx rfl hnew hone (by omega) (by simpa using h63) (by simpa using hb) ?_
    intro v' w' hr hg
    exact h v' w' none (grow v' w' (by simpa using hr)) hg (fun k hk => by cases hk)
  · have hcell : ∀ j y, l[j]? = some y → w.cell? ⟨g, off + j, none⟩ = some y := by
      intro j y hj
      obtain ⟨hj1, hj2⟩ := List.getElem?_eq_some_iff.1 hj
      simp only [World.cell?, hg]
      have := congrArg (fun l => l[j]?) htake
      simp only [List.getElem?_take, hj1, if_true, List.getElem?_drop, hj] at this
      simpa using this
    refine wpList_append_arg w hgd s x t ho e i z 1 bytes ht hi0 hz0 hz1 hz2 hz (by decide) g off l.length cap l hs (by omega) hcell ad 1 c [u] hx rfl hnew hone ?_ h63 hb ?_ ?_
    · intro hr j hj
      obtain rfl : j = 0 := by simpa using hj
      constructor
      · simp only [World.cell?, hg]
        rw [Array.getElem?_eq_getElem (by omega)]
        rfl
      · simp [World.frozen?, hg]
    · intro hr
      have hblk : Blk w g e cur := hg
      have hw : w.setCells g (off + l.length * 1) [u] = w.setCell ⟨g, off + l.length, none⟩ u := by simp [World.setCells]
      rw [hw]
      refine h _ _ (some g) (.inr ⟨g, off, cap, _, by rw [List.length_append]; rfl, hbg, hblk.set_ (off + l.length) u, by rw [List.length_append]; exact hr, h0, hcm, by simpa using hcs, ?_⟩) ⟨rfl, rfl, rfl, by simp [World.setCell], fun k _ hne => Below.heap_setCell _ _ _ _ (fun e => hne (by rw [e]))⟩ (fun k hk => by cases hk; exact ⟨hbg, cur, hg⟩)
      have hlc : off + l.length < cur.toList.length := by have h9 : cur.toList.length = cur.size := Array.length_toList; omega
      rw [Array.toList_setIfInBounds, List.length_append, List.length_singleton, List.drop_set, if_neg (Nat.not_lt.2 (Nat.le_add_right _ _)), Nat.add_sub_cancel_left, List.take_add_one, List.take_set_of_le (Nat.le_refl _), htake, List.getElem?_set_self (by rw [List.length_drop]; omega)]
      rfl
    · intro hr v' w' hrow hg2
      exact h v' w' none (grow v' w' hrow) hg2 (fun k hk => by cases hk)
end
end Go.Proofs.Ytnobcehiahcfkaa
namespace Go.Proofs.Ytnobcehiahcfkaa
set_option maxRecDepth 20000
open Go.RowKit Go.Shelf
/-- A list of lists somewhere in its block grows. -/
theorem PU.growO {w w' : World} {n0 p mb base : Nat} {room : Int} {es : List Pe} {os : List Out} {row : Option Nat} (h : PU w n0 p mb room es os) (hg : w.grownBy w' row) (hr : RowOf w base 24 row) : PU w' n0 p mb room es os := by
  refine ⟨(h.st.toT.keptO hg (fun k hk => ?_)).toS h.st.rm h.st.sz h.st.us, h.rep, h.many, ⟨fun x hx => (h.out.own x hx).grownOther hg ?_, h.out.sz⟩⟩
  · obtain ⟨_, cs, hh⟩ := hr k hk
    exact ⟨_, hh, rfl⟩
  · rcases (h.out.own x hx).2 with ⟨hv, _⟩ | ⟨g, cap, cur, hv, _, hh, _⟩
    · exact .inl (by rw [hv]; rfl)
    · right
      intro e
      rw [hv] at e
      obtain ⟨_, cs, hk⟩ := hr g (by rw [← e]; rfl)
      rw [hh] at hk
      injection hk with hk
      injection hk with _ h2
      revert h2
      decide
set_option maxHeartbeats 8000000 in
theorem pileBack_walk (s : ByteArray) (v : Value) (xs : List Stp) (w : World) (hs : s.size ≤ 140737488351232) (h : SlR w e_st v xs) (hl : xs.length ≤ 418861572474) (hx : ∀ x ∈ xs, Wide x.k ∧ Wide x.a ∧ Wide x.b ∧ x.s.size ≤ maxLen ∧ x.t.size ≤ maxLen) :
    Calls Try.prog 12 #[.string s, v] w fun e w' => e = .returned (.bool true) ∧ Below w.heap.size w w' := by
  have HV := Lib.hid (fun hn => h.rowN (size := 22) (fun _ => rfl) hn)
  have HX := Lib.hid hx
  obtain ⟨A, cp, rfl, hc⟩ := h.form
  clear h hx
  have HR0 := Lib.hid (piled_any (.slice none 0 0) [] w (SlR.nil _ _) (by simp) (by simp))
  go_enter Try.func12, Try.ntmps12
  go_wp2_with fail
  refine HR0.out.mono ?_
  rintro e w1 ⟨p, mb, va, es0, os0, rfl, hpu, _, hol, b1⟩
  obtain rfl : os0 = [] := List.eq_nil_of_length_eq_zero (by simpa using hol)
  obtain rfl := hpu.empty
  have HP0 := Lib.hid hpu
  have HB1 := Lib.hid b1
  clear HR0 hpu b1 hol
  go_wp2_with fail
  refine (putP_pu _ p mb _ [] [] s _ HP0.out (by simp)).mono ?_
  rintro e w3 ⟨v1, e1, rfl, rf1, hcase⟩
  have HB3 := Lib.hid (HB1.out.trans rf1.bel)
  clear rf1
  rcases hcase with ⟨rfl, hs1, es1, _, hpu1⟩ | ⟨rfl, _, hq⟩
  · have HP1 : Hid (PU w3 w.heap.size p mb 1000000 es1 ((v1, s) :: [])) := hpu1
    clear hpu1
    go_wp2_with fail
    go_loopw [9, 44] (fun av iv wr => ∃ (k : Nat) (es : List Pe) (os : List Out), iv = .int .i64 (k : Int) ∧ k ≤ xs.length ∧ PU wr w.heap.size p mb 1000000 es ((v1, s) :: os) ∧ OwnO wr w.heap.size 24 av (os.map (·.1)) ∧ os.length ≤ k ∧ Below w.heap.size w wr) (fun _ iv _ => xs.length - (intOf iv).toNat)
    case atStart => exact ⟨0, es1, [], rfl, Nat.zero_le _, HP1.out, OwnO.nil .., by simp, HB3.out⟩
    case round =>
      obtain ⟨k, es, os, rfl, hk, hpu, how, hol, hbel⟩ := hrel
      have HO := Lib.hid how
      clear HP1
      by_cases hlt : k < xs.length
      · obtain ⟨bb, off, c3, hv2, hc3, hbb, hcell⟩ := HV.out (by omega)
        injection hv2 with g1 g2 g3
        subst g1 g3
        have hC : wr.rangeAt bb (off + k * 22) (e_st xs[k]) := fun j v hv => (hbel.cell (p := ⟨bb, off + (k * 22) + j, none⟩) hbb).trans (by rw [Nat.add_assoc]; exact hcell k hlt j v hv)
        have hxk := HX.out xs[k] (List.getElem_mem hlt)
        clear hcell g2
        generalize xs[k] = x at *
        obtain ⟨hx1, hx2, hx3, hx4, hx5⟩ := hxk
        have hO := Lib.hid (fun (W : World) => of_any x 3 W hx1 (by decide))
        have hB := Blk.new wr 70 (e_st x).toArray
        have hpu5 := hpu.alloc (.cells (e_st x).toArray 70)
        have ho5 := how.alloc (.cells (e_st x).toArray 70)
        have hb5 := hbel.alloc hbel.size (.cells (e_st x).toArray 70)
        have hst : (storeCells ⟨wr.heap.size, 0, none⟩ (e_st x)).run Try.prog (wr.alloc (.cells stZ 70)) = .ok () (wr.alloc (.cells (e_st x).toArray 70)) :=
          run_storeCells_new (P := Try.prog) wr 70 stZ (e_st x).toArray (by kernel_rfl) (by simp [stZ, e_st]) (by simp [e_st, Value.oneCell'])
        unfold stZ at hst
        clear how
        go_wp2_with (first
          | refine wpList_load_mid rfl 70 (.tmp 46) rfl bb (off + k * 22) rfl (e_st x) _ hC Try.underlying70 rfl (by kernel_rfl) ?_
          | refine wpList_load_row rfl 70 (.tmp 11) rfl wr.heap.size rfl 70 (e_st x).toArray (0, 0) _ (heap_alloc_last wr _) Try.underlying70 rfl (by kernel_rfl) ?_)
        clear hst hC
        generalize wr.alloc _ = w5 at *
        refine (hO.out _).mono ?_
        rintro e w6 ⟨rfl, g6⟩
        have hpu6 := hpu5.below g6
        have ho6 := ho5.below g6
        have hB6 := hB.below g6 hB.lt
        have hb6 := hb5.trans (g6.mono hb5.size)
        have e3 : w6.cell? ⟨wr.heap.size, 3, none⟩ = some (.string x.s) := hB6.cell 3
        obtain ⟨xk, xa, xb, xS, xT, og, ou, oi⟩ := x
        dsimp only at hx1 hx2 hx3 hx4 hx5 e3 ⊢
        have HPU6 := Lib.hid hpu6
        have HO6 := Lib.hid ho6
        have HB6 := Lib.hid hb6
        clear hB hpu5 hb5 hpu6 hB6 hb6 g6 hpu hbel ho6 ho5 HO
        generalize (e_st _).toArray = X at *
        generalize wr.heap.size = bx at *
        have hm0 := Int.emod_nonneg xk (b := 3) (by decide)
        generalize hm : xk % 3 = m at *
        clear hm
        have hss : (s.toList == s.toList) = true := by simp
        by_cases hmp : 0 < m
        · have hd : decide (0 < m) = true := by rw [decide_eq_true_iff]; exact hmp
          go_wp2_with fail
          refine (putP_pu _ p mb 1000000 es ((v1, s) :: os) xS _ HPU6.out (by rw [List.length_cons]; omega)).mono ?_
          rintro e w7 ⟨v7, q, rfl, rf7, ⟨rfl, hs7, es', _, hpu7⟩ | ⟨rfl, hpu7, hq⟩⟩
          · have HO7 := Lib.hid (HO6.out.rf rf7 rfl)
            have HB7 := Lib.hid (HB6.out.trans rf7.bel)
            have HPU7 : Hid (PU w7 w.heap.size p mb 1000000 es' ((v1, s) :: (os ++ [(v7, xS)]))) := hpu7
            clear rf7 hpu7
            obtain ⟨A7, n7, c7, hv7⟩ : ∃ A n c, v7 = .slice A n c := by obtain ⟨A7, c7, h⟩ := (HPU7.out.out.own (v7, xS) (by simp)).slice; exact ⟨A7, _, c7, h⟩
            subst hv7
            have H1C : Hid ((Value.slice A7 n7 c7).oneCell' = true) := rfl
            have hn7 : w.heap.size ≤ w7.heap.size := HB7.out.size
            have HNC : Hid ((w7.alloc (.cells #[(Value.slice A7 n7 c7)] 24)).cell? ((⟨w7.heap.size, 0, none⟩ : Addr).add 0) = some (Value.slice A7 n7 c7)) := new_cells w7 [(Value.slice A7 n7 c7)] _ 0 (Value.slice A7 n7 c7) rfl
            have hml : (os.map (·.1)).length = os.length := List.length_map ..
            have HML := Lib.hid hml
            clear hml
            go_wp2_with (at_builtin; go_must (refine wpList_append_off rfl (.tmp 60) (.tmp 62) _ rfl w.heap.size 24 (.slice none 0 0) 24 Try.underlying59 sliceInfo rfl _ (os.map (·.1)) rfl (HO7.out.alloc _) ⟨w7.heap.size, 0, none⟩ 1 (Value.slice A7 n7 c7) rfl HNC.out H1C.out (by rw [HML.out]; simp only [maxLen]; omega) (by rw [HML.out]; omega) (by simp; omega) ?_); intro v8 w8 row8 ho8 hg8 hr8)
            have hpu8 := (HPU7.out.alloc (.cells #[(Value.slice A7 n7 c7)] 24)).growO hg8 hr8
            have hb8 := (HB7.out.alloc hn7 (.cells #[(Value.slice A7 n7 c7)] 24)).grown hg8 (by simp; omega) (fun j hj => (hr8 j hj).1)
            have HPU8 := Lib.hid hpu8
            have HO8 := Lib.hid ho8
            have HB8 := Lib.hid hb8
            clear hpu8 ho8 hb8 hg8 hr8 HPU7 HO7 HB7 HNC
            go_wp2_with fail
            refine (getP_pu _ p mb _ es' _ (v1, s) _ HPU8.out (by simp)).mono ?_
            rintro e w9 ⟨rfl, b9⟩
            have HP9 := Lib.hid (HPU8.out.below b9)
            have HO9 := Lib.hid (HO8.out.below b9)
            have HB9 := Lib.hid (HB8.out.trans (b9.mono HB8.out.size))
            clear b9
            go_wp2_with fail
            exact ⟨⟨k + 1, es', os ++ [((Value.slice A7 n7 c7), xS)], by simp, by omega, HP9.out, by rw [List.map_append]; exact HO9.out, by simp; omega, HB9.out⟩, by simp only [intOf]; omega⟩
          · have HO7 := Lib.hid (HO6.out.rf rf7 rfl)
            have HB7 := Lib.hid (HB6.out.trans rf7.bel)
            have HPU7 := Lib.hid hpu7
            clear rf7 hpu7
            have hq0 : (q == 0) = false := by rw [beq_eq_false_iff_ne]; rcases hq with h | h | h <;> omega
            clear hq
            go_wp2_with fail
            refine (getP_pu _ p mb _ es _ (v1, s) _ HPU7.out (by simp)).mono ?_
            rintro e w9 ⟨rfl, b9⟩
            have HP9 := Lib.hid (HPU7.out.below b9)
            have HO9 := Lib.hid (HO7.out.below b9)
            have HB9 := Lib.hid (HB7.out.trans (b9.mono HB7.out.size))
            clear b9
            go_wp2_with fail
            exact ⟨⟨k + 1, es, os, by simp, by omega, HP9.out, HO9.out, by omega, HB9.out⟩, by simp only [intOf]; omega⟩
        · have hd : decide (0 < m) = false := by rw [decide_eq_false_iff_not]; exact hmp
          obtain ⟨A8, c8, hv8, hc8⟩ := HO6.out.form
          rw [List.length_map] at hv8 hc8
          subst hv8
          cases os with
          | nil =>
            go_wp2_with fail
            refine (getP_pu _ p mb _ es _ (v1, s) _ HPU6.out (by simp)).mono ?_
            rintro e w9 ⟨rfl, b9⟩
            have HP9 := Lib.hid (HPU6.out.below b9)
            have HO9 := Lib.hid (HO6.out.below b9)
            have HB9 := Lib.hid (HB6.out.trans (b9.mono HB6.out.size))
            clear b9
            go_wp2_with fail
            exact ⟨⟨k + 1, es, [], by simp, by omega, HP9.out, HO9.out, by simp, HB9.out⟩, by simp only [intOf]; omega⟩
          | cons o os =>
            have hdn : decide ((0 : Int) < ((o :: os).length : Int)) = true := by rw [decide_eq_true_iff, List.length_cons]; omega
            obtain ⟨g, off, c9, hv9, hc9, hcell⟩ := HO6.out.cell (by simp)
            injection hv9 with f1 f2 f3
            subst f1 f3
            have c0 := hcell 0 (by simp)
            simp only [List.map_cons, List.getElem_cons_zero, Nat.add_zero] at c0
            have hol' : os.length + 1 ≤ k := hol
            clear hcell f2
            obtain ⟨A2, hA2⟩ : ∃ A2 : Option Addr, A2 = (if c8 = 1 then some ⟨g, off, none⟩ else some ⟨g, off + 1, none⟩) := ⟨_, rfl⟩
            have HA2 := Lib.hid hA2
            have hsl : ∀ W, (Instr.slice 59 (.slice (some ⟨g, off, none⟩) (os.length + 1) c8) (some (.int .i64 1)) none none).run Try.prog W = .ok (.slice A2 os.length (c8 - 1)) W := fun W => by rw [hA2]; exact run_from g off (os.length + 1) c8 0 W (by omega)
            clear hA2
            go_wp2_with fail
            refine (dropP_pu _ p mb 1000000 es [(v1, s)] os o _ HPU6.out (by simp; omega)).mono ?_
            rintro e w7 ⟨rfl, rf7, es', hpu7⟩
            have HO7 := Lib.hid (HO6.out.rf rf7 rfl)
            have HB7 := Lib.hid (HB6.out.trans rf7.bel)
            have HPU7 : Hid (PU w7 w.heap.size p mb 1000000 es' ((v1, s) :: os)) := hpu7
            clear rf7 hpu7 c0 e3
            have HOT : Hid (OwnO w7 w.heap.size 24 (.slice A2 os.length (c8 - 1)) (os.map (·.1))) := OwnO.tail HO7.out _ (fun h => by rw [HA2.out, if_neg (by omega)])
            go_wp2_with fail
            refine (getP_pu _ p mb _ es' _ (v1, s) _ HPU7.out (by simp)).mono ?_
            rintro e w9 ⟨rfl, b9⟩
            have HP9 := Lib.hid (HPU7.out.below b9)
            have HO9 := Lib.hid (HOT.out.below b9)
            have HB9 := Lib.hid (HB7.out.trans (b9.mono HB7.out.size))
            clear b9
            go_wp2_with fail
            exact ⟨⟨k + 1, es', os, by simp, by omega, HP9.out, HO9.out, by omega, HB9.out⟩, by simp only [intOf]; omega⟩
      · obtain rfl : k = xs.length := by omega
        have HPU' := Lib.hid hpu
        have HBE := Lib.hid hbel
        clear hpu hbel
        have hss : (s.toList == s.toList) = true := by simp
        go_wp2_with fail
        refine (getP_pu _ p mb _ es _ (v1, s) _ HPU'.out (by simp)).mono ?_
        rintro e w9 ⟨rfl, b9⟩
        have HB9 := Lib.hid (HBE.out.trans (b9.mono HBE.out.size))
        clear b9
        go_wp2_with fail
        go_ret
        exact ⟨rfl, HB9.out⟩
  · have hq' : e1 = 2 ∨ e1 = 9 := by
      rcases hq with ⟨h, _⟩ | ⟨h, _⟩ | ⟨_, h5, fs, hf, h⟩
      · exact .inl h
      · exact .inr h
      · exfalso
        have h1 := sub_sum hf.sub
        have h2 := cutB_sum s
        have h3 : fs.length ≤ (fs.map (·.size)).sum := len_le_sum fun t ht => (cutB_sizes (hf.sub.subset ht)).1
        simp [usedP] at h
        omega
    clear hq
    rcases hq' with rfl | rfl
    · go_wp2_with fail
      go_ret
      exact ⟨rfl, HB3.out⟩
    · go_wp2_with fail
      go_ret
      exact ⟨rfl, HB3.out⟩
end Go.Proofs.Ytnobcehiahcfkaa
