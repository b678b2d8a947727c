/- policy's has and there: what they answer. -/
import Derived.Test.YtiijgbgknolmcaaDirP
import Derived.Test.YtiijgbgknolmcaaCtlA
namespace Go.Proofs.Ytiijgbgknolmcaa
set_option maxRecDepth 20000
open Go.RowKit
namespace Dp
def wt (l : List Fld) : Nat := (l.map (fun f => f.1.size + f.2.size + 2)).sum
structure LOk (w : World) (u : Value) (l : List Fld) : Prop where
  sl : SlR w e_ss u l
  sum : wt l ≤ 4398046511104
theorem LOk.below {w w' : World} {u : Value} {l : List Fld} (h : LOk w u l) (hb : Below w.heap.size w w') : LOk w' u l := ⟨h.sl.below hb, h.sum⟩
theorem wt_len (l : List Fld) : l.length ≤ wt l := sum_len _ (fun _ => by omega) l
theorem wt_sum (l : List Fld) : (l.map (fun f => f.2.size + 2)).sum ≤ wt l := by
  unfold wt
  induction l with
  | nil => simp
  | cons x m ih => simp only [List.map_cons, List.sum_cons]; omega
theorem LOk.len {w : World} {u : Value} {l : List Fld} (h : LOk w u l) : l.length * 32 ≤ 140737488355328 := by have := wt_len l; have := h.sum; omega
theorem LOk.lims {w : World} {u : Value} {l : List Fld} (h : LOk w u l) : Lims l := fun f hf => by have := sum_mem (fun d : Fld => d.1.size + d.2.size + 2) hf; have := h.sum; unfold wt at this; omega
theorem LOk.join {w : World} {u : Value} {l : List Fld} (h : LOk w u l) (n : ByteArray) : (joinL (selF l n) sep2).length ≤ 140737488351232 := Nat.le_trans (selF_join l n) (by have := wt_sum l; have := h.sum; omega)
theorem LOk.txt {w : World} {u : Value} {l : List Fld} (h : LOk w u l) (n : ByteArray) : (txt l n).size ≤ 140737488351232 := by unfold Dp.txt joinS; rw [mkS_size]; exact h.join n

structure CapH (w : World) (g : Nat) (ds : List Dr) : Prop where
  lt : g < w.heap.size
  cell : ∃ v, w.cell? ⟨g, 0, none⟩ = some v ∧ SlR w e_sbs v ds
theorem CapH.below {w w' : World} {g : Nat} {ds : List Dr} (h : CapH w g ds) (hb : Below w.heap.size w w') : CapH w' g ds :=
  ⟨Nat.lt_of_lt_of_le h.lt hb.size, by obtain ⟨v, h1, h2⟩ := h.cell; exact ⟨v, (hb.cell h.lt).trans h1, h2.below hb⟩⟩
def fnH (g : Nat) : Value := .func (.func 36) #[] #[.pointer (some ⟨g, 0, none⟩)]
theorem oneH_any (n : ByteArray) (g : Nat) (ds : List Dr) (w : World) (h : CapH w g ds) (hn : n.size ≤ 140737488351232) (hds : ds.length ≤ 20) :
    Calls Try.prog 36 #[.string n, .pointer (some ⟨g, 0, none⟩)] w fun e w' => e = .returned (.bool (hasD ds n)) ∧ Below w.heap.size w w' := by
  obtain ⟨v, hc, hv⟩ := h.cell
  have HH : Hid (Calls Try.prog 37 #[v, .string n] w fun e w' => e = .returned (.bool (hasD ds n)) ∧ Below w.heap.size w w') := has_any v ds n w hv (by omega)
  have hg := h.lt
  clear h hv
  go_enter Try.func36, Try.ntmps36
  go_wp2_with fail
  refine HH.out.mono ?_
  rintro e w1 ⟨rfl, b1⟩
  go_wp2_with fail
  go_ret
  exact ⟨rfl, b1⟩
set_option maxHeartbeats 1600000 in
theorem indexH_any (v : Value) (xs : List ByteArray) (g : Nat) (ds : List Dr) (w : World) (h : SlR w es v xs) (hl : xs.length ≤ 140737488351232) (hx : ∀ x ∈ xs, x.size ≤ 140737488351232) (hc : CapH w g ds) (hds : ds.length ≤ 20) :
    Calls Try.prog 52 #[v, fnH g] w fun e w' => ((xs.any (fun n => hasD ds n) = true ∧ ∃ k : Nat, k < xs.length ∧ e = .returned (.int .i64 k)) ∨ (xs.any (fun n => hasD ds n) = false ∧ e = .returned (.int .i64 (-1)))) ∧ Below w.heap.size w w' := by
  have h2 := Lib.hid (fun hn => h.texts hn)
  obtain ⟨A, c, rfl, hcc, -⟩ := h
  have HC := Lib.hid hc
  clear hc
  unfold fnH
  go_enter Try.func52, Try.ntmps52
  go_wp2_with fail
  go_loopw [8] (fun i wr => ∃ k : Nat, k ≤ xs.length ∧ i = .int .i64 k ∧ (xs.take k).any (fun n => hasD ds n) = false ∧ Below w.heap.size w wr) (fun i _ => xs.length - (intOf i).toNat)
  case atStart => exact ⟨0, by omega, rfl, rfl, Below.refl _ _⟩
  case round =>
    obtain ⟨k, hk, rfl, hN, hbel⟩ := hrel
    have HN := Lib.hid hN
    clear hN
    by_cases hlt : k < xs.length
    · obtain ⟨b, o, c', he, _, hb, hcell⟩ := h2.out (by omega)
      obtain ⟨rfl, rfl⟩ : A = some ⟨b, o, none⟩ ∧ c = c' := by injection he with h1 h2 h3; exact ⟨h1, h3⟩
      have c0 := (hbel.cell (p := ⟨b, o + k, none⟩) hb).trans (hcell k hlt)
      have hxk := hx _ (List.getElem_mem hlt)
      have HT : Hid ((xs.take (k + 1)).any (fun n => hasD ds n) = (fun n => hasD ds n) xs[k]) := by
        show _ = _; rw [List.take_add_one, List.getElem?_eq_getElem hlt, List.any_append, HN.out]; simp
      have HA : Hid ((fun n => hasD ds n) xs[k] = true → xs.any (fun n => hasD ds n) = true) := fun hq => List.any_eq_true.2 ⟨xs[k], List.getElem_mem hlt, hq⟩
      clear hcell h2 he
      generalize xs[k] = n at *
      dsimp only at HT HA
      have HP := Lib.hid (fun w h => oneH_any n g ds w h hxk hds)
      cases hq : hasD ds n
      all_goals
        have HQ := Lib.hid hq
        clear hq
        go_wp2_with fail
        refine (HP.out _ (HC.out.below hbel)).mono ?_
        rintro e w1 ⟨rfl, b1⟩
        rw [HQ.out]
        go_wp2_with fail
      · go_roundw
        case rel => exact ⟨k + 1, by omega, by go_num, by rw [HT.out, HQ.out], hbel.trans (b1.mono hbel.size)⟩
        case measure => simp [intOf]; omega
      · go_ret
        exact ⟨.inl ⟨HA.out HQ.out, k, hlt, rfl⟩, hbel.trans (b1.mono hbel.size)⟩
    · have HA : Hid (xs.any (fun n => hasD ds n) = false) := by show _ = _; have := HN.out; rwa [List.take_of_length_le (by omega)] at this
      go_wp2_with fail
      go_ret
      exact ⟨.inr ⟨HA.out, rfl⟩, hbel⟩
theorem containsH_any (v : Value) (xs : List ByteArray) (g : Nat) (ds : List Dr) (w : World) (h : SlR w es v xs) (hl : xs.length ≤ 140737488351232) (hx : ∀ x ∈ xs, x.size ≤ 140737488351232) (hc : CapH w g ds) (hds : ds.length ≤ 20) :
    Calls Try.prog 35 #[v, fnH g] w fun e w' => e = .returned (.bool (xs.any (fun n => hasD ds n))) ∧ Below w.heap.size w w' := by
  have HI := Lib.hid (indexH_any v xs g ds w h hl hx hc hds)
  unfold fnH at *
  go_enter Try.func35, Try.ntmps35
  go_wp2_with fail
  refine HI.out.mono ?_
  rintro e w1 ⟨ha, b1⟩
  rcases ha with ⟨hm, k, hk, rfl⟩ | ⟨hm, rfl⟩
  all_goals
    have HM := Lib.hid hm
    clear hm
    go_wp2_with fail
    go_ret
    exact ⟨ret_bool (by rw [HM.out]; try simp), b1⟩
theorem has_pol (u v : Value) (ds : List Dr) (xs : List ByteArray) (w : World) (hu : SlR w e_sbs u ds) (h : SlR w es v xs) (hl : xs.length ≤ 140737488351232) (hx : ∀ x ∈ xs, x.size ≤ 140737488351232) (hds : ds.length ≤ 20) :
    Calls Try.prog 19 #[u, v] w fun e w' => e = .returned (.bool (xs.any (fun n => hasD ds n))) ∧ Below w.heap.size w w' := by
  have b0 : Below w.heap.size w (w.alloc (.cells #[u] 46)) := (Below.refl _ _).alloc (Nat.le_refl _) _
  have hc : CapH (w.alloc (.cells #[u] 46)) w.heap.size ds := ⟨by simp, ⟨u, by go_simp, hu.below b0⟩⟩
  have HC := Lib.hid (containsH_any v xs w.heap.size ds _ (h.below b0) hl hx hc hds)
  obtain ⟨A, c, rfl, -⟩ := h.form
  obtain ⟨A2, c2, rfl, -⟩ := (hu).form
  clear h hc hu
  unfold fnH at HC
  go_enter Try.func19, Try.ntmps19
  go_wp2_with fail
  refine HC.out.mono ?_
  rintro e w1 ⟨rfl, b1⟩
  go_wp2_with fail
  go_ret
  exact ⟨rfl, b0.trans (b1.mono b0.size)⟩

structure CapT (w : World) (g : Nat) (ds : List Fld) : Prop where
  lt : g < w.heap.size
  cell : ∃ v, w.cell? ⟨g, 0, none⟩ = some v ∧ LOk w v ds
theorem CapT.below {w w' : World} {g : Nat} {ds : List Fld} (h : CapT w g ds) (hb : Below w.heap.size w w') : CapT w' g ds :=
  ⟨Nat.lt_of_lt_of_le h.lt hb.size, by obtain ⟨v, h1, h2⟩ := h.cell; exact ⟨v, (hb.cell h.lt).trans h1, h2.below hb⟩⟩
def fnT (g : Nat) : Value := .func (.func 38) #[] #[.pointer (some ⟨g, 0, none⟩)]
theorem oneT_any (n : ByteArray) (g : Nat) (ds : List Fld) (w : World) (h : CapT w g ds) (hn : n.size ≤ 140737488351232) :
    Calls Try.prog 38 #[.string n, .pointer (some ⟨g, 0, none⟩)] w fun e w' => e = .returned (.bool (isR ds n)) ∧ Below w.heap.size w w' := by
  obtain ⟨v, hc, hv⟩ := h.cell
  have HH : Hid (Calls Try.prog 12 #[v, .string n] w fun e w' => e = .returned (.tuple #[.string (txt ds n), .bool (isR ds n)]) ∧ Below w.heap.size w w') := get_any v ds n w hv.sl hv.len hv.lims hn (hv.join n)
  have hg := h.lt
  clear h hv
  generalize txt ds n = T at *
  generalize isR ds n = q at *
  go_enter Try.func38, Try.ntmps38
  go_wp2_with fail
  refine HH.out.mono ?_
  rintro e w1 ⟨rfl, b1⟩
  go_wp2_with fail
  go_ret
  exact ⟨rfl, b1⟩
set_option maxHeartbeats 1600000 in
theorem indexT_any (v : Value) (xs : List ByteArray) (g : Nat) (ds : List Fld) (w : World) (h : SlR w es v xs) (hl : xs.length ≤ 140737488351232) (hx : ∀ x ∈ xs, x.size ≤ 140737488351232) (hc : CapT w g ds) :
    Calls Try.prog 52 #[v, fnT g] w fun e w' => ((xs.any (fun n => isR ds n) = true ∧ ∃ k : Nat, k < xs.length ∧ e = .returned (.int .i64 k)) ∨ (xs.any (fun n => isR ds n) = false ∧ e = .returned (.int .i64 (-1)))) ∧ Below w.heap.size w w' := by
  have h2 := Lib.hid (fun hn => h.texts hn)
  obtain ⟨A, c, rfl, hcc, -⟩ := h
  have HC := Lib.hid hc
  clear hc
  unfold fnT
  go_enter Try.func52, Try.ntmps52
  go_wp2_with fail
  go_loopw [8] (fun i wr => ∃ k : Nat, k ≤ xs.length ∧ i = .int .i64 k ∧ (xs.take k).any (fun n => isR ds n) = false ∧ Below w.heap.size w wr) (fun i _ => xs.length - (intOf i).toNat)
  case atStart => exact ⟨0, by omega, rfl, rfl, Below.refl _ _⟩
  case round =>
    obtain ⟨k, hk, rfl, hN, hbel⟩ := hrel
    have HN := Lib.hid hN
    clear hN
    by_cases hlt : k < xs.length
    · obtain ⟨b, o, c', he, _, hb, hcell⟩ := h2.out (by omega)
      obtain ⟨rfl, rfl⟩ : A = some ⟨b, o, none⟩ ∧ c = c' := by injection he with h1 h2 h3; exact ⟨h1, h3⟩
      have c0 := (hbel.cell (p := ⟨b, o + k, none⟩) hb).trans (hcell k hlt)
      have hxk := hx _ (List.getElem_mem hlt)
      have HT : Hid ((xs.take (k + 1)).any (fun n => isR ds n) = (fun n => isR ds n) xs[k]) := by
        show _ = _; rw [List.take_add_one, List.getElem?_eq_getElem hlt, List.any_append, HN.out]; simp
      have HA : Hid ((fun n => isR ds n) xs[k] = true → xs.any (fun n => isR ds n) = true) := fun hq => List.any_eq_true.2 ⟨xs[k], List.getElem_mem hlt, hq⟩
      clear hcell h2 he
      generalize xs[k] = n at *
      dsimp only at HT HA
      have HP := Lib.hid (fun w h => oneT_any n g ds w h hxk)
      cases hq : isR ds n
      all_goals
        have HQ := Lib.hid hq
        clear hq
        go_wp2_with fail
        refine (HP.out _ (HC.out.below hbel)).mono ?_
        rintro e w1 ⟨rfl, b1⟩
        rw [HQ.out]
        go_wp2_with fail
      · go_roundw
        case rel => exact ⟨k + 1, by omega, by go_num, by rw [HT.out, HQ.out], hbel.trans (b1.mono hbel.size)⟩
        case measure => simp [intOf]; omega
      · go_ret
        exact ⟨.inl ⟨HA.out HQ.out, k, hlt, rfl⟩, hbel.trans (b1.mono hbel.size)⟩
    · have HA : Hid (xs.any (fun n => isR ds n) = false) := by show _ = _; have := HN.out; rwa [List.take_of_length_le (by omega)] at this
      go_wp2_with fail
      go_ret
      exact ⟨.inr ⟨HA.out, rfl⟩, hbel⟩
theorem containsT_any (v : Value) (xs : List ByteArray) (g : Nat) (ds : List Fld) (w : World) (h : SlR w es v xs) (hl : xs.length ≤ 140737488351232) (hx : ∀ x ∈ xs, x.size ≤ 140737488351232) (hc : CapT w g ds) :
    Calls Try.prog 35 #[v, fnT g] w fun e w' => e = .returned (.bool (xs.any (fun n => isR ds n))) ∧ Below w.heap.size w w' := by
  have HI := Lib.hid (indexT_any v xs g ds w h hl hx hc)
  unfold fnT at *
  go_enter Try.func35, Try.ntmps35
  go_wp2_with fail
  refine HI.out.mono ?_
  rintro e w1 ⟨ha, b1⟩
  rcases ha with ⟨hm, k, hk, rfl⟩ | ⟨hm, rfl⟩
  all_goals
    have HM := Lib.hid hm
    clear hm
    go_wp2_with fail
    go_ret
    exact ⟨ret_bool (by rw [HM.out]; try simp), b1⟩
theorem there_pol (u v : Value) (ds : List Fld) (xs : List ByteArray) (w : World) (hu : LOk w u ds) (h : SlR w es v xs) (hl : xs.length ≤ 140737488351232) (hx : ∀ x ∈ xs, x.size ≤ 140737488351232) :
    Calls Try.prog 20 #[u, v] w fun e w' => e = .returned (.bool (xs.any (fun n => isR ds n))) ∧ Below w.heap.size w w' := by
  have b0 : Below w.heap.size w (w.alloc (.cells #[u] 22)) := (Below.refl _ _).alloc (Nat.le_refl _) _
  have hc : CapT (w.alloc (.cells #[u] 22)) w.heap.size ds := ⟨by simp, ⟨u, by go_simp, hu.below b0⟩⟩
  have HC := Lib.hid (containsT_any v xs w.heap.size ds _ (h.below b0) hl hx hc)
  obtain ⟨A, c, rfl, -⟩ := h.form
  obtain ⟨A2, c2, rfl, -⟩ := (hu.sl).form
  clear h hc hu
  unfold fnT at HC
  go_enter Try.func20, Try.ntmps20
  go_wp2_with fail
  refine HC.out.mono ?_
  rintro e w1 ⟨rfl, b1⟩
  go_wp2_with fail
  go_ret
  exact ⟨rfl, b0.trans (b1.mono b0.size)⟩
end Dp
end Go.Proofs.Ytiijgbgknolmcaa
