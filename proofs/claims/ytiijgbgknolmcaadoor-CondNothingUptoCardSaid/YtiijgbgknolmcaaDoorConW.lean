/- cond's tags and since: what they answer. -/
import Derived.Test.YtiijgbgknolmcaaDoorConP
import Derived.Test.YtiijgbgknolmcaaDoorTagA
namespace Go.Proofs.YtiijgbgknolmcaaDoor
set_option maxRecDepth 20000
open Go.RowKit
namespace Cn
/-- etag.Strong or etag.Weak, as a value. -/
def sfn (st : Bool) : Value := .func (.func (if st = true then 32 else 34)) #[] #[]
def sameF (st : Bool) : Tg.Tag → Tg.Tag → Bool := if st = true then strongF else weakF
/-- The thing, as a value. -/
def thV (there tagged : Bool) (t : Tg.Tag) (m : Int) : Value := .agg #[.bool there, .bool tagged, .bool t.1, .string t.2, .int .i64 m]
def tfn (gs gt : Nat) : Value := .func (.func 62) #[] #[.pointer (some ⟨gs, 0, none⟩), .pointer (some ⟨gt, 0, none⟩)]
/-- What the closure has captured. -/
structure Caps (w : World) (gs gt : Nat) (st : Bool) (t : Tg.Tag) : Prop where
  hs : gs < w.heap.size
  ht : gt < w.heap.size
  cs : w.cell? ⟨gs, 0, none⟩ = some (sfn st)
  c2 : w.cell? ⟨gt, 2, none⟩ = some (.bool t.1)
  c3 : w.cell? ⟨gt, 3, none⟩ = some (.string t.2)
theorem Caps.below {w w' : World} {gs gt : Nat} {st : Bool} {t : Tg.Tag} (h : Caps w gs gt st t) (hb : Below w.heap.size w w') : Caps w' gs gt st t :=
  ⟨Nat.lt_of_lt_of_le h.hs hb.size, Nat.lt_of_lt_of_le h.ht hb.size, (hb.cell h.hs).trans h.cs, (hb.cell h.ht).trans h.c2, (hb.cell h.ht).trans h.c3⟩
set_option maxHeartbeats 1600000 in
theorem tags1_any (x t : Tg.Tag) (gs gt : Nat) (st : Bool) (w : World) (h : Caps w gs gt st t) :
    Calls Tryd.prog 62 #[.agg #[.bool x.1, .string x.2], .pointer (some ⟨gs, 0, none⟩), .pointer (some ⟨gt, 0, none⟩)] w fun e w' => e = .returned (.bool (sameF st x t)) ∧ Below w.heap.size w w' := by
  obtain ⟨xw, xs⟩ := x
  obtain ⟨tw, ts⟩ := t
  have b0 : Below w.heap.size w (w.alloc (.cells #[.bool xw, .string xs] 30)) := (Below.refl _ _).alloc (Nat.le_refl _) _
  obtain ⟨h1, h2, c1, c2, c3⟩ := h
  cases st
  all_goals
    unfold sfn at c1
    go_enter Tryd.func62, Tryd.ntmps62
    go_wp2_with fail
  · refine (weak_any xw tw xs ts _).mono ?_
    rintro e w1 ⟨rfl, b1⟩
    go_wp2_with fail
    go_ret
    exact ⟨rfl, b0.trans (b1.mono (by simp))⟩
  · refine (strong_any xw tw xs ts _).mono ?_
    rintro e w1 ⟨rfl, b1⟩
    go_wp2_with fail
    go_ret
    exact ⟨rfl, b0.trans (b1.mono (by simp))⟩
set_option maxHeartbeats 1600000 in
theorem indexTag_any (v : Value) (l : List Tg.Tag) (t : Tg.Tag) (gs gt : Nat) (st : Bool) (w : World) (h : SlR w e_bs v l) (hl : l.length ≤ 140737488351232) (hc : Caps w gs gt st t) :
    Calls Tryd.prog 76 #[v, tfn gs gt] w fun e w' => ((l.any (fun x => sameF st x t) = true ∧ ∃ k : Nat, k < l.length ∧ e = .returned (.int .i64 k)) ∨ (l.any (fun x => sameF st x t) = false ∧ e = .returned (.int .i64 (-1)))) ∧ Below w.heap.size w w' := by
  have h2 := Lib.hid (fun hn => h.two (fun _ => rfl) hn)
  obtain ⟨A, c, rfl, hcc, -⟩ := h
  have HC := Lib.hid hc
  clear hc
  unfold tfn
  go_enter Tryd.func76, Tryd.ntmps76
  go_wp2_with fail
  go_loopw [8] (fun i wr => ∃ k : Nat, k ≤ l.length ∧ i = .int .i64 k ∧ (l.take k).any (fun x => sameF st x t) = false ∧ Below w.heap.size w wr) (fun i _ => l.length - (intOf i).toNat)
  case atStart => exact ⟨0, by omega, rfl, rfl, Below.refl _ _⟩
  case round =>
    obtain ⟨k, hk, rfl, hN, hbel⟩ := hrel
    have HN := Lib.hid hN
    clear hN
    by_cases hlt : k < l.length
    · obtain ⟨b, o, c', he, hb, hcell⟩ := h2.out (by omega)
      obtain ⟨rfl, rfl⟩ : A = some ⟨b, o, none⟩ ∧ c = c' := by injection he with h1 h2 h3; exact ⟨h1, h3⟩
      obtain ⟨q0, q1⟩ := hcell k hlt (.bool l[k].1) (.string l[k].2) rfl rfl
      have c0 := (hbel.cell (p := ⟨b, o + k * 2, none⟩) hb).trans q0
      have c1 := (hbel.cell (p := ⟨b, o + k * 2 + 1, none⟩) hb).trans q1
      clear hcell h2 q0 q1 he
      have HT : Hid ((l.take (k + 1)).any (fun x => sameF st x t) = sameF st l[k] t) := by
        show _ = _; rw [List.take_add_one, List.getElem?_eq_getElem hlt, List.any_append, HN.out]; simp
      have HA : Hid (sameF st l[k] t = true → l.any (fun x => sameF st x t) = true) := fun hq => List.any_eq_true.2 ⟨l[k], List.getElem_mem hlt, hq⟩
      generalize l[k] = f at c0 c1 HT HA
      cases hq : sameF st f t
      all_goals
        have HQ := Lib.hid hq
        clear hq
        go_wp2_with fail
        refine (tags1_any f t gs gt st _ (HC.out.below hbel)).mono ?_
        rintro e w1 ⟨rfl, b1⟩
        rw [HQ.out]
        go_wp2_with fail
      · go_roundw
        case rel => exact ⟨k + 1, by omega, by go_num, by rw [HT.out, HQ.out], hbel.trans (b1.mono hbel.size)⟩
        case measure => simp [intOf]; omega
      · go_ret
        exact ⟨.inl ⟨HA.out HQ.out, k, hlt, rfl⟩, hbel.trans (b1.mono hbel.size)⟩
    · have HA : Hid (l.any (fun x => sameF st x t) = false) := by show _ = _; have := HN.out; rwa [List.take_of_length_le (by omega)] at this
      go_wp2_with fail
      go_ret
      exact ⟨.inr ⟨HA.out, rfl⟩, hbel⟩
theorem containsTag_any (v : Value) (l : List Tg.Tag) (t : Tg.Tag) (gs gt : Nat) (st : Bool) (w : World) (h : SlR w e_bs v l) (hl : l.length ≤ 140737488351232) (hc : Caps w gs gt st t) :
    Calls Tryd.prog 61 #[v, tfn gs gt] w fun e w' => e = .returned (.bool (l.any (fun x => sameF st x t))) ∧ Below w.heap.size w w' := by
  have HI := Lib.hid (indexTag_any v l t gs gt st w h hl hc)
  unfold tfn at *
  go_enter Tryd.func61, Tryd.ntmps61
  go_wp2_with fail
  refine HI.out.mono ?_
  rintro e w1 ⟨ha, b1⟩
  rcases ha with ⟨hm, k, hk, rfl⟩ | ⟨hm, rfl⟩
  all_goals
    have HM := Lib.hid hm
    clear hm
    go_wp2_with fail
    go_ret
    exact ⟨ret_bool (by rw [HM.out]; try simp), b1⟩
theorem list_len {s : List UInt8} {b : Bool} {ts : List Tg.Tag} (h : Tg.listF s = .ok (b, ts)) : ts.length ≤ 20 := by
  have hf : ∀ {out ts : List Tg.Tag}, Tg.fin out = .ok ts → ts.length ≤ 20 := by
    intro out ts h
    unfold Tg.fin at h
    split at h
    · cases h
    · split at h
      · cases h
      · injection h with h; subst h; omega
  have hg : ∀ (n : Nat) (out : List Tg.Tag) (s : List UInt8) (ts : List Tg.Tag), Tg.listG n out s = .ok ts → ts.length ≤ 20 := by
    intro n
    induction n with
    | zero => intro out s ts h; exact hf h
    | succ n ih =>
      intro out s ts h
      unfold Tg.listG at h
      split at h
      · exact hf h
      · split at h
        · exact ih _ _ _ h
        · split at h
          · cases h
          · split at h
            · exact hf h
            · split at h
              · exact ih _ _ _ h
              · cases h
  unfold Tg.listF at h
  split at h
  · cases h
  · split at h
    · injection h with h; injection h with h1 h2; subst h2; simp
    · split at h
      · cases h
      · rename_i hl
        injection h with h; injection h with h1 h2; subst h2
        exact hg _ _ _ _ hl
/-- What tags asks of the fields. -/
structure FOk (w : World) (u : Value) (l : List Fld) : Prop where
  sl : SlR w e_ss u l
  len : l.length * 32 ≤ 140737488355328
  lims : Lims l
theorem FOk.below {w w' : World} {u : Value} {l : List Fld} (h : FOk w u l) (hb : Below w.heap.size w w') : FOk w' u l := ⟨h.sl.below hb, h.len, h.lims⟩
theorem getT_any (u : Value) (l : List Fld) (n : ByteArray) (w : World) (h : FOk w u l) (hn : n.size ≤ 140737488351232) (hj : (joinL (selF l n) sep2).length ≤ 140737488351232) :
    Calls Tryd.prog 24 #[u, .string n] w fun e w' => e = .returned (.tuple #[.string (txt l n), .bool (isR l n)]) ∧ Below w.heap.size w w' := get_any u l n w h.sl h.len h.lims hn hj
theorem tagsF_off {there tagged : Bool} {tag : Tg.Tag} {l : List Fld} {name : ByteArray} {same : Tg.Tag → Tg.Tag → Bool} (h : isR l name = false) : tagsF there tagged tag l name same = (false, false) := by
  unfold tagsF; rw [if_pos h]
theorem tagsF_err {there tagged : Bool} {tag : Tg.Tag} {l : List Fld} {name : ByteArray} {same : Tg.Tag → Tg.Tag → Bool} {c : Int} (h : isR l name = true) (he : Tg.listF (sl (txt l name)) = .error c) : tagsF there tagged tag l name same = (false, false) := by
  unfold tagsF; rw [if_neg (by rw [h]; simp), he]
theorem tagsF_ok {there tagged : Bool} {tag : Tg.Tag} {l : List Fld} {name : ByteArray} {same : Tg.Tag → Tg.Tag → Bool} {p : Bool × List Tg.Tag} (h : isR l name = true) (he : Tg.listF (sl (txt l name)) = .ok p) : tagsF there tagged tag l name same = if (p.1 || !there) = true then (true, there) else (true, tagged && p.2.any (fun x => same x tag)) := by
  unfold tagsF; rw [if_neg (by rw [h]; simp), he]
theorem list_code {s : List UInt8} {c : Int} (h : Tg.listF s = .error c) : 2 ≤ c ∧ c ≤ 3 := by
  have hg : ∀ (n : Nat) (out : List Tg.Tag) (s : List UInt8) (c : Int), Tg.listG n out s = .error c → 2 ≤ c ∧ c ≤ 3 := by
    intro n
    induction n with
    | zero => intro out s c h; exact Tg.fin_code h
    | succ n ih =>
      intro out s c h
      unfold Tg.listG at h
      split at h
      · exact Tg.fin_code h
      · split at h
        · exact ih _ _ _ h
        · split at h
          · injection h with h; omega
          · split at h
            · exact Tg.fin_code h
            · split at h
              · exact ih _ _ _ h
              · injection h with h; omega
  unfold Tg.listF at h
  split at h
  · injection h with h; omega
  · split at h
    · cases h
    · split at h
      · rename_i hl
        injection h with h; subst h
        exact hg _ _ _ _ hl
      · cases h
theorem ret_bb {a b c d : Bool} (h : (a, b) = (c, d)) : Ending.returned (.tuple #[.bool a, .bool b]) = .returned (.tuple #[.bool c, .bool d]) := by injection h with h1 h2; rw [h1, h2]
set_option maxHeartbeats 3200000 in
theorem tags_any (there tagged : Bool) (t : Tg.Tag) (m : Int) (u : Value) (l : List Fld) (n : ByteArray) (st : Bool) (w : World) (h : FOk w u l) (hn : n.size ≤ 140737488351232) (hj : (joinL (selF l n) sep2).length ≤ 140737488351232) :
    Calls Tryd.prog 31 #[thV there tagged t m, u, .string n, sfn st] w fun e w' => e = .returned (.tuple #[.bool (tagsF there tagged t l n (sameF st)).1, .bool (tagsF there tagged t l n (sameF st)).2]) ∧ Below w.heap.size w w' := by
  obtain ⟨tw, tx⟩ := t
  have HG := Lib.hid (fun w (h : FOk w u l) => getT_any u l n w h hn hj)
  have HOFF := Lib.hid (tagsF_off (there := there) (tagged := tagged) (tag := (tw, tx)) (l := l) (name := n) (same := sameF st))
  have HERR := Lib.hid (fun c => tagsF_err (there := there) (tagged := tagged) (tag := (tw, tx)) (l := l) (name := n) (same := sameF st) (c := c))
  have HOK := Lib.hid (fun p => tagsF_ok (there := there) (tagged := tagged) (tag := (tw, tx)) (l := l) (name := n) (same := sameF st) (p := p))
  have b0 : Below w.heap.size w ((w.alloc (.cells #[.bool there, .bool tagged, .bool tw, .string tx, .int .i64 m] 66)).alloc (.cells #[sfn st] 69)) := ((Below.refl _ _).alloc (Nat.le_refl _) _).alloc (by simp) _
  have HF := Lib.hid (h.below b0)
  clear h hn hj
  generalize tagsF there tagged (tw, tx) l n (sameF st) = R at *
  obtain ⟨r1, r2⟩ := R
  unfold thV
  go_enter Tryd.func31, Tryd.ntmps31
  go_wp2_with fail
  refine (HG.out _ HF.out).mono ?_
  rintro e w1 ⟨rfl, b1⟩
  have b01 := b0.trans (b1.mono b0.size)
  have hlt : ((w.alloc (.cells #[.bool there, .bool tagged, .bool tw, .string tx, .int .i64 m] 66)).alloc (.cells #[sfn st] 69)).heap.size = w.heap.size + 2 := by simp
  have g0 : w1.cell? ⟨w.heap.size, 0, none⟩ = some (.bool there) := (b1.cell (by rw [hlt]; simp)).trans (by go_simp)
  have g1 : w1.cell? ⟨w.heap.size, 1, none⟩ = some (.bool tagged) := (b1.cell (by rw [hlt]; simp)).trans (by go_simp)
  have g2 : w1.cell? ⟨w.heap.size, 2, none⟩ = some (.bool tw) := (b1.cell (by rw [hlt]; simp)).trans (by go_simp)
  have g3 : w1.cell? ⟨w.heap.size, 3, none⟩ = some (.string tx) := (b1.cell (by rw [hlt]; simp)).trans (by go_simp)
  have gs : w1.cell? ⟨w.heap.size + 1, 0, none⟩ = some (sfn st) := (b1.cell (by rw [hlt]; simp)).trans (by go_simp)
  have hz1 : w.heap.size + 2 ≤ w1.heap.size := by rw [← hlt]; exact b1.size
  have HC1 : Hid (Caps w1 (w.heap.size + 1) w.heap.size st (tw, tx)) := ⟨by omega, by omega, gs, g2, g3⟩
  clear HG HF b1 b0 g2 g3 gs hlt
  generalize txt l n = T at *
  cases hR : isR l n
  · have HR := Lib.hid (HOFF.out hR)
    go_wp2_with fail
    go_ret2
    exact ⟨ret_bb HR.out.symm, b01⟩
  have HERR2 := Lib.hid (fun c h => HERR.out c hR h)
  have HOK2 := Lib.hid (fun p h => HOK.out p hR h)
  clear HERR HOK HOFF hR
  go_wp2_with fail
  refine (list_any T _).mono ?_
  rintro e w2 ⟨ha, b2⟩
  have b02 := b01.trans (b2.mono b01.size)
  have f0 := (b2.cell (p := ⟨w.heap.size, 0, none⟩) (by show w.heap.size < _; omega)).trans g0
  have f1 := (b2.cell (p := ⟨w.heap.size, 1, none⟩) (by show w.heap.size < _; omega)).trans g1
  have hz2 : w.heap.size < w2.heap.size := by have := b2.size; omega
  have HC2 := Lib.hid (HC1.out.below b2)
  clear g0 g1 HC1
  rcases ha with ⟨c, hc, rfl⟩ | ⟨hc, rfl⟩ | ⟨ts, v, hc, rfl, ho⟩
  · have HR := Lib.hid (HERR2.out c hc)
    have hcc := list_code hc
    have hne : (c != 0) = true := by simp; omega
    clear hc
    go_wp2_with fail
    go_ret2
    exact ⟨ret_bb HR.out.symm, b02⟩
  · have HR := Lib.hid (HOK2.out _ hc)
    have HX := Lib.hid (fun w' (hb : Below w2.heap.size w2 w') => (hb.cell (p := ⟨w.heap.size, 0, none⟩) hz2).trans f0)
    clear hc
    go_wp2_with fail
    refine wp_region_seq [(true, 0), (true, 1), (true, 2), (true, 3)] (fun w' => Below w2.heap.size w2 w') (by kernel_rfl) (by kernel_rfl) (fun _ _ _ _ _ h => h) (by kernel_rfl) (by kernel_rfl) (by first | exact (Below.refl _ _).drew | exact Below.drew (by assumption)) ?_
    have bS : Below w2.heap.size w2 _ := (by first | exact Below.drew (by assumption) | exact (Below.refl _ w2).drew)
    iterate 4 (first
      | (apply seqH_skip; (focus (simp only [List.getElem?_toArray, List.getElem?_cons_succ, List.getElem?_cons_zero]; rfl)); (focus rfl); simp only [Act.put, List.setIfInBounds_toArray, List.set_cons_zero, List.set_cons_succ])
      | (apply seqH_take; (focus (simp only [List.getElem?_toArray, List.getElem?_cons_succ, List.getElem?_cons_zero]; rfl)); (focus rfl); (focus (intro w' hS; have c0 := HX.out _ hS; first | (go_simp; rfl) | (go_simp; done))); simp only [Act.put, List.setIfInBounds_toArray, List.set_cons_zero, List.set_cons_succ])
      | (apply seqH_pass; (focus (simp only [List.getElem?_toArray, List.getElem?_cons_succ, List.getElem?_cons_zero]; rfl)); (focus rfl); (focus assumption); simp only [Act.put, List.setIfInBounds_toArray, List.set_cons_zero, List.set_cons_succ])
      | (apply seqH_eff; (focus (simp only [List.getElem?_toArray, List.getElem?_cons_succ, List.getElem?_cons_zero]; rfl)); (focus rfl); intro K hK; go_simp; fail; rintro e wN ⟨rfl, bN⟩; refine hK _ _ (seq_next (by assumption) bN (fun bS' => ?_)); clear hK K))
    refine seqH_nil ?_
    go_wp2_with fail
    go_ret2
    exact ⟨ret_bb (by have := HR.out; rw [if_pos (by rfl)] at this; exact this.symm), b02.drew⟩
  · have HR := Lib.hid (HOK2.out _ hc)
    have HL := Lib.hid (list_len hc)
    have HV := Lib.hid (SlR.of_owns ho)
    clear hc ho
    have HX := Lib.hid (fun w' (hb : Below w2.heap.size w2 w') => (hb.cell (p := ⟨w.heap.size, 0, none⟩) hz2).trans f0)
    cases there
    · go_wp2_with fail
      refine wp_region_seq [(true, 0), (true, 1), (true, 2), (true, 3)] (fun w' => Below w2.heap.size w2 w') (by kernel_rfl) (by kernel_rfl) (fun _ _ _ _ _ h => h) (by kernel_rfl) (by kernel_rfl) (by first | exact (Below.refl _ _).drew | exact Below.drew (by assumption)) ?_
      have bS : Below w2.heap.size w2 _ := (by first | exact Below.drew (by assumption) | exact (Below.refl _ w2).drew)
      iterate 4 (first
        | (apply seqH_skip; (focus (simp only [List.getElem?_toArray, List.getElem?_cons_succ, List.getElem?_cons_zero]; rfl)); (focus rfl); simp only [Act.put, List.setIfInBounds_toArray, List.set_cons_zero, List.set_cons_succ])
        | (apply seqH_take; (focus (simp only [List.getElem?_toArray, List.getElem?_cons_succ, List.getElem?_cons_zero]; rfl)); (focus rfl); (focus (intro w' hS; have c0 := HX.out _ hS; first | (go_simp; rfl) | (go_simp; done))); simp only [Act.put, List.setIfInBounds_toArray, List.set_cons_zero, List.set_cons_succ])
        | (apply seqH_pass; (focus (simp only [List.getElem?_toArray, List.getElem?_cons_succ, List.getElem?_cons_zero]; rfl)); (focus rfl); (focus assumption); simp only [Act.put, List.setIfInBounds_toArray, List.set_cons_zero, List.set_cons_succ])
        | (apply seqH_eff; (focus (simp only [List.getElem?_toArray, List.getElem?_cons_succ, List.getElem?_cons_zero]; rfl)); (focus rfl); intro K hK; go_simp; fail; rintro e wN ⟨rfl, bN⟩; refine hK _ _ (seq_next (by assumption) bN (fun bS' => ?_)); clear hK K))
      refine seqH_nil ?_
      go_wp2_with fail
      go_ret2
      exact ⟨ret_bb (by have := HR.out; rw [if_pos (by rfl)] at this; exact this.symm), b02.drew⟩
    · cases tagged
      · go_wp2_with fail
        go_ret2
        exact ⟨ret_bb (by have := HR.out; rw [if_neg (by simp)] at this; exact this.symm), b02⟩
      · go_wp2_with fail
        refine (containsTag_any v ts (tw, tx) (w.heap.size + 1) w.heap.size st _ HV.out (by have := HL.out; omega) HC2.out).mono ?_
        rintro e w3 ⟨rfl, b3⟩
        have b03 := b02.trans (b3.mono b02.size)
        have HR2 := Lib.hid HR.out
        generalize ts.any (fun x => sameF st x (tw, tx)) = q at *
        go_wp2_with fail
        go_ret2
        exact ⟨ret_bb (by have := HR.out; rw [if_neg (by simp)] at this; exact this.symm), b03⟩
set_option maxHeartbeats 1600000 in
theorem since_any (there tagged : Bool) (t : Tg.Tag) (m : Int) (u : Value) (l : List Fld) (n : ByteArray) (w : World) (h : FOk w u l) (hn : n.size ≤ 140737488351232) (hj : (joinL (selF l n) sep2).length ≤ 140737488351232) (hp : HasP10 w) (hm : HasMaxL w) :
    Calls Tryd.prog 33 #[thV there tagged t m, u, .string n] w fun e w' => (∃ k b r, e = .returned (.tuple #[.int .i64 k, .bool b]) ∧ Since there m l n r ∧ ((r = none ∧ b = false) ∨ ∃ j : Nat, r = some j ∧ b = true ∧ k = (j : Int))) ∧ Below w.heap.size w w' := by
  obtain ⟨tw, tx⟩ := t
  have HG := Lib.hid (fun w (h : FOk w u l) => getT_any u l n w h hn hj)
  have HS : Hid (∀ r, Since there m l n r ↔ ((∃ k, k ≤ 253402300799 ∧ r = some k ∧ isR l n = true ∧ there = true ∧ 0 ≤ m ∧ txt l n = mkS (Dt.printD k)) ∨ (r = none ∧ ∀ k, k ≤ 253402300799 → ¬ (isR l n = true ∧ there = true ∧ 0 ≤ m ∧ txt l n = mkS (Dt.printD k))))) := fun r => Iff.rfl
  have hT : (txt l n).size ≤ 140737488351232 := by unfold txt joinS; rw [mkS_size]; exact hj
  have b0 : Below w.heap.size w (w.alloc (.cells #[.bool there, .bool tagged, .bool tw, .string tx, .int .i64 m] 66)) := (Below.refl _ _).alloc (Nat.le_refl _) _
  have HF := Lib.hid (h.below b0)
  have HP := Lib.hid hp
  have HM := Lib.hid hm
  clear h hn hj hp hm
  generalize Since there m l n = R at *
  unfold thV
  go_enter Tryd.func33, Tryd.ntmps33
  go_wp2_with fail
  refine (HG.out _ HF.out).mono ?_
  rintro e w1 ⟨rfl, b1⟩
  have b01 := b0.trans (b1.mono b0.size)
  generalize isR l n = q at *
  generalize txt l n = T at *
  go_wp2_with fail
  refine (dateParse_any T _ hT (HP.out.below rfl b01) (HM.out.below rfl b01)).mono ?_
  rintro e w2 ⟨ha, b2⟩
  have b02 := b01.trans (b2.mono b01.size)
  have b12 : Below (w.alloc (.cells #[.bool there, .bool tagged, .bool tw, .string tx, .int .i64 m] 66)).heap.size (w.alloc (.cells #[.bool there, .bool tagged, .bool tw, .string tx, .int .i64 m] 66)) w2 := b1.trans (b2.mono b1.size)
  have g0 : w2.cell? ⟨w.heap.size, 0, none⟩ = some (.bool there) := (b12.cell (by simp)).trans (by go_simp)
  have g4 : w2.cell? ⟨w.heap.size, 4, none⟩ = some (.int .i64 m) := (b12.cell (by simp)).trans (by go_simp)
  have hz2 : w.heap.size < w2.heap.size := by have := b12.size; simp at this; omega
  have HX := Lib.hid (fun w' (hb : Below w2.heap.size w2 w') => show w'.cell? ⟨w.heap.size, 0, none⟩ = some (.bool there) ∧ w'.cell? ⟨w.heap.size, 4, none⟩ = some (.int .i64 m) from ⟨(hb.cell hz2).trans g0, (hb.cell hz2).trans g4⟩)
  clear HG HF b1 b0 b01 b2 b12 HP HM g0 g4
  rcases ha with ⟨k, hk, hs, rfl⟩ | ⟨hno, rfl⟩
  · by_cases hall : q = true ∧ there = true ∧ 0 ≤ m
    · obtain ⟨rfl, rfl, hm0⟩ := hall
      have HR : Hid (R (some k)) := (HS.out _).2 (.inl ⟨k, hk, rfl, rfl, rfl, hm0, hs⟩)
      have hd : decide (0 ≤ m) = true := decide_eq_true hm0
      clear hs hm0 HS
      go_wp2_with fail
      refine wp_region_seq [(true, 0), (true, 1), (true, 2), (true, 3), (true, 4), (true, 5), (true, 6), (true, 7), (true, 8), (true, 9), (true, 10), (true, 11), (true, 12), (true, 13), (true, 14), (true, 15), (true, 16)] (fun w' => Below w2.heap.size w2 w') (by kernel_rfl) (by kernel_rfl) (fun _ _ _ _ _ h => h) (by kernel_rfl) (by kernel_rfl) (by first | exact (Below.refl _ _).drew | exact Below.drew (by assumption)) ?_
      have bS : Below w2.heap.size w2 _ := (by first | exact Below.drew (by assumption) | exact (Below.refl _ w2).drew)
      iterate 17 (first
        | (apply seqH_skip; (focus (simp only [List.getElem?_toArray, List.getElem?_cons_succ, List.getElem?_cons_zero]; rfl)); (focus rfl); simp only [Act.put, List.setIfInBounds_toArray, List.set_cons_zero, List.set_cons_succ])
        | (apply seqH_take; (focus (simp only [List.getElem?_toArray, List.getElem?_cons_succ, List.getElem?_cons_zero]; rfl)); (focus rfl); (focus (intro w' hS; obtain ⟨c0, c4⟩ := HX.out _ hS; first | (go_simp; rfl) | (go_simp; done))); simp only [Act.put, List.setIfInBounds_toArray, List.set_cons_zero, List.set_cons_succ])
        | (apply seqH_pass; (focus (simp only [List.getElem?_toArray, List.getElem?_cons_succ, List.getElem?_cons_zero]; rfl)); (focus rfl); (focus assumption); simp only [Act.put, List.setIfInBounds_toArray, List.set_cons_zero, List.set_cons_succ])
        | (apply seqH_eff; (focus (simp only [List.getElem?_toArray, List.getElem?_cons_succ, List.getElem?_cons_zero]; rfl)); (focus rfl); intro K hK; go_simp; fail; rintro e wN ⟨rfl, bN⟩; refine hK _ _ (seq_next (by assumption) bN (fun bS' => ?_)); clear hK K))
      refine seqH_nil ?_
      go_wp2_with fail
      go_ret2
      exact ⟨⟨_, _, _, rfl, HR.out, .inr ⟨k, rfl, rfl, rfl⟩⟩, b02.drew⟩
    · have HR : Hid (R none) := (HS.out _).2 (.inr ⟨rfl, fun j _ hj => hall ⟨hj.1, hj.2.1, hj.2.2.1⟩⟩)
      clear HS hs
      cases q
      · go_wp2_with fail
        refine wp_region_seq [(true, 0), (true, 1), (true, 2), (true, 3), (true, 4), (true, 5), (true, 6), (true, 7), (true, 8), (true, 9), (true, 10), (true, 11), (true, 12), (true, 13), (true, 14), (true, 15), (true, 16)] (fun w' => Below w2.heap.size w2 w') (by kernel_rfl) (by kernel_rfl) (fun _ _ _ _ _ h => h) (by kernel_rfl) (by kernel_rfl) (by first | exact (Below.refl _ _).drew | exact Below.drew (by assumption)) ?_
        have bS : Below w2.heap.size w2 _ := (by first | exact Below.drew (by assumption) | exact (Below.refl _ w2).drew)
        iterate 17 (first
          | (apply seqH_skip; (focus (simp only [List.getElem?_toArray, List.getElem?_cons_succ, List.getElem?_cons_zero]; rfl)); (focus rfl); simp only [Act.put, List.setIfInBounds_toArray, List.set_cons_zero, List.set_cons_succ])
          | (apply seqH_take; (focus (simp only [List.getElem?_toArray, List.getElem?_cons_succ, List.getElem?_cons_zero]; rfl)); (focus rfl); (focus (intro w' hS; obtain ⟨c0, c4⟩ := HX.out _ hS; first | (go_simp; rfl) | (go_simp; done))); simp only [Act.put, List.setIfInBounds_toArray, List.set_cons_zero, List.set_cons_succ])
          | (apply seqH_pass; (focus (simp only [List.getElem?_toArray, List.getElem?_cons_succ, List.getElem?_cons_zero]; rfl)); (focus rfl); (focus assumption); simp only [Act.put, List.setIfInBounds_toArray, List.set_cons_zero, List.set_cons_succ])
          | (apply seqH_eff; (focus (simp only [List.getElem?_toArray, List.getElem?_cons_succ, List.getElem?_cons_zero]; rfl)); (focus rfl); intro K hK; go_simp; fail; rintro e wN ⟨rfl, bN⟩; refine hK _ _ (seq_next (by assumption) bN (fun bS' => ?_)); clear hK K))
        refine seqH_nil ?_
        go_wp2_with fail
        go_ret2
        exact ⟨⟨_, _, _, rfl, HR.out, .inl ⟨rfl, rfl⟩⟩, b02.drew⟩
      · cases there
        · go_wp2_with fail
          refine wp_region_seq [(true, 0), (true, 1), (true, 2), (true, 3), (true, 4), (true, 5), (true, 6), (true, 7), (true, 8), (true, 9), (true, 10), (true, 11), (true, 12), (true, 13), (true, 14), (true, 15), (true, 16)] (fun w' => Below w2.heap.size w2 w') (by kernel_rfl) (by kernel_rfl) (fun _ _ _ _ _ h => h) (by kernel_rfl) (by kernel_rfl) (by first | exact (Below.refl _ _).drew | exact Below.drew (by assumption)) ?_
          have bS : Below w2.heap.size w2 _ := (by first | exact Below.drew (by assumption) | exact (Below.refl _ w2).drew)
          iterate 17 (first
            | (apply seqH_skip; (focus (simp only [List.getElem?_toArray, List.getElem?_cons_succ, List.getElem?_cons_zero]; rfl)); (focus rfl); simp only [Act.put, List.setIfInBounds_toArray, List.set_cons_zero, List.set_cons_succ])
            | (apply seqH_take; (focus (simp only [List.getElem?_toArray, List.getElem?_cons_succ, List.getElem?_cons_zero]; rfl)); (focus rfl); (focus (intro w' hS; obtain ⟨c0, c4⟩ := HX.out _ hS; first | (go_simp; rfl) | (go_simp; done))); simp only [Act.put, List.setIfInBounds_toArray, List.set_cons_zero, List.set_cons_succ])
            | (apply seqH_pass; (focus (simp only [List.getElem?_toArray, List.getElem?_cons_succ, List.getElem?_cons_zero]; rfl)); (focus rfl); (focus assumption); simp only [Act.put, List.setIfInBounds_toArray, List.set_cons_zero, List.set_cons_succ])
            | (apply seqH_eff; (focus (simp only [List.getElem?_toArray, List.getElem?_cons_succ, List.getElem?_cons_zero]; rfl)); (focus rfl); intro K hK; go_simp; fail; rintro e wN ⟨rfl, bN⟩; refine hK _ _ (seq_next (by assumption) bN (fun bS' => ?_)); clear hK K))
          refine seqH_nil ?_
          go_wp2_with fail
          go_ret2
          exact ⟨⟨_, _, _, rfl, HR.out, .inl ⟨rfl, rfl⟩⟩, b02.drew⟩
        · have hd : decide (0 ≤ m) = false := decide_eq_false (fun h => hall ⟨rfl, rfl, h⟩)
          clear hall
          go_wp2_with fail
          refine wp_region_seq [(true, 0), (true, 1), (true, 2), (true, 3), (true, 4), (true, 5), (true, 6), (true, 7), (true, 8), (true, 9), (true, 10), (true, 11), (true, 12), (true, 13), (true, 14), (true, 15), (true, 16)] (fun w' => Below w2.heap.size w2 w') (by kernel_rfl) (by kernel_rfl) (fun _ _ _ _ _ h => h) (by kernel_rfl) (by kernel_rfl) (by first | exact (Below.refl _ _).drew | exact Below.drew (by assumption)) ?_
          have bS : Below w2.heap.size w2 _ := (by first | exact Below.drew (by assumption) | exact (Below.refl _ w2).drew)
          iterate 17 (first
            | (apply seqH_skip; (focus (simp only [List.getElem?_toArray, List.getElem?_cons_succ, List.getElem?_cons_zero]; rfl)); (focus rfl); simp only [Act.put, List.setIfInBounds_toArray, List.set_cons_zero, List.set_cons_succ])
            | (apply seqH_take; (focus (simp only [List.getElem?_toArray, List.getElem?_cons_succ, List.getElem?_cons_zero]; rfl)); (focus rfl); (focus (intro w' hS; obtain ⟨c0, c4⟩ := HX.out _ hS; first | (go_simp; rfl) | (go_simp; done))); simp only [Act.put, List.setIfInBounds_toArray, List.set_cons_zero, List.set_cons_succ])
            | (apply seqH_pass; (focus (simp only [List.getElem?_toArray, List.getElem?_cons_succ, List.getElem?_cons_zero]; rfl)); (focus rfl); (focus assumption); simp only [Act.put, List.setIfInBounds_toArray, List.set_cons_zero, List.set_cons_succ])
            | (apply seqH_eff; (focus (simp only [List.getElem?_toArray, List.getElem?_cons_succ, List.getElem?_cons_zero]; rfl)); (focus rfl); intro K hK; go_simp; fail; rintro e wN ⟨rfl, bN⟩; refine hK _ _ (seq_next (by assumption) bN (fun bS' => ?_)); clear hK K))
          refine seqH_nil ?_
          go_wp2_with fail
          go_ret2
          exact ⟨⟨_, _, _, rfl, HR.out, .inl ⟨rfl, rfl⟩⟩, b02.drew⟩
  · have HR : Hid (R none) := (HS.out _).2 (.inr ⟨rfl, fun j hj hh => hno j hj hh.2.2.2⟩)
    clear HS hno
    cases q
    · go_wp2_with fail
      refine wp_region_seq [(true, 0), (true, 1), (true, 2), (true, 3), (true, 4), (true, 5), (true, 6), (true, 7), (true, 8), (true, 9), (true, 10), (true, 11), (true, 12), (true, 13), (true, 14), (true, 15), (true, 16)] (fun w' => Below w2.heap.size w2 w') (by kernel_rfl) (by kernel_rfl) (fun _ _ _ _ _ h => h) (by kernel_rfl) (by kernel_rfl) (by first | exact (Below.refl _ _).drew | exact Below.drew (by assumption)) ?_
      have bS : Below w2.heap.size w2 _ := (by first | exact Below.drew (by assumption) | exact (Below.refl _ w2).drew)
      iterate 17 (first
        | (apply seqH_skip; (focus (simp only [List.getElem?_toArray, List.getElem?_cons_succ, List.getElem?_cons_zero]; rfl)); (focus rfl); simp only [Act.put, List.setIfInBounds_toArray, List.set_cons_zero, List.set_cons_succ])
        | (apply seqH_take; (focus (simp only [List.getElem?_toArray, List.getElem?_cons_succ, List.getElem?_cons_zero]; rfl)); (focus rfl); (focus (intro w' hS; obtain ⟨c0, c4⟩ := HX.out _ hS; first | (go_simp; rfl) | (go_simp; done))); simp only [Act.put, List.setIfInBounds_toArray, List.set_cons_zero, List.set_cons_succ])
        | (apply seqH_pass; (focus (simp only [List.getElem?_toArray, List.getElem?_cons_succ, List.getElem?_cons_zero]; rfl)); (focus rfl); (focus assumption); simp only [Act.put, List.setIfInBounds_toArray, List.set_cons_zero, List.set_cons_succ])
        | (apply seqH_eff; (focus (simp only [List.getElem?_toArray, List.getElem?_cons_succ, List.getElem?_cons_zero]; rfl)); (focus rfl); intro K hK; go_simp; fail; rintro e wN ⟨rfl, bN⟩; refine hK _ _ (seq_next (by assumption) bN (fun bS' => ?_)); clear hK K))
      refine seqH_nil ?_
      go_wp2_with fail
      go_ret2
      exact ⟨⟨_, _, _, rfl, HR.out, .inl ⟨rfl, rfl⟩⟩, b02.drew⟩
    · go_wp2_with fail
      refine wp_region_seq [(true, 0), (true, 1), (true, 2), (true, 3), (true, 4), (true, 5), (true, 6), (true, 7), (true, 8), (true, 9), (true, 10), (true, 11), (true, 12), (true, 13), (true, 14), (true, 15), (true, 16)] (fun w' => Below w2.heap.size w2 w') (by kernel_rfl) (by kernel_rfl) (fun _ _ _ _ _ h => h) (by kernel_rfl) (by kernel_rfl) (by first | exact (Below.refl _ _).drew | exact Below.drew (by assumption)) ?_
      have bS : Below w2.heap.size w2 _ := (by first | exact Below.drew (by assumption) | exact (Below.refl _ w2).drew)
      iterate 17 (first
        | (apply seqH_skip; (focus (simp only [List.getElem?_toArray, List.getElem?_cons_succ, List.getElem?_cons_zero]; rfl)); (focus rfl); simp only [Act.put, List.setIfInBounds_toArray, List.set_cons_zero, List.set_cons_succ])
        | (apply seqH_take; (focus (simp only [List.getElem?_toArray, List.getElem?_cons_succ, List.getElem?_cons_zero]; rfl)); (focus rfl); (focus (intro w' hS; obtain ⟨c0, c4⟩ := HX.out _ hS; first | (go_simp; rfl) | (go_simp; done))); simp only [Act.put, List.setIfInBounds_toArray, List.set_cons_zero, List.set_cons_succ])
        | (apply seqH_pass; (focus (simp only [List.getElem?_toArray, List.getElem?_cons_succ, List.getElem?_cons_zero]; rfl)); (focus rfl); (focus assumption); simp only [Act.put, List.setIfInBounds_toArray, List.set_cons_zero, List.set_cons_succ])
        | (apply seqH_eff; (focus (simp only [List.getElem?_toArray, List.getElem?_cons_succ, List.getElem?_cons_zero]; rfl)); (focus rfl); intro K hK; go_simp; fail; rintro e wN ⟨rfl, bN⟩; refine hK _ _ (seq_next (by assumption) bN (fun bS' => ?_)); clear hK K))
      refine seqH_nil ?_
      go_wp2_with fail
      go_ret2
      exact ⟨⟨_, _, _, rfl, HR.out, .inl ⟨rfl, rfl⟩⟩, b02.drew⟩
end Cn
end Go.Proofs.YtiijgbgknolmcaaDoor
