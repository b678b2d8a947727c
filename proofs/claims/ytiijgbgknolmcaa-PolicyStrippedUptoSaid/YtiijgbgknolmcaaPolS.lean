/- PolicyStripped: the law's walk. -/
import Derived.Test.YtiijgbgknolmcaaPolP
namespace Go.Proofs.Ytiijgbgknolmcaa
set_option maxRecDepth 20000
open Go.RowKit
open Pol
theorem eqlFld (a0 b0 : ByteArray) (a1 b1 : ByteArray) (w : World) : (binOp .eql 37 (.agg #[.string a0, .string a1]) (.agg #[.string b0, .string b1])).run Try.prog w = .ok (.bool ((a0.toList == b0.toList) && (a1.toList == b1.toList))) w := by
  rw [run_eql_struct, run_equalIn_agg w 9999 37 _ _ (by kernel_rfl) (by kernel_rfl)]
  simp only [Program.fieldsOf, Try.underlying37]
  have hus := Try.underlying9
  cases h0 : (a0.toList == b0.toList) <;> cases h1 : (a1.toList == b1.toList) <;> go_simp
theorem five_cells : ([.string ⟨#[67, 111, 110, 110, 101, 99, 116, 105, 111, 110]⟩, .string ⟨#[84, 69]⟩, .string ⟨#[84, 114, 97, 110, 115, 102, 101, 114, 45, 69, 110, 99, 111, 100, 105, 110, 103]⟩, .string ⟨#[85, 112, 103, 114, 97, 100, 101]⟩, .string ⟨#[75, 101, 101, 112, 45, 65, 108, 105, 118, 101]⟩] : List Value) = five.flatMap es := rfl
theorem lit3 (w : World) (a b c d e f : ByteArray) : SlR (w.alloc (.cells #[.string a, .string b, .string c, .string d, .string e, .string f] 37)) e_ss (.slice (some ⟨w.heap.size, 0, none⟩) 3 3) [(a, b), (c, d), (e, f)] := SlR.lit (enc := e_ss) w [.string a, .string b, .string c, .string d, .string e, .string f] 37 [(a, b), (c, d), (e, f)] rfl
set_option maxRecDepth 100000 in
set_option maxHeartbeats 6400000 in
theorem policyStripped_walk (u : Value) (l : List Fld) (n : ByteArray) (w : World) (hu : SlR w e_ss u l) (hos : (l.map (fun d => d.1.size + d.2.size + 2)).sum ≤ 1048576) (hn : n.size ≤ 1048576) :
    Calls Try.prog 5 #[u, .string n] w fun e w' => e = .returned (.bool true) ∧ Below w.heap.size w w' := by
  have ho' : wt l ≤ 1048576 := hos
  have HU : Hid (FOk w u l) := ⟨hu, by omega⟩
  have hst : wt (stripF l) ≤ wt l := wt_filter _ _
  have HAG := Lib.hid (strip_again l)
  have HQ := Lib.hid lit_strip
  have HFIVE := Lib.hid (five_in l)
  have hll := wt_len l
  have hml := wt_len (stripF l)
  have HST1 := Lib.hid (fun u w h => strip_any u l w h)
  have HST2 := Lib.hid (fun u w h => strip_any u (stripF l) w h)
  rw [HAG.out] at HST2
  have HSM := Lib.hid (fun (x : Value) (w : World) (h : SlR w e_ss x (stripF l)) => (⟨h, by omega⟩ : FOk w x (stripF l)))
  have HM : Hid (stripF l = keepW (hopsF l) l) := rfl
  have hwset : ∀ m : ByteArray, m.size ≤ 1048576 → wt (setF l nConn m) ≤ 4194304 := fun m hm => by have := wt_set l nConn m; have h2 : nConn.size = 10 := rfl; omega
  have hl32 : (l.length + 1) * 32 ≤ 140737488355328 := by omega
  have HSET := Lib.hid (fun w (h : FOk w u l) => set_any u l nConn n w h.sl hl32 h.lims (by decide))
  have HSETS := Lib.hid (fun x w h => strip_any x (setF l nConn n) w h)
  have HFS : Hid (∀ x w, SlR w e_ss x (setF l nConn n) → FOk w x (setF l nConn n)) := fun x w h => ⟨h, by have := hwset n (by omega); omega⟩
  have HFSS : Hid (∀ x w, SlR w e_ss x (stripF (setF l nConn n)) → FOk w x (stripF (setF l nConn n))) := fun x w h => ⟨h, by have := hwset n (by omega); have h2 : wt (stripF (setF l nConn n)) ≤ wt (setF l nConn n) := wt_filter _ _; omega⟩
  have HGS := Lib.hid (fun x w h => getP_any x (stripF (setF l nConn n)) n w h (by omega))
  have HSN : Hid (Tok.isTok n = true → n.size ≤ 30 → isR (stripF (setF l nConn n)) n = false) := fun h1 h2 => by unfold isR; rw [strip_set l h1 h2]; rfl
  have HTK := Lib.hid (fun w => isToken_any n w (by omega))
  have HGM := Lib.hid (fun x w (m : ByteArray) hm h => getP_any x (stripF l) m w h hm)
  have HSTEP := Lib.hid (fun k (h : k < l.length) => strip_count h (hopsF l))
  have HAT := Lib.hid (fun k (h : k < l.length) => strip_at h (hopsF l))
  have HKEPT := Lib.hid (fun j f (h : (keepW (hopsF l) l)[j]? = some f) => strip_kept (hopsF l) h)
  have HCNT : Hid (∀ k, (keepW (hopsF l) (l.take k)).length ≤ (stripF l).length) := fun k => by
    show _ ≤ (keepW (hopsF l) l).length
    have : keepW (hopsF l) l = keepW (hopsF l) (l.take k) ++ keepW (hopsF l) (l.drop k) := by
      unfold keepW
      rw [← List.filter_append, List.take_append_drop]
    rw [this, List.length_append]; omega
  rw [← HM.out] at HAT HKEPT
  have H2l := Lib.hid (fun w' (hb : Below w.heap.size w w') hn => fld_two (hu.below hb) hn)
  clear hu hos hst HAG hwset
  generalize stripF (setF l nConn n) = SS at *
  generalize stripF l = M at *
  generalize hopsF l = H at *
  obtain ⟨A, c, rfl, -⟩ := HU.out.sl.form
  have h5 : ∀ k (hk : k < five.length), five[k].size ≤ 140737488351232 := fun k hk => by
    have : ∀ n ∈ five, n.size ≤ 140737488351232 := by decide
    exact this _ (List.getElem_mem hk)
  go_enter Try.func5, Try.ntmps5
  go_wp2_with fail
  refine (HST1.out _ _ HU.out).mono ?_
  rintro e w1 ⟨⟨m, rfl, o1⟩, b1⟩
  obtain ⟨A1, c1, hm1⟩ := o1.slice
  subst hm1
  have HM1 := Lib.hid (HSM.out _ _ (SlR.of_owns o1))
  clear o1
  have HL1 := Lib.hid (lit3 w1 ⟨#[99, 111, 110, 110, 101, 99, 116, 105, 111, 110]⟩ ⟨#[88]⟩ ⟨#[120]⟩ ⟨#[49]⟩ ⟨#[121]⟩ ⟨#[50]⟩)
  have bA : Below w1.heap.size w1 (w1.alloc (.cells #[.string ⟨#[99, 111, 110, 110, 101, 99, 116, 105, 111, 110]⟩, .string ⟨#[88]⟩, .string ⟨#[120]⟩, .string ⟨#[49]⟩, .string ⟨#[121]⟩, .string ⟨#[50]⟩] 37)) := (Below.refl _ _).alloc (Nat.le_refl _) _
  go_wp2_with fail
  refine (strip_any _ [(⟨#[99, 111, 110, 110, 101, 99, 116, 105, 111, 110]⟩, ⟨#[88]⟩), (⟨#[120]⟩, ⟨#[49]⟩), (⟨#[121]⟩, ⟨#[50]⟩)] _ ⟨HL1.out, by decide⟩).mono ?_
  rintro e w2 ⟨⟨k, rfl, o2⟩, b2⟩
  rw [HQ.out] at o2
  have B12 := bA.trans (b2.mono bA.size)
  have B2 := belT b1 B12
  have HM2 := Lib.hid (HM1.out.below B12)
  obtain ⟨b0, o0, c0, hk0, hkb, hkc⟩ := fld_two (SlR.of_owns o2) (by decide)
  subst hk0
  obtain ⟨k0, k1⟩ := hkc 0 (by decide)
  rw [Nat.zero_mul, Nat.add_zero] at k0
  clear o2 hkc k1 HL1
  have q0 : (([(⟨#[121]⟩, ⟨#[50]⟩)] : List Fld)[0]'(by decide)).1 = (⟨#[121]⟩ : ByteArray) := rfl
  rw [q0] at k0
  go_wp2_with fail
  have b3 : Below w.heap.size w (w2.alloc (.cells #[.string ⟨#[67, 111, 110, 110, 101, 99, 116, 105, 111, 110]⟩, .string ⟨#[84, 69]⟩, .string ⟨#[84, 114, 97, 110, 115, 102, 101, 114, 45, 69, 110, 99, 111, 100, 105, 110, 103]⟩, .string ⟨#[85, 112, 103, 114, 97, 100, 101]⟩, .string ⟨#[75, 101, 101, 112, 45, 65, 108, 105, 118, 101]⟩] 9)) := B2.alloc B2.size _
  have b23 : Below w2.heap.size w2 (w2.alloc (.cells #[.string ⟨#[67, 111, 110, 110, 101, 99, 116, 105, 111, 110]⟩, .string ⟨#[84, 69]⟩, .string ⟨#[84, 114, 97, 110, 115, 102, 101, 114, 45, 69, 110, 99, 111, 100, 105, 110, 103]⟩, .string ⟨#[85, 112, 103, 114, 97, 100, 101]⟩, .string ⟨#[75, 101, 101, 112, 45, 65, 108, 105, 118, 101]⟩] 9)) := (Below.refl _ _).alloc (Nat.le_refl _) _
  have hcell : ∀ k (hk : k < five.length), (w2.alloc (.cells #[.string ⟨#[67, 111, 110, 110, 101, 99, 116, 105, 111, 110]⟩, .string ⟨#[84, 69]⟩, .string ⟨#[84, 114, 97, 110, 115, 102, 101, 114, 45, 69, 110, 99, 111, 100, 105, 110, 103]⟩, .string ⟨#[85, 112, 103, 114, 97, 100, 101]⟩, .string ⟨#[75, 101, 101, 112, 45, 65, 108, 105, 118, 101]⟩] 9)).cell? ⟨w2.heap.size, k, none⟩ = some (.string five[k]) := by
    intro k hk
    have h := new_cells w2 (five.flatMap es) 9 k (.string five[k]) (by rw [es_map]; simp [hk])
    have e : ((⟨w2.heap.size, 0, none⟩ : Addr).add k) = ⟨w2.heap.size, k, none⟩ := by unfold Addr.add; split <;> simp_all
    rw [e, ← five_cells] at h
    exact h
  have hlen : w2.heap.size < (w2.alloc (.cells #[.string ⟨#[67, 111, 110, 110, 101, 99, 116, 105, 111, 110]⟩, .string ⟨#[84, 69]⟩, .string ⟨#[84, 114, 97, 110, 115, 102, 101, 114, 45, 69, 110, 99, 111, 100, 105, 110, 103]⟩, .string ⟨#[85, 112, 103, 114, 97, 100, 101]⟩, .string ⟨#[75, 101, 101, 112, 45, 65, 108, 105, 118, 101]⟩] 9)).heap.size := by simp
  have HM3 := Lib.hid (HM2.out.below b23)
  generalize w2.alloc (.cells #[.string ⟨#[67, 111, 110, 110, 101, 99, 116, 105, 111, 110]⟩, .string ⟨#[84, 69]⟩, .string ⟨#[84, 114, 97, 110, 115, 102, 101, 114, 45, 69, 110, 99, 111, 100, 105, 110, 103]⟩, .string ⟨#[85, 112, 103, 114, 97, 100, 101]⟩, .string ⟨#[75, 101, 101, 112, 45, 65, 108, 105, 118, 101]⟩] 9) = w3 at *
  have HX := Lib.hid (fun k hk w' (hb : Below w3.heap.size w3 w') => (hb.cell (p := ⟨w2.heap.size, k, none⟩) hlen).trans (hcell k hk))
  clear hcell k0
  go_loopw [35] (fun i wr => ∃ k : Nat, k ≤ 5 ∧ i = .int .i64 k ∧ Below w3.heap.size w3 wr) (fun i _ => 5 - (intOf i).toNat)
  case atStart => exact ⟨0, by omega, rfl, Below.refl _ _⟩
  case round =>
    obtain ⟨k, hk, rfl, hbel⟩ := hrel
    by_cases hlt : k < 5
    · have c0 := HX.out k hlt wr hbel
      have hs := h5 k hlt
      have HS : Hid (isR M (five[k]'hlt) = false) := by show _ = _; unfold isR; rw [HFIVE.out _ (List.getElem_mem hlt)]; rfl
      generalize five[k]'hlt = nm at *
      go_wp2_with fail
      refine (HGM.out _ _ nm hs (HM3.out.below hbel)).mono ?_
      rintro e w4 ⟨rfl, b4⟩
      rw [HS.out]
      go_wp2_with fail
      go_roundw
      case rel => exact ⟨k + 1, by omega, by go_num, belT hbel b4⟩
      case measure => simp [intOf]; omega
    · obtain rfl : k = 5 := by omega
      have Br := b3.trans (hbel.mono b3.size)
      have HMr := Lib.hid (HM3.out.below hbel)
      have H2M := Lib.hid (fun hn => fld_two HMr.out.sl hn)
      have H2L := Lib.hid (fun hn => H2l.out _ Br hn)
      clear HX HM3 HFIVE HGM HQ HST1 H2l hlen h5 hbel
      go_wp2_with fail
      go_loopw [11, 49] (fun j i wq => ∃ k : Nat, k ≤ l.length ∧ i = .int .i64 k ∧ j = .int .i64 ((keepW H (l.take k)).length : Nat) ∧ Below wr.heap.size wr wq) (fun _ i _ => l.length - (intOf i).toNat)
      case atStart => exact ⟨0, by omega, rfl, rfl, Below.refl _ _⟩
      case round =>
        obtain ⟨k, hk, rfl, rfl, hb2⟩ := hrel
        have hjle := HCNT.out k
        by_cases hlt : k < l.length
        · have HSTk := Lib.hid (HSTEP.out k hlt)
          have HATk := Lib.hid (HAT.out k hlt)
          have HKk := Lib.hid (fun f h => HKEPT.out (keepW H (l.take k)).length f h)
          obtain ⟨bl, ol, cl', hel, hbl, hcl⟩ := H2L.out (by omega)
          obtain ⟨rfl, rfl⟩ : A = some ⟨bl, ol, none⟩ ∧ c = cl' := by injection hel with h1 h2 h3; exact ⟨h1, h3⟩
          obtain ⟨q0, q1⟩ := hcl k hlt
          have d0 := (hb2.cell (p := ⟨bl, ol + k * 2, none⟩) hbl).trans q0
          have d1 := (hb2.cell (p := ⟨bl, ol + k * 2 + 1, none⟩) hbl).trans q1
          clear hcl q0 q1 hel
          generalize (keepW H (l.take k)).length = j at *
          generalize l[k] = f at *
          obtain ⟨fn, fv⟩ := f
          dsimp only at d0 d1
          have bA : Below wr.heap.size wr (wr.alloc (.cells #[.string fn, .string fv] 37)) := (Below.refl _ _).alloc (Nat.le_refl _) _
          have hzA : wr.heap.size < (wr.alloc (.cells #[.string fn, .string fv] 37)).heap.size := by simp
          have e0 : (wr.alloc (.cells #[.string fn, .string fv] 37)).cell? ⟨wr.heap.size, 0, none⟩ = some (.string fn) := by go_simp
          have e1 : (wr.alloc (.cells #[.string fn, .string fv] 37)).cell? ⟨wr.heap.size, 1, none⟩ = some (.string fv) := by go_simp
          have g1 := eqGuardFld
          have g2 := eqlFld
          by_cases hjm : j < M.length
          · have dj : decide ((j : Int) < (M.length : Int)) = true := decide_eq_true (by omega)
            have dj' : decide (j < M.length) = true := decide_eq_true hjm
            have hjb : j ≤ 140737488351232 := by have := HMr.out.len; omega
            obtain ⟨bm, om, cm', hem, hbm, hcm⟩ := H2M.out (by omega)
            obtain ⟨rfl, rfl⟩ : A1 = some ⟨bm, om, none⟩ ∧ c1 = cm' := by injection hem with h1 h2 h3; exact ⟨h1, h3⟩
            obtain ⟨q0, q1⟩ := hcm j hjm
            have m0 := (hb2.cell (p := ⟨bm, om + j * 2, none⟩) hbm).trans q0
            have m1 := (hb2.cell (p := ⟨bm, om + j * 2 + 1, none⟩) hbm).trans q1
            have hbm' : bm < wr.heap.size := Nat.lt_of_lt_of_le hbm hb2.size
            have HMJ : Hid (M[j]? = some M[j]) := List.getElem?_eq_getElem hjm
            clear hcm q0 q1 hem
            generalize M[j] = g at *
            obtain ⟨gn, gv⟩ := g
            dsimp only at m0 m1
            have HC := Lib.hid (fun w' (hb : Below (wr.alloc (.cells #[.string fn, .string fv] 37)).heap.size (wr.alloc (.cells #[.string fn, .string fv] 37)) w') => show w'.cell? ⟨wr.heap.size, 0, none⟩ = some (.string fn) ∧ w'.cell? ⟨wr.heap.size, 1, none⟩ = some (.string fv) ∧ w'.cell? ⟨bm, om + j * 2, none⟩ = some (.string gn) ∧ w'.cell? ⟨bm, om + j * 2 + 1, none⟩ = some (.string gv) from ⟨(hb.cell hzA).trans e0, (hb.cell hzA).trans e1, (hb.cell (by show bm < _; omega)).trans ((bA.cell hbm').trans m0), (hb.cell (by show bm < _; omega)).trans ((bA.cell hbm').trans m1)⟩)
            clear m0 m1 e0 e1
            cases hq : isW H (fn, fv)
            · have hg : (fn, fv) = (gn, gv) := by
                have h1 := HATk.out hq
                have h2 := h1.symm.trans HMJ.out
                injection h2
              injection hg with hg1 hg2
              subst hg1
              subst hg2
              have hnn : ((fn.toList == fn.toList) && (fv.toList == fv.toList)) = true := by simp
              have HQ2 : Hid ((keepW H (l.take (k + 1))).length = j + 1) := by show _ = _; rw [HSTk.out, hq]; rfl
              clear hq
              go_wp2_with fail
              refine wp_region_seq [(true, 0), (true, 1), (true, 2), (true, 3), (true, 4), (true, 5), (true, 6), (true, 7), (true, 8), (true, 9), (true, 10), (true, 11)] (fun w' => Below (wr.alloc (.cells #[.string fn, .string fv] 37)).heap.size (wr.alloc (.cells #[.string fn, .string fv] 37)) w') (by kernel_rfl) (by kernel_rfl) (fun _ _ _ _ _ h => h) (by kernel_rfl) (by kernel_rfl) (by first | exact (Below.refl _ _).drew | exact Below.drew (by assumption)) ?_
              have bS : Below (wr.alloc (.cells #[.string fn, .string fv] 37)).heap.size (wr.alloc (.cells #[.string fn, .string fv] 37)) _ := (by first | exact Below.drew (by assumption) | exact (Below.refl _ (wr.alloc (.cells #[.string fn, .string fv] 37))).drew)
              iterate 12 (first
                | (apply seqH_skip; (focus (simp only [List.getElem?_toArray, List.getElem?_cons_succ, List.getElem?_cons_zero]; rfl)); (focus rfl); simp only [Act.put, List.setIfInBounds_toArray, List.set_cons_zero, List.set_cons_succ])
                | (apply seqH_take; (focus (simp only [List.getElem?_toArray, List.getElem?_cons_succ, List.getElem?_cons_zero]; rfl)); (focus rfl); (focus (intro w' hS; obtain ⟨c0, c1, c2, c3⟩ := HC.out _ hS; have e99 := g2 fn fn fv fv w'; rw [hnn] at e99; first | (go_simp; rfl) | (go_simp; done))); simp only [Act.put, List.setIfInBounds_toArray, List.set_cons_zero, List.set_cons_succ])
                | (apply seqH_pass; (focus (simp only [List.getElem?_toArray, List.getElem?_cons_succ, List.getElem?_cons_zero]; rfl)); (focus rfl); (focus assumption); simp only [Act.put, List.setIfInBounds_toArray, List.set_cons_zero, List.set_cons_succ])
                | (apply seqH_eff; (focus (simp only [List.getElem?_toArray, List.getElem?_cons_succ, List.getElem?_cons_zero]; rfl)); (focus rfl); intro K hK; go_simp; fail; rintro e wN ⟨rfl, bN⟩; refine hK _ _ (seq_next (by assumption) bN (fun bS' => ?_)); clear hK K))
              refine seqH_nil ?_
              go_wp2_with fail
              go_roundw
              case rel => exact ⟨k + 1, by omega, by go_num, by rw [HQ2.out]; go_num, (hb2.trans (bA.mono hb2.size)).trans (Below.mono (by assumption) (by have := hb2.size; omega))⟩
              case measure => simp [intOf]; omega
            · have hnn : ((gn.toList == fn.toList) && (gv.toList == fv.toList)) = false := by
                cases hx : ((gn.toList == fn.toList) && (gv.toList == fv.toList))
                · rfl
                · rw [Bool.and_eq_true, beq_iff_eq, beq_iff_eq, ba_toList, ba_toList, ba_toList, ba_toList] at hx
                  have h1 := sl_inj hx.1
                  have h2 := sl_inj hx.2
                  subst h1 h2
                  have := HKk.out _ HMJ.out
                  rw [hq] at this; cases this
              have HQ2 : Hid ((keepW H (l.take (k + 1))).length = j) := by show _ = _; rw [HSTk.out, hq]; rfl
              clear hq
              go_wp2_with fail
              refine wp_region_seq [(true, 0), (true, 1), (true, 2), (true, 3), (true, 4), (true, 5), (true, 6), (true, 7), (true, 8), (true, 9), (true, 10), (true, 11)] (fun w' => Below (wr.alloc (.cells #[.string fn, .string fv] 37)).heap.size (wr.alloc (.cells #[.string fn, .string fv] 37)) w') (by kernel_rfl) (by kernel_rfl) (fun _ _ _ _ _ h => h) (by kernel_rfl) (by kernel_rfl) (by first | exact (Below.refl _ _).drew | exact Below.drew (by assumption)) ?_
              have bS : Below (wr.alloc (.cells #[.string fn, .string fv] 37)).heap.size (wr.alloc (.cells #[.string fn, .string fv] 37)) _ := (by first | exact Below.drew (by assumption) | exact (Below.refl _ (wr.alloc (.cells #[.string fn, .string fv] 37))).drew)
              iterate 12 (first
                | (apply seqH_skip; (focus (simp only [List.getElem?_toArray, List.getElem?_cons_succ, List.getElem?_cons_zero]; rfl)); (focus rfl); simp only [Act.put, List.setIfInBounds_toArray, List.set_cons_zero, List.set_cons_succ])
                | (apply seqH_take; (focus (simp only [List.getElem?_toArray, List.getElem?_cons_succ, List.getElem?_cons_zero]; rfl)); (focus rfl); (focus (intro w' hS; obtain ⟨c0, c1, c2, c3⟩ := HC.out _ hS; have e99 := g2 gn fn gv fv w'; rw [hnn] at e99; first | (go_simp; rfl) | (go_simp; done))); simp only [Act.put, List.setIfInBounds_toArray, List.set_cons_zero, List.set_cons_succ])
                | (apply seqH_pass; (focus (simp only [List.getElem?_toArray, List.getElem?_cons_succ, List.getElem?_cons_zero]; rfl)); (focus rfl); (focus assumption); simp only [Act.put, List.setIfInBounds_toArray, List.set_cons_zero, List.set_cons_succ])
                | (apply seqH_eff; (focus (simp only [List.getElem?_toArray, List.getElem?_cons_succ, List.getElem?_cons_zero]; rfl)); (focus rfl); intro K hK; go_simp; fail; rintro e wN ⟨rfl, bN⟩; refine hK _ _ (seq_next (by assumption) bN (fun bS' => ?_)); clear hK K))
              refine seqH_nil ?_
              go_wp2_with fail
              go_roundw
              case rel => exact ⟨k + 1, by omega, by go_num, by rw [HQ2.out], (hb2.trans (bA.mono hb2.size)).trans (Below.mono (by assumption) (by have := hb2.size; omega))⟩
              case measure => simp [intOf]; omega
          · have dj : decide ((j : Int) < (M.length : Int)) = false := decide_eq_false (by omega)
            have dj' : decide (j < M.length) = false := decide_eq_false hjm
            have hq : isW H (fn, fv) = true := by
              cases hq : isW H (fn, fv)
              · have := HATk.out hq
                rw [List.getElem?_eq_none (by omega)] at this; cases this
              · rfl
            have HQ2 : Hid ((keepW H (l.take (k + 1))).length = j) := by show _ = _; rw [HSTk.out, hq]; rfl
            clear hq e0 e1
            go_wp2_with fail
            refine wp_region_seq [(true, 0), (true, 1), (true, 2), (true, 3), (true, 4), (true, 5), (true, 6), (true, 7), (true, 8), (true, 9), (true, 10), (true, 11)] (fun w' => Below (wr.alloc (.cells #[.string fn, .string fv] 37)).heap.size (wr.alloc (.cells #[.string fn, .string fv] 37)) w') (by kernel_rfl) (by kernel_rfl) (fun _ _ _ _ _ h => h) (by kernel_rfl) (by kernel_rfl) (by first | exact (Below.refl _ _).drew | exact Below.drew (by assumption)) ?_
            have bS : Below (wr.alloc (.cells #[.string fn, .string fv] 37)).heap.size (wr.alloc (.cells #[.string fn, .string fv] 37)) _ := (by first | exact Below.drew (by assumption) | exact (Below.refl _ (wr.alloc (.cells #[.string fn, .string fv] 37))).drew)
            iterate 12 (first
              | (apply seqH_skip; (focus (simp only [List.getElem?_toArray, List.getElem?_cons_succ, List.getElem?_cons_zero]; rfl)); (focus rfl); simp only [Act.put, List.setIfInBounds_toArray, List.set_cons_zero, List.set_cons_succ])
              | (apply seqH_take; (focus (simp only [List.getElem?_toArray, List.getElem?_cons_succ, List.getElem?_cons_zero]; rfl)); (focus rfl); (focus (intro w' hS; skip; first | (go_simp; rfl) | (go_simp; done))); simp only [Act.put, List.setIfInBounds_toArray, List.set_cons_zero, List.set_cons_succ])
              | (apply seqH_pass; (focus (simp only [List.getElem?_toArray, List.getElem?_cons_succ, List.getElem?_cons_zero]; rfl)); (focus rfl); (focus assumption); simp only [Act.put, List.setIfInBounds_toArray, List.set_cons_zero, List.set_cons_succ])
              | (apply seqH_eff; (focus (simp only [List.getElem?_toArray, List.getElem?_cons_succ, List.getElem?_cons_zero]; rfl)); (focus rfl); intro K hK; go_simp; fail; rintro e wN ⟨rfl, bN⟩; refine hK _ _ (seq_next (by assumption) bN (fun bS' => ?_)); clear hK K))
            refine seqH_nil ?_
            go_wp2_with fail
            go_roundw
            case rel => exact ⟨k + 1, by omega, by go_num, by rw [HQ2.out], (hb2.trans (bA.mono hb2.size)).trans (Below.mono (by assumption) (by have := hb2.size; omega))⟩
            case measure => simp [intOf]; omega
        · obtain rfl : k = l.length := by omega
          have hE : l.take l.length = l := List.take_of_length_le (Nat.le_refl _)
          rw [hE, ← HM.out] at *
          have B4 := Br.trans (hb2.mono Br.size)
          have HM4 := Lib.hid (HMr.out.below hb2)
          have HU4 := Lib.hid (HU.out.below B4)
          have hself : ((M.length : Int) != (M.length : Int)) = false := by simp
          have hML : M.length ≤ 140737488351232 := by have := HMr.out.len; omega
          clear HSTEP HAT HKEPT HCNT H2M H2L hjle
          go_wp2_with fail
          refine (HST2.out _ _ HM4.out).mono ?_
          rintro e w5 ⟨⟨y, rfl, o5⟩, b5⟩
          have HY := Lib.hid (SlR.of_owns o5)
          clear o5
          have B5 := belT B4 b5
          go_wp2_with fail
          refine (eqFld_any y _ M M _ HY.out (HM4.out.below b5).sl hML hML).mono ?_
          rintro e w6 ⟨rfl, b6⟩
          rw [decide_eq_true rfl]
          have B6 := belT B5 b6
          go_wp2_with fail
          refine (HTK.out _).mono ?_
          rintro e w' ⟨rfl, rfl⟩
          cases hT : Tok.isTok n
          · go_wp2_with fail
            go_ret
            exact ⟨rfl, B6⟩
          · by_cases h30 : 30 < n.size
            · have d30 : decide (30 < n.size) = true := decide_eq_true h30
              go_wp2_with fail
              go_ret
              exact ⟨rfl, B6⟩
            · have d30 : decide (30 < n.size) = false := decide_eq_false h30
              have HF := Lib.hid (HSN.out hT (by omega))
              have h30' : ¬ ((30 : Int) < (n.size : Int)) := by omega
              clear HSN
              go_wp2_with fail
              refine (HSET.out _ (HU.out.below B6)).mono ?_
              rintro e w7 ⟨⟨x7, rfl, o7⟩, b7⟩
              have H7 := Lib.hid (HFS.out _ _ (SlR.of_owns o7))
              clear o7
              have B7 := belT B6 b7
              go_wp2_with fail
              refine (HSETS.out _ _ H7.out).mono ?_
              rintro e w8 ⟨⟨x8, rfl, o8⟩, b8⟩
              have H8 := Lib.hid (HFSS.out _ _ (SlR.of_owns o8))
              clear o8
              have B8 := belT B7 b8
              go_wp2_with fail
              refine (HGS.out _ _ H8.out).mono ?_
              rintro e w9 ⟨rfl, b9⟩
              rw [HF.out]
              go_wp2_with fail
              go_ret
              exact ⟨rfl, belT B8 b9⟩
end Go.Proofs.Ytiijgbgknolmcaa
