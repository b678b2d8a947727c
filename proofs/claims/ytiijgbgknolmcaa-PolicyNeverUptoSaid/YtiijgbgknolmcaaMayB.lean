/- policy's MayStore: what it answers. -/
import Derived.Test.YtiijgbgknolmcaaMayA
import Derived.Test.YtiijgbgknolmcaaVaryA
import Derived.Test.YtiijgbgknolmcaaRegion
namespace Go.Proofs.Ytiijgbgknolmcaa
set_option maxRecDepth 20000
open Go.RowKit
namespace Dp
def lNS : List ByteArray := [⟨#[110, 111, 45, 115, 116, 111, 114, 101]⟩]
def lNSP : List ByteArray := [⟨#[110, 111, 45, 115, 116, 111, 114, 101]⟩, ⟨#[112, 114, 105, 118, 97, 116, 101]⟩]
def lAuth : List ByteArray := [⟨#[65, 117, 116, 104, 111, 114, 105, 122, 97, 116, 105, 111, 110]⟩]
def lMR : List ByteArray := [⟨#[109, 117, 115, 116, 45, 114, 101, 118, 97, 108, 105, 100, 97, 116, 101]⟩, ⟨#[112, 117, 98, 108, 105, 99]⟩, ⟨#[115, 45, 109, 97, 120, 97, 103, 101]⟩]
def lPub : List ByteArray := [⟨#[112, 117, 98, 108, 105, 99]⟩, ⟨#[109, 97, 120, 45, 97, 103, 101]⟩, ⟨#[115, 45, 109, 97, 120, 97, 103, 101]⟩]
def lExp : List ByteArray := [⟨#[69, 120, 112, 105, 114, 101, 115]⟩, ⟨#[76, 97, 115, 116, 45, 77, 111, 100, 105, 102, 105, 101, 100]⟩, ⟨#[69, 84, 97, 103]⟩]
def codes : List Int := [200, 203, 204, 300, 301, 308, 404, 405, 410, 414, 501]
def mayF (m : ByteArray) (l : List Fld) (code : Int) (k : List Fld) : Bool :=
  if (m.toList == [71, 69, 84]) = false ∨ codes.contains code = false then false else
  if lNS.any (fun n => hasD (dirsF l) n) = true ∨ lNSP.any (fun n => hasD (dirsF k) n) = true then false else
  if lAuth.any (fun n => isR l n) = true ∧ lMR.any (fun n => hasD (dirsF k) n) = false then false else
  if (Vy.namesSC (Vy.txt k Vy.nVary)).1 = true ∨ (Vy.namesSC (Vy.txt k Vy.nVary)).2 ≠ 0 then false else
  (lPub.any (fun n => hasD (dirsF k) n) || lExp.any (fun n => isR k n))
theorem directivesP_any (u : Value) (l : List Fld) (w : World) (h : LOk w u l) :
    Calls Try.prog 16 #[u] w fun e w' => (∃ v, e = .returned v ∧ SlR w' e_sbs v (dirsF l)) ∧ Below w.heap.size w w' := by
  have HP := Lib.hid (fun w => parseD_any (txt l nCC) w (h.txt nCC))
  have HR : Hid (dirsF l = dirsD (txt l nCC)) := rfl
  have HG : Hid (Calls Try.prog 12 #[u, .string nCC] w fun e w' => e = .returned (.tuple #[.string (txt l nCC), .bool (isR l nCC)]) ∧ Below w.heap.size w w') := get_any u l nCC w h.sl h.len h.lims (by decide) (h.join nCC)
  generalize dirsD (txt l nCC) = ds at *
  generalize txt l nCC = T at *
  generalize isR l nCC = q at *
  go_enter Try.func16, Try.ntmps16
  go_wp2_with fail
  refine HG.out.mono ?_
  rintro e w1 ⟨rfl, b1⟩
  go_wp2_with fail
  refine (HP.out _).mono ?_
  rintro e w2 ⟨⟨v, c, rfl, hs, -⟩, b2⟩
  have HS := Lib.hid hs
  clear hs
  go_wp2_with fail
  go_ret
  exact ⟨⟨v, rfl, by rw [HR.out]; exact HS.out⟩, belT b1 b2⟩
theorem codes_cell (w : World) : ∀ j, j < codes.length → (w.alloc (.cells #[.int .i64 200, .int .i64 203, .int .i64 204, .int .i64 300, .int .i64 301, .int .i64 308, .int .i64 404, .int .i64 405, .int .i64 410, .int .i64 414, .int .i64 501] 3)).cell? ⟨w.heap.size, 0 + j, none⟩ = some (.int .i64 (codes.getD j 0)) := by
  intro j hj
  have h := new_cells w (codes.map (Value.int .i64)) 3 j (.int .i64 (codes.getD j 0)) (by rw [List.getElem?_map, List.getD_eq_getElem?_getD, List.getElem?_eq_getElem hj]; rfl)
  have e : ((⟨w.heap.size, 0, none⟩ : Addr).add j) = ⟨w.heap.size, 0 + j, none⟩ := by unfold Addr.add; split <;> simp_all
  rw [e] at h
  exact h
def rqv (m t : ByteArray) (rf : Value) (rb : ByteArray) : Value := .agg #[.string m, .string t, rf, .string rb]
def rsv (code : Int) (rs : ByteArray) (u : Value) (bd : ByteArray) : Value := .agg #[.int .i64 code, .string rs, u, .string bd]
set_option maxHeartbeats 12800000 in
theorem may_any (m t : ByteArray) (rf : Value) (rb : ByteArray) (l : List Fld) (code : Int) (rs : ByteArray) (u : Value) (bd : ByteArray) (k : List Fld) (w : World) (hl : LOk w rf l) (hk : LOk w u k) :
    Calls Try.prog 6 #[rqv m t rf rb, rsv code rs u bd] w fun e w' => e = .returned (.bool (mayF m l code k)) ∧ Below w.heap.size w w' := by
  have b0 : Below w.heap.size w ((w.alloc (.cells #[.string m, .string t, rf, .string rb] 24)).alloc (.cells #[.int .i64 code, .string rs, u, .string bd] 26)) := ((Below.refl _ _).alloc (Nat.le_refl _) _).alloc (by simp) _
  have hz0 : ((w.alloc (.cells #[.string m, .string t, rf, .string rb] 24)).alloc (.cells #[.int .i64 code, .string rs, u, .string bd] 26)).heap.size = w.heap.size + 2 := by simp
  have q0 : ((w.alloc (.cells #[.string m, .string t, rf, .string rb] 24)).alloc (.cells #[.int .i64 code, .string rs, u, .string bd] 26)).cell? ⟨w.heap.size, 0, none⟩ = some (.string m) := by go_simp
  have q2 : ((w.alloc (.cells #[.string m, .string t, rf, .string rb] 24)).alloc (.cells #[.int .i64 code, .string rs, u, .string bd] 26)).cell? ⟨w.heap.size, 2, none⟩ = some rf := by go_simp
  have p0 : ((w.alloc (.cells #[.string m, .string t, rf, .string rb] 24)).alloc (.cells #[.int .i64 code, .string rs, u, .string bd] 26)).cell? ⟨w.heap.size + 1, 0, none⟩ = some (.int .i64 code) := by go_simp
  have p2 : ((w.alloc (.cells #[.string m, .string t, rf, .string rb] 24)).alloc (.cells #[.int .i64 code, .string rs, u, .string bd] 26)).cell? ⟨w.heap.size + 1, 2, none⟩ = some u := by go_simp
  have HK := Lib.hid hk
  have HL := Lib.hid hl
  have hd1 := (dirsD_ok (txt l nCC)).1
  have hd2 := (dirsD_ok (txt k nCC)).1
  have HHA := Lib.hid (fun v1 v xs w (h1 : SlR w e_sbs v1 (dirsF l)) (h : SlR w es v xs) hl hx => has_pol v1 v (dirsF l) xs w h1 h hl hx hd1)
  have HHS := Lib.hid (fun v1 v xs w (h1 : SlR w e_sbs v1 (dirsF k)) (h : SlR w es v xs) hl hx => has_pol v1 v (dirsF k) xs w h1 h hl hx hd2)
  have HN := Lib.hid (fun w (h : LOk w u k) => Vy.names_any u k w h.sl h.len h.lims (h.join Vy.nVary))
  have HR : Hid (mayF m l code k = if (m.toList == [71, 69, 84]) = false ∨ codes.contains code = false then false else
      if lNS.any (fun n => hasD (dirsF l) n) = true ∨ lNSP.any (fun n => hasD (dirsF k) n) = true then false else
      if lAuth.any (fun n => isR l n) = true ∧ lMR.any (fun n => hasD (dirsF k) n) = false then false else
      if (Vy.namesSC (Vy.txt k Vy.nVary)).1 = true ∨ (Vy.namesSC (Vy.txt k Vy.nVary)).2 ≠ 0 then false else
      (lPub.any (fun n => hasD (dirsF k) n) || lExp.any (fun n => isR k n))) := rfl
  have H1 := Lib.hid (fun v1 v w h1 h => HHA.out v1 v lNS w h1 h (by decide) (by decide))
  have H2 := Lib.hid (fun v1 v w h1 h => HHS.out v1 v lNSP w h1 h (by decide) (by decide))
  have H3 := Lib.hid (fun v w (h1 : LOk w rf l) h => there_pol rf v l lAuth w h1 h (by decide) (by decide))
  have H4 := Lib.hid (fun v1 v w h1 h => HHS.out v1 v lMR w h1 h (by decide) (by decide))
  have H5 := Lib.hid (fun v1 v w h1 h => HHS.out v1 v lPub w h1 h (by decide) (by decide))
  have H6 := Lib.hid (fun v w (h1 : LOk w u k) h => there_pol u v k lExp w h1 h (by decide) (by decide))
  have HD0 := Lib.hid (fun w h => directivesP_any rf l w h)
  have HD1 := Lib.hid (fun w h => directivesP_any u k w h)
  clear hk hl hd1 hd2 HHA HHS
  generalize mayF m l code k = R at *
  generalize Vy.namesSC (Vy.txt k Vy.nVary) = nsc at *
  generalize lNS.any (fun n => hasD (dirsF l) n) = h1 at *
  generalize lNSP.any (fun n => hasD (dirsF k) n) = h2 at *
  generalize lAuth.any (fun n => isR l n) = h3 at *
  generalize lMR.any (fun n => hasD (dirsF k) n) = h4 at *
  generalize lPub.any (fun n => hasD (dirsF k) n) = h5 at *
  generalize lExp.any (fun n => isR k n) = h6 at *
  obtain ⟨star, ec⟩ := nsc
  obtain ⟨cc, hcc⟩ : ∃ cc, codes.contains code = cc := ⟨_, rfl⟩
  rw [hcc] at HR
  have HCO := Lib.hid hcc
  clear hcc
  generalize dirsF l = d0 at *
  generalize dirsF k = d1 at *
  unfold rqv rsv
  go_enter Try.func6, Try.ntmps6
  go_wp2_with fail
  have HX := Lib.hid (fun w' (hb : Below ((w.alloc (.cells #[.string m, .string t, rf, .string rb] 24)).alloc (.cells #[.int .i64 code, .string rs, u, .string bd] 26)).heap.size ((w.alloc (.cells #[.string m, .string t, rf, .string rb] 24)).alloc (.cells #[.int .i64 code, .string rs, u, .string bd] 26)) w') => show w'.cell? ⟨w.heap.size, 0, none⟩ = some (.string m) ∧ w'.cell? ⟨w.heap.size, 2, none⟩ = some rf ∧ w'.cell? ⟨w.heap.size + 1, 0, none⟩ = some (.int .i64 code) ∧ w'.cell? ⟨w.heap.size + 1, 2, none⟩ = some u from ⟨(hb.cell (by rw [hz0]; show w.heap.size < _; omega)).trans q0, (hb.cell (by rw [hz0]; show w.heap.size < _; omega)).trans q2, (hb.cell (by rw [hz0]; show w.heap.size + 1 < _; omega)).trans p0, (hb.cell (by rw [hz0]; show w.heap.size + 1 < _; omega)).trans p2⟩)
  have HX0 := Lib.hid (fun w' (hb : Below ((w.alloc (.cells #[.string m, .string t, rf, .string rb] 24)).alloc (.cells #[.int .i64 code, .string rs, u, .string bd] 26)).heap.size ((w.alloc (.cells #[.string m, .string t, rf, .string rb] 24)).alloc (.cells #[.int .i64 code, .string rs, u, .string bd] 26)) w') => b0.trans (hb.mono b0.size))
  clear b0 q0 q2 p0 p2 hz0
  generalize ((w.alloc (.cells #[.string m, .string t, rf, .string rb] 24)).alloc (.cells #[.int .i64 code, .string rs, u, .string bd] 26)) = wa at *
  refine wp_region_seq [(true, 0), (true, 1), (true, 3), (true, 4), (false, 2), (false, 5), (true, 6), (true, 7)] (fun w' => Below wa.heap.size wa w') (by kernel_rfl) (by kernel_rfl) (fun _ _ _ _ _ h => h) (by kernel_rfl) (by kernel_rfl) (by first | exact (Below.refl _ _).drew | exact Below.drew (by assumption)) ?_
  have bS : Below wa.heap.size wa _ := (by first | exact Below.drew (by assumption) | exact (Below.refl _ wa).drew)
  iterate 4 (first | (apply seqH_skip; (focus (simp only [List.getElem?_toArray, List.getElem?_cons_succ, List.getElem?_cons_zero]; rfl)); (focus rfl); simp only [Act.put, List.setIfInBounds_toArray, List.set_cons_zero, List.set_cons_succ]) | (apply seqH_take; (focus (simp only [List.getElem?_toArray, List.getElem?_cons_succ, List.getElem?_cons_zero]; rfl)); (focus rfl); (focus (intro w' hS; obtain ⟨x0, x1, x2, x3⟩ := HX.out _ hS; first | (go_simp; rfl) | (go_simp; done))); simp only [Act.put, List.setIfInBounds_toArray, List.set_cons_zero, List.set_cons_succ]) | (apply seqH_pass; (focus (simp only [List.getElem?_toArray, List.getElem?_cons_succ, List.getElem?_cons_zero]; rfl)); (focus rfl); (focus assumption); simp only [Act.put, List.setIfInBounds_toArray, List.set_cons_zero, List.set_cons_succ]))
  apply seqH_eff
  (focus (simp only [List.getElem?_toArray, List.getElem?_cons_succ, List.getElem?_cons_zero]; rfl))
  (focus rfl)
  intro K hK
  go_simp
  go_at_call 16
  refine (HD0.out _ (HL.out.below (HX0.out _ bS))).mono ?_
  rintro e w1 ⟨⟨v, rfl, hs1⟩, b1⟩
  refine hK _ _ (seq_next bS b1 (fun bS1 => ?_))
  clear hK K
  apply seqH_eff
  (focus (simp only [List.getElem?_toArray, List.getElem?_cons_succ, List.getElem?_cons_zero]; rfl))
  (focus rfl)
  intro K hK
  go_simp
  go_at_call 16
  refine (HD1.out _ (HK.out.below (HX0.out _ bS1))).mono ?_
  rintro e w2 ⟨⟨v2, rfl, hs2⟩, b2⟩
  refine hK _ _ (seq_next bS1 b2 (fun bS2 => ?_))
  clear hK K
  have HV1 := Lib.hid (SlR.below hs1 b2)
  have HV2 := Lib.hid hs2
  clear hs1 hs2 bS1 HD0 HD1
  iterate 2 (first | (apply seqH_skip; (focus (simp only [List.getElem?_toArray, List.getElem?_cons_succ, List.getElem?_cons_zero]; rfl)); (focus rfl); simp only [Act.put, List.setIfInBounds_toArray, List.set_cons_zero, List.set_cons_succ]) | (apply seqH_take; (focus (simp only [List.getElem?_toArray, List.getElem?_cons_succ, List.getElem?_cons_zero]; rfl)); (focus rfl); (focus (intro w' hS; skip; first | (go_simp; rfl) | (go_simp; done))); simp only [Act.put, List.setIfInBounds_toArray, List.set_cons_zero, List.set_cons_succ]) | (apply seqH_pass; (focus (simp only [List.getElem?_toArray, List.getElem?_cons_succ, List.getElem?_cons_zero]; rfl)); (focus rfl); (focus assumption); simp only [Act.put, List.setIfInBounds_toArray, List.set_cons_zero, List.set_cons_succ]))
  refine seqH_nil ?_
  have HY := Lib.hid (fun w' (hb : Below w2.heap.size w2 w') => show w'.cell? ⟨w.heap.size, 0, none⟩ = some (.string m) ∧ w'.cell? ⟨w.heap.size, 2, none⟩ = some rf ∧ w'.cell? ⟨w.heap.size + 1, 0, none⟩ = some (.int .i64 code) ∧ w'.cell? ⟨w.heap.size + 1, 2, none⟩ = some u from HX.out _ (bS2.trans (hb.mono bS2.size)))
  have BW2 := HX0.out _ bS2
  have HKw := Lib.hid (fun w' (hb : Below w2.heap.size w2 w') => HK.out.below (belT BW2 hb))
  have HLw := Lib.hid (fun w' (hb : Below w2.heap.size w2 w') => HL.out.below (belT BW2 hb))
  clear HX HX0 bS2 bS b1 b2 HK HL
  obtain ⟨x0, x1, x2, x3⟩ := HY.out _ (Below.refl _ _)
  go_wp2_with fail
  refine (HN.out _ (HKw.out _ (Below.refl _ _))).mono ?_
  rintro e w3 ⟨⟨nv, rfl⟩, c3⟩
  clear x0 x1 x2 x3
  have HCC := Lib.hid (codes_cell w3)
  have c4 : Below w2.heap.size w2 (w3.alloc (.cells #[.int .i64 200, .int .i64 203, .int .i64 204, .int .i64 300, .int .i64 301, .int .i64 308, .int .i64 404, .int .i64 405, .int .i64 410, .int .i64 414, .int .i64 501] 3)) := c3.alloc c3.size _
  obtain ⟨x0, x1, x2, x3⟩ := HY.out _ c4
  cases t1 : (m.toList == [71, 69, 84])
  · skip
    go_wp2_with fail
    go_ret
    exact ⟨ret_bool (by rw [HR.out]; simp [t1]), belT BW2 c4⟩
  · go_wp2_with fail
    refine (Try.slices_Contains_int w3.heap.size 0 11 11 codes code (w3.alloc (.cells #[.int .i64 200, .int .i64 203, .int .i64 204, .int .i64 300, .int .i64 301, .int .i64 308, .int .i64 404, .int .i64 405, .int .i64 410, .int .i64 414, .int .i64 501] 3)) (by decide) (by decide) HCC.out).mono ?_
    rintro e w' ⟨rfl, rfl⟩
    rw [show (codes.take 11) = codes from rfl, HCO.out]
    have T1 := Lib.hid t1
    clear t1 x0 x1 x2 x3 HCC HN
    cases cc
    · skip
      go_wp2_with fail
      go_ret
      exact ⟨ret_bool (by rw [HR.out]; simp [T1.out]), belT BW2 c4⟩
    · skip
      generalize (w3.alloc (.cells #[.int .i64 200, .int .i64 203, .int .i64 204, .int .i64 300, .int .i64 301, .int .i64 308, .int .i64 404, .int .i64 405, .int .i64 410, .int .i64 414, .int .i64 501] 3)) = w4 at *
      have a5 : Below w2.heap.size w2 (w4.alloc (.cells #[.string ⟨#[110, 111, 45, 115, 116, 111, 114, 101]⟩] 9)) := c4.alloc c4.size _
      have l5 : SlR (w4.alloc (.cells #[.string ⟨#[110, 111, 45, 115, 116, 111, 114, 101]⟩] 9)) es (.slice (some ⟨w4.heap.size, 0, none⟩) 1 1) lNS := SlR.lit (enc := es) w4 [.string ⟨#[110, 111, 45, 115, 116, 111, 114, 101]⟩] 9 lNS rfl
      go_wp2_with fail
      refine (H1.out v _ _ (HV1.out.below a5) l5).mono ?_
      rintro e w5 ⟨rfl, y5⟩
      have c5 := belT a5 y5
      cases h1
      · skip
        have a6 : Below w2.heap.size w2 (w5.alloc (.cells #[.string ⟨#[110, 111, 45, 115, 116, 111, 114, 101]⟩, .string ⟨#[112, 114, 105, 118, 97, 116, 101]⟩] 9)) := c5.alloc c5.size _
        have l6 : SlR (w5.alloc (.cells #[.string ⟨#[110, 111, 45, 115, 116, 111, 114, 101]⟩, .string ⟨#[112, 114, 105, 118, 97, 116, 101]⟩] 9)) es (.slice (some ⟨w5.heap.size, 0, none⟩) 2 2) lNSP := SlR.lit (enc := es) w5 [.string ⟨#[110, 111, 45, 115, 116, 111, 114, 101]⟩, .string ⟨#[112, 114, 105, 118, 97, 116, 101]⟩] 9 lNSP rfl
        go_wp2_with fail
        refine (H2.out v2 _ _ (HV2.out.below a6) l6).mono ?_
        rintro e w6 ⟨rfl, y6⟩
        have c6 := belT a6 y6
        cases h2
        · skip
          have a7 : Below w2.heap.size w2 (w6.alloc (.cells #[.string ⟨#[65, 117, 116, 104, 111, 114, 105, 122, 97, 116, 105, 111, 110]⟩] 9)) := c6.alloc c6.size _
          have l7 : SlR (w6.alloc (.cells #[.string ⟨#[65, 117, 116, 104, 111, 114, 105, 122, 97, 116, 105, 111, 110]⟩] 9)) es (.slice (some ⟨w6.heap.size, 0, none⟩) 1 1) lAuth := SlR.lit (enc := es) w6 [.string ⟨#[65, 117, 116, 104, 111, 114, 105, 122, 97, 116, 105, 111, 110]⟩] 9 lAuth rfl
          obtain ⟨x0, x1, x2, x3⟩ := HY.out _ c6
          go_wp2_with fail
          clear x0 x1 x2 x3
          refine (H3.out _ _ (HLw.out _ a7) l7).mono ?_
          rintro e w7 ⟨rfl, y7⟩
          have c7 := belT a7 y7
          cases h3
          · skip
            cases star
            · by_cases he : ec = 0
              · subst he
                have a9 : Below w2.heap.size w2 (w7.alloc (.cells #[.string ⟨#[112, 117, 98, 108, 105, 99]⟩, .string ⟨#[109, 97, 120, 45, 97, 103, 101]⟩, .string ⟨#[115, 45, 109, 97, 120, 97, 103, 101]⟩] 9)) := c7.alloc c7.size _
                have l9 : SlR (w7.alloc (.cells #[.string ⟨#[112, 117, 98, 108, 105, 99]⟩, .string ⟨#[109, 97, 120, 45, 97, 103, 101]⟩, .string ⟨#[115, 45, 109, 97, 120, 97, 103, 101]⟩] 9)) es (.slice (some ⟨w7.heap.size, 0, none⟩) 3 3) lPub := SlR.lit (enc := es) w7 [.string ⟨#[112, 117, 98, 108, 105, 99]⟩, .string ⟨#[109, 97, 120, 45, 97, 103, 101]⟩, .string ⟨#[115, 45, 109, 97, 120, 97, 103, 101]⟩] 9 lPub rfl
                go_wp2_with fail
                refine (H5.out v2 _ _ (HV2.out.below a9) l9).mono ?_
                rintro e w9 ⟨rfl, y9⟩
                have c9 := belT a9 y9
                cases h5
                · skip
                  have a10 : Below w2.heap.size w2 (w9.alloc (.cells #[.string ⟨#[69, 120, 112, 105, 114, 101, 115]⟩, .string ⟨#[76, 97, 115, 116, 45, 77, 111, 100, 105, 102, 105, 101, 100]⟩, .string ⟨#[69, 84, 97, 103]⟩] 9)) := c9.alloc c9.size _
                  have l10 : SlR (w9.alloc (.cells #[.string ⟨#[69, 120, 112, 105, 114, 101, 115]⟩, .string ⟨#[76, 97, 115, 116, 45, 77, 111, 100, 105, 102, 105, 101, 100]⟩, .string ⟨#[69, 84, 97, 103]⟩] 9)) es (.slice (some ⟨w9.heap.size, 0, none⟩) 3 3) lExp := SlR.lit (enc := es) w9 [.string ⟨#[69, 120, 112, 105, 114, 101, 115]⟩, .string ⟨#[76, 97, 115, 116, 45, 77, 111, 100, 105, 102, 105, 101, 100]⟩, .string ⟨#[69, 84, 97, 103]⟩] 9 lExp rfl
                  obtain ⟨x0, x1, x2, x3⟩ := HY.out _ c9
                  go_wp2_with fail
                  clear x0 x1 x2 x3
                  refine (H6.out _ _ (HKw.out _ a10) l10).mono ?_
                  rintro e w10 ⟨rfl, y10⟩
                  have c10 := belT a10 y10
                  go_wp2_with fail
                  go_ret
                  exact ⟨ret_bool (by rw [HR.out]; simp [T1.out]), belT BW2 c10⟩
                · skip
                  go_wp2_with fail
                  go_ret
                  exact ⟨ret_bool (by rw [HR.out]; simp [T1.out]), belT BW2 c9⟩
              · have dne : (ec != 0) = true := by rw [bne_iff_ne]; exact he
                have HE := Lib.hid he
                clear he
                go_wp2_with fail
                go_ret
                exact ⟨ret_bool (by rw [HR.out]; simp [T1.out, HE.out]), belT BW2 c7⟩
            · skip
              go_wp2_with fail
              go_ret
              exact ⟨ret_bool (by rw [HR.out]; simp [T1.out]), belT BW2 c7⟩
          · skip
            have a8 : Below w2.heap.size w2 (w7.alloc (.cells #[.string ⟨#[109, 117, 115, 116, 45, 114, 101, 118, 97, 108, 105, 100, 97, 116, 101]⟩, .string ⟨#[112, 117, 98, 108, 105, 99]⟩, .string ⟨#[115, 45, 109, 97, 120, 97, 103, 101]⟩] 9)) := c7.alloc c7.size _
            have l8 : SlR (w7.alloc (.cells #[.string ⟨#[109, 117, 115, 116, 45, 114, 101, 118, 97, 108, 105, 100, 97, 116, 101]⟩, .string ⟨#[112, 117, 98, 108, 105, 99]⟩, .string ⟨#[115, 45, 109, 97, 120, 97, 103, 101]⟩] 9)) es (.slice (some ⟨w7.heap.size, 0, none⟩) 3 3) lMR := SlR.lit (enc := es) w7 [.string ⟨#[109, 117, 115, 116, 45, 114, 101, 118, 97, 108, 105, 100, 97, 116, 101]⟩, .string ⟨#[112, 117, 98, 108, 105, 99]⟩, .string ⟨#[115, 45, 109, 97, 120, 97, 103, 101]⟩] 9 lMR rfl
            go_wp2_with fail
            refine (H4.out v2 _ _ (HV2.out.below a8) l8).mono ?_
            rintro e w8 ⟨rfl, y8⟩
            have c8 := belT a8 y8
            cases h4
            · skip
              go_wp2_with fail
              go_ret
              exact ⟨ret_bool (by rw [HR.out]; simp [T1.out]), belT BW2 c8⟩
            · skip
              cases star
              · by_cases he : ec = 0
                · subst he
                  have a9 : Below w2.heap.size w2 (w8.alloc (.cells #[.string ⟨#[112, 117, 98, 108, 105, 99]⟩, .string ⟨#[109, 97, 120, 45, 97, 103, 101]⟩, .string ⟨#[115, 45, 109, 97, 120, 97, 103, 101]⟩] 9)) := c8.alloc c8.size _
                  have l9 : SlR (w8.alloc (.cells #[.string ⟨#[112, 117, 98, 108, 105, 99]⟩, .string ⟨#[109, 97, 120, 45, 97, 103, 101]⟩, .string ⟨#[115, 45, 109, 97, 120, 97, 103, 101]⟩] 9)) es (.slice (some ⟨w8.heap.size, 0, none⟩) 3 3) lPub := SlR.lit (enc := es) w8 [.string ⟨#[112, 117, 98, 108, 105, 99]⟩, .string ⟨#[109, 97, 120, 45, 97, 103, 101]⟩, .string ⟨#[115, 45, 109, 97, 120, 97, 103, 101]⟩] 9 lPub rfl
                  go_wp2_with fail
                  refine (H5.out v2 _ _ (HV2.out.below a9) l9).mono ?_
                  rintro e w9 ⟨rfl, y9⟩
                  have c9 := belT a9 y9
                  cases h5
                  · skip
                    have a10 : Below w2.heap.size w2 (w9.alloc (.cells #[.string ⟨#[69, 120, 112, 105, 114, 101, 115]⟩, .string ⟨#[76, 97, 115, 116, 45, 77, 111, 100, 105, 102, 105, 101, 100]⟩, .string ⟨#[69, 84, 97, 103]⟩] 9)) := c9.alloc c9.size _
                    have l10 : SlR (w9.alloc (.cells #[.string ⟨#[69, 120, 112, 105, 114, 101, 115]⟩, .string ⟨#[76, 97, 115, 116, 45, 77, 111, 100, 105, 102, 105, 101, 100]⟩, .string ⟨#[69, 84, 97, 103]⟩] 9)) es (.slice (some ⟨w9.heap.size, 0, none⟩) 3 3) lExp := SlR.lit (enc := es) w9 [.string ⟨#[69, 120, 112, 105, 114, 101, 115]⟩, .string ⟨#[76, 97, 115, 116, 45, 77, 111, 100, 105, 102, 105, 101, 100]⟩, .string ⟨#[69, 84, 97, 103]⟩] 9 lExp rfl
                    obtain ⟨x0, x1, x2, x3⟩ := HY.out _ c9
                    go_wp2_with fail
                    clear x0 x1 x2 x3
                    refine (H6.out _ _ (HKw.out _ a10) l10).mono ?_
                    rintro e w10 ⟨rfl, y10⟩
                    have c10 := belT a10 y10
                    go_wp2_with fail
                    go_ret
                    exact ⟨ret_bool (by rw [HR.out]; simp [T1.out]), belT BW2 c10⟩
                  · skip
                    go_wp2_with fail
                    go_ret
                    exact ⟨ret_bool (by rw [HR.out]; simp [T1.out]), belT BW2 c9⟩
                · have dne : (ec != 0) = true := by rw [bne_iff_ne]; exact he
                  have HE := Lib.hid he
                  clear he
                  go_wp2_with fail
                  go_ret
                  exact ⟨ret_bool (by rw [HR.out]; simp [T1.out, HE.out]), belT BW2 c8⟩
              · skip
                go_wp2_with fail
                go_ret
                exact ⟨ret_bool (by rw [HR.out]; simp [T1.out]), belT BW2 c8⟩
        · skip
          go_wp2_with fail
          go_ret
          exact ⟨ret_bool (by rw [HR.out]; simp [T1.out]), belT BW2 c6⟩
      · skip
        go_wp2_with fail
        go_ret
        exact ⟨ret_bool (by rw [HR.out]; simp [T1.out]), belT BW2 c5⟩
end Dp
end Go.Proofs.Ytiijgbgknolmcaa
