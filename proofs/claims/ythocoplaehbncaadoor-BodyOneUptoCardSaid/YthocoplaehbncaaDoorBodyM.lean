/- BodyOne: the law's walk. -/
import Derived.Test.YthocoplaehbncaaDoorBodyL
namespace Go.Proofs.YthocoplaehbncaaDoor
set_option maxRecDepth 20000
open Go.RowKit
open Bd
set_option maxHeartbeats 6400000 in
theorem bodyOne_walk (req : Bool) (m : ByteArray) (code n0 : Int) (v : Value) (l : List Fld) (w : World) (hm : m.size ≤ 1048576) (_ : (Lit.int .i64 code).wf = true) (hn0 : (Lit.int .i64 n0).wf = true) (h : SlR w e_ss v l) (hs : (l.map (fun d => d.1.size + d.2.size + 2)).sum ≤ 1048576) (he : HasErr w) :
    Calls Tryd.prog 7 #[.bool req, .string m, .int .i64 code, .int .i64 n0, v] w fun e w' => e = .returned (.bool true) ∧ Below w.heap.size w w' := by
  have hls : wt l ≤ 1048576 := hs
  have hll : l.length ≤ 1048576 := Nat.le_trans (wt_len l) hls
  have HE := Lib.hid (fun w' (hb : Below w.heap.size w w') => he.below hb)
  have HL := Lib.hid (fun w' (hb : Below w.heap.size w w') => h.below hb)
  have B1 : Below w.heap.size w (w.alloc (.cells #[.string nTE, .string ⟨#[99, 104, 117, 110, 107, 101, 100]⟩, .string ncl, .string ⟨#[53]⟩] 28)) := (Below.refl _ _).alloc (Nat.le_refl _) _
  have hbs : SlR (w.alloc (.cells #[.string nTE, .string ⟨#[99, 104, 117, 110, 107, 101, 100]⟩, .string ncl, .string ⟨#[53]⟩] 28)) e_ss (.slice (some ⟨w.heap.size, 0, none⟩) 2 2) bothL := SlR.lit (enc := e_ss) w [.string nTE, .string ⟨#[99, 104, 117, 110, 107, 101, 100]⟩, .string ncl, .string ⟨#[53]⟩] _ bothL rfl
  have HP := Lib.hid (kind_any true ⟨#[80, 79, 83, 84]⟩ 0 _ bothL _ ⟨hbs, by decide⟩ (he.below B1))
  have HBs := Lib.hid hbs
  rw [kind_post] at HP
  unfold nTE ncl at B1 HBs HP
  clear h hs he hbs
  obtain ⟨n, hn, hn5⟩ : ∃ n : Nat, n0 % 5000 = (n : Int) ∧ n < 5000 := ⟨(n0 % 5000).toNat, by omega, by omega⟩
  have HR := Lib.hid (fun w => rest_any n0 5000 w (wide_of hn0) (by omega))
  rw [hn] at HR
  have HD := Lib.hid (fun w => digits_any n w (by omega))
  have hdz : (Fr.digS n).size ≤ 5 := by unfold Fr.digS; rw [mkS_size]; exact Fr.digL_5 (by omega)
  have HK2 := Lib.hid (fun w1 w' (hb : Below w.heap.size w w') (hsl : SlR w' e_ss (.slice (some ⟨w1, 0, none⟩) 2 2) (twoL (Fr.digS n))) => kind_any true m code _ (twoL (Fr.digS n)) w' ⟨hsl, wt_two _ hdz⟩ (HE.out w' hb))
  rw [kind_two m code n hn5] at HK2
  have HK1 := Lib.hid (fun u w' (hb : Below w.heap.size w w') (hsl : SlR w' e_ss u (l ++ bothL)) => kind_any req m code u (l ++ bothL) w' ⟨hsl, wt_both l hls⟩ (HE.out w' hb))
  rw [kind_both] at HK1
  have HTwo := Lib.hid (fun w => SlR.lit (enc := e_ss) w [.string nCL, .string ⟨#[55]⟩, .string nCL, .string (Fr.digS n)] 28 (twoL (Fr.digS n)) rfl)
  unfold nCL at HTwo
  have hB : noB req m code = (!req && (m.toList == headL || decide (code < 200) || code == 204 || code == 304)) := rfl
  unfold headL at hB
  clear hn hn0 HE
  generalize Fr.digS n = D at *
  generalize hnb : noB req m code = nb at *
  clear hnb
  generalize hhd : (m.toList == [72, 69, 65, 68]) = hd at *
  generalize hd2 : decide (code < 200) = d2 at *
  generalize hd4 : (code == 204) = d4 at *
  generalize hd3 : (code == 304) = d3 at *
  have hpath : (req = false ∧ hd = true ∧ nb = true) ∨ (req = false ∧ hd = false ∧ d2 = true ∧ nb = true) ∨ (req = false ∧ hd = false ∧ d2 = false ∧ d4 = true ∧ nb = true) ∨ (req = false ∧ hd = false ∧ d2 = false ∧ d4 = false ∧ d3 = true ∧ nb = true) ∨ nb = false := by
    subst hB
    cases req <;> cases hd <;> cases d2 <;> cases d4 <;> cases d3 <;> simp
  clear hB
  go_enter Tryd.func7, Tryd.ntmps7
  go_wp2_with fail
  refine HP.out.mono ?_
  rintro e w2 ⟨rfl, b2⟩
  have B2 := belT B1 b2
  have HB2 := Lib.hid (HBs.out.below b2)
  clear HP HBs B1 b2
  go_wp2_with fail
  refine (copyFld_any v l _ (HL.out _ B2) (by omega)).mono ?_
  rintro e w3 ⟨⟨u3, rfl, o3⟩, b3⟩
  have B3 := belT B2 b3
  have O3 := Lib.hid o3
  have HB3 := Lib.hid (HB2.out.below b3)
  clear o3
  go_wp2_with (at_builtin; go_must (refine wpList_append_slr rfl (.tmp 35) (.tmp 36) _ rfl w2.heap.size 28 (.agg #[.string ByteArray.empty, .string ByteArray.empty]) 2 32 e_ss Tryd.underlying22 fldInfo rfl (by decide) (fun _ => rfl) _ l rfl O3.out _ bothL rfl HB3.out (ss_one bothL) (by simp only [maxLen]; show l.length + 2 ≤ _; omega) (by show (l.length + 2) * 32 ≤ _; omega) b3.size ?_); intro v4 w4 o4 g4)
  have B4 : Below w.heap.size w w4 := B3.grown g4 B3.size (fun k hk => Nat.le_trans B2.size (O3.out.lt k hk).1)
  have S4 := Lib.hid (SlR.of_owns o4)
  obtain ⟨A4, c4, rfl⟩ := o4.slice
  clear O3 HB2 HB3 o4 g4 HL
  go_wp2_with fail
  refine (HK1.out _ _ B4 S4.out).mono ?_
  rintro e w5 ⟨rfl, b5⟩
  have B5 := belT B4 b5
  clear HK1 S4 b5 B4 B3 B2 b3
  rcases hpath with ⟨rfl, rfl, rfl⟩ | ⟨rfl, rfl, rfl, rfl⟩ | ⟨rfl, rfl, rfl, rfl, rfl⟩ | ⟨rfl, rfl, rfl, rfl, rfl, rfl⟩ | rfl
  iterate 4
    focus
      go_wp2_with fail
      go_ret
      exact ⟨rfl, B5⟩
  go_wp2_with fail
  refine (HR.out _).mono ?_
  rintro e w' ⟨rfl, rfl⟩
  go_wp2_with fail
  refine (HD.out _).mono ?_
  rintro e w6 ⟨rfl, b6⟩
  have B6 := belT B5 b6
  have BA := belT B6 ((Below.refl w6.heap.size w6).alloc (Nat.le_refl _) (.cells #[.string ⟨#[67, 111, 110, 116, 101, 110, 116, 45, 76, 101, 110, 103, 116, 104]⟩, .string ⟨#[55]⟩, .string ⟨#[67, 111, 110, 116, 101, 110, 116, 45, 76, 101, 110, 103, 116, 104]⟩, .string D] 28))
  go_wp2_with fail
  refine (HK2.out _ _ BA (HTwo.out w6)).mono ?_
  rintro e w7 ⟨rfl, b7⟩
  have B7 := belT BA b7
  clear b7 BA B6 B5 HK2 HTwo HR HD
  by_cases h7 : n = 7
  · subst h7
    go_wp2_with fail
    go_ret
    exact ⟨rfl, B7⟩
  · have d7 : ((n : Int) == 7) = false := by rw [beq_eq_false_iff_ne]; omega
    rw [if_neg h7]
    go_wp2_with fail
    go_ret
    exact ⟨rfl, B7⟩
end Go.Proofs.YthocoplaehbncaaDoor
