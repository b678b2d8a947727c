/- cond's Eval: what it answers. -/
import Derived.Test.YtiijgbgknolmcaaDoorConW
namespace Go.Proofs.YtiijgbgknolmcaaDoor
set_option maxRecDepth 20000
open Go.RowKit
namespace Cn
/-- The thing, in its block. -/
structure Th (w : World) (g : Nat) (there tagged : Bool) (t : Tg.Tag) (m : Int) : Prop where
  lt : g < w.heap.size
  c0 : w.cell? ⟨g, 0, none⟩ = some (.bool there)
  c1 : w.cell? ⟨g, 1, none⟩ = some (.bool tagged)
  c2 : w.cell? ⟨g, 2, none⟩ = some (.bool t.1)
  c3 : w.cell? ⟨g, 3, none⟩ = some (.string t.2)
  c4 : w.cell? ⟨g, 4, none⟩ = some (.int .i64 m)
theorem Th.below {w w' : World} {g : Nat} {there tagged : Bool} {t : Tg.Tag} {m : Int} (h : Th w g there tagged t m) (hb : Below w.heap.size w w') : Th w' g there tagged t m :=
  ⟨Nat.lt_of_lt_of_le h.lt hb.size, (hb.cell h.lt).trans h.c0, (hb.cell h.lt).trans h.c1, (hb.cell h.lt).trans h.c2, (hb.cell h.lt).trans h.c3, (hb.cell h.lt).trans h.c4⟩
set_option maxHeartbeats 6400000 in
theorem eval_any (m : ByteArray) (u : Value) (l : List Fld) (there : Bool) (tag : ByteArray) (modified : Int) (w : World) (h : FOk w u l) (ht : tag.size ≤ 140737488351232) (hj : ∀ n ∈ [nIM, nINM, nIUS, nIMS], (joinL (selF l n) sep2).length ≤ 140737488351232) (hp : HasP10 w) (hm : HasMaxL w) :
    Calls Tryd.prog 13 #[.string m, u, .bool there, .string tag, .int .i64 modified] w fun e w' => (∃ r, e = .returned (.int .i64 r) ∧ Ans m l there tag modified r) ∧ Below w.heap.size w w' := by
  obtain ⟨d1, hd1⟩ := since_ex there modified l nIUS
  obtain ⟨d2, hd2⟩ := since_ex there modified l nIMS
  have HF := Lib.hid h
  have HP := Lib.hid hp
  have HM := Lib.hid hm
  have HT1 := Lib.hid (fun tagged t w h => tags_any there tagged t modified u l nIM true w h (by decide) (hj nIM (by simp)))
  have HT2 := Lib.hid (fun tagged t w h => tags_any there tagged t modified u l nINM false w h (by decide) (hj nINM (by simp)))
  have HS1 := Lib.hid (fun tagged t w h hp hm => since_any there tagged t modified u l nIUS w h (by decide) (hj nIUS (by simp)) hp hm)
  have HS2 := Lib.hid (fun tagged t w h hp hm => since_any there tagged t modified u l nIMS w h (by decide) (hj nIMS (by simp)) hp hm)
  have HA : Hid (∀ tagged t r, TagOf tag tagged t → r = endF (readsF m) modified (tagsF there tagged t l nIM strongF) d1 (tagsF there tagged t l nINM weakF) d2 → Ans m l there tag modified r) := fun tagged t r h1 h2 => ⟨tagged, t, d1, d2, h1, hd1, hd2, h2⟩
  clear h hp hm hj
  unfold thV at HT1 HT2 HS1 HS2
  generalize hAns : Ans m l there tag modified = A at *
  clear hAns
  go_enter Tryd.func13, Tryd.ntmps13
  go_wp2_with fail
  refine (tagParse_any tag _ ht).mono ?_
  rintro e w1 ⟨ha, b1⟩
  have hta : ∃ t c, e = .returned (.tuple #[tagV t, .int .i64 c]) ∧ TagOf tag (c == 0) t := by
    rcases ha with ⟨t, hg, hs, rfl⟩ | ⟨hno, rfl⟩
    · exact ⟨t, 0, rfl, .inl ⟨rfl, hg, hs⟩⟩
    · exact ⟨(false, ByteArray.empty), 3, rfl, .inr ⟨rfl, hno⟩⟩
  obtain ⟨⟨tw, tx⟩, c, rfl, htag⟩ := hta
  have HTAG := Lib.hid htag
  clear htag ha
  unfold tagV
  --TAIL
  have hcs : ((m.toList == [71, 69, 84]) = true ∧ readsF m = true) ∨ ((m.toList == [71, 69, 84]) = false ∧ (m.toList == [72, 69, 65, 68]) = true ∧ readsF m = true) ∨ ((m.toList == [71, 69, 84]) = false ∧ (m.toList == [72, 69, 65, 68]) = false ∧ readsF m = false) := by
    unfold readsF
    cases (m.toList == [71, 69, 84]) <;> cases (m.toList == [72, 69, 65, 68]) <;> simp
  simp only [show sameF true = strongF from rfl, show sameF false = weakF from rfl] at HT1 HT2
  have HA2 := Lib.hid (HA.out _ (tw, tx) _ HTAG.out rfl)
  have HT1' := Lib.hid (fun w h => HT1.out (c == 0) (tw, tx) w h)
  have HT2' := Lib.hid (fun w h => HT2.out (c == 0) (tw, tx) w h)
  have HS1' := Lib.hid (fun w h => HS1.out (c == 0) (tw, tx) w h)
  have HS2' := Lib.hid (fun w h => HS2.out (c == 0) (tw, tx) w h)
  have HD1 := Lib.hid hd1
  have HD2 := Lib.hid hd2
  dsimp only at HT1' HT2' HS1' HS2'
  have b0 : Below w.heap.size w ((w1.alloc (.cells #[.bool tw, .string tx] 30)).alloc (.cells #[.bool there, .bool (c == 0), .bool tw, .string tx, .int .i64 modified] 66)) := (b1.alloc b1.size _).alloc (by have := b1.size; simp; omega) _
  have HTH : Hid (Th ((w1.alloc (.cells #[.bool tw, .string tx] 30)).alloc (.cells #[.bool there, .bool (c == 0), .bool tw, .string tx, .int .i64 modified] 66)) (w1.heap.size + 1) there (c == 0) (tw, tx) modified) := ⟨by simp, by go_simp, by go_simp, by go_simp, by go_simp, by go_simp⟩
  clear HA HT1 HT2 HS1 HS2 HTAG hd1 hd2
  generalize tagsF there (c == 0) (tw, tx) l nIM strongF = R1 at *
  generalize tagsF there (c == 0) (tw, tx) l nINM weakF = R2 at *
  obtain ⟨i1, m1⟩ := R1
  obtain ⟨i2, m2⟩ := R2
  dsimp only at HT1' HT2'
  rcases hcs with ⟨hr1, hR⟩ | ⟨hr1, hr3, hR⟩ | ⟨hr1, hr3, hR⟩
  all_goals
    have HR := Lib.hid hR
    clear hR
    go_wp2_with fail
    refine (HT1'.out _ (HF.out.below b0)).mono ?_
    rintro e w2 ⟨rfl, b2⟩
    have bw2 := b0.trans (b2.mono b0.size)
    have HTH2 := Lib.hid (HTH.out.below b2)
    obtain ⟨hl2, x0, x1, x2, x3, x4⟩ := HTH2.out
    cases i1
    · go_wp2_with fail
      refine (HS1'.out _ (HF.out.below bw2) (HP.out.below rfl bw2) (HM.out.below rfl bw2)).mono ?_
      rintro e w3 ⟨⟨k1, q1, r1, rfl, hr1', hk1⟩, b3⟩
      obtain rfl := since_one hr1' HD1.out
      have bw3 := bw2.trans (b3.mono bw2.size)
      have HTH3 := Lib.hid (HTH2.out.below b3)
      obtain ⟨hl3, z0, z1, z2, z3, z4⟩ := HTH3.out
      rcases hk1 with ⟨rfl, rfl⟩ | ⟨j1, rfl, rfl, rfl⟩
      · clear hr1'
        go_wp2_with fail
        refine (HT2'.out _ (HF.out.below bw3)).mono ?_
        rintro e wY ⟨rfl, bY⟩
        have bwY := bw3.trans (bY.mono bw3.size)
        obtain ⟨hlY, y0, y1, y2, y3, y4⟩ := (HTH3.out).below bY
        cases i2
        · go_wp2_with fail
          refine (HS2'.out _ (HF.out.below bwY) (HP.out.below rfl bwY) (HM.out.below rfl bwY)).mono ?_
          rintro e wZ ⟨⟨k2, q2, r2, rfl, hr2, hk2⟩, bZ⟩
          obtain rfl := since_one hr2 HD2.out
          have bwZ := bwY.trans (bZ.mono bwY.size)
          rcases hk2 with ⟨rfl, rfl⟩ | ⟨j2, rfl, rfl, rfl⟩
          · clear hr2
            go_wp2_with fail
            go_ret
            exact ⟨⟨_, rfl, by have h := HA2.out; simpa [endF, d1F, d2F, HR.out] using h⟩, bwZ⟩
          · clear hr2
            by_cases hlt2 : modified ≤ (j2 : Int)
            · have dl2 : decide (modified ≤ (j2 : Int)) = true := decide_eq_true hlt2
              have E2 := Lib.hid (eq_true hlt2)
              go_wp2_with fail
              go_ret
              exact ⟨⟨_, rfl, by have h := HA2.out; simpa [endF, d1F, d2F, HR.out, E2.out] using h⟩, bwZ⟩
            · have dl2 : decide (modified ≤ (j2 : Int)) = false := decide_eq_false hlt2
              have E2 := Lib.hid (eq_false hlt2)
              go_wp2_with fail
              go_ret
              exact ⟨⟨_, rfl, by have h := HA2.out; simpa [endF, d1F, d2F, HR.out, E2.out] using h⟩, bwZ⟩
        · cases m2
          · skip
            go_wp2_with fail
            go_ret
            exact ⟨⟨_, rfl, by have h := HA2.out; simpa [endF, d1F, d2F, HR.out] using h⟩, bwY⟩
          · skip
            go_wp2_with fail
            go_ret
            exact ⟨⟨_, rfl, by have h := HA2.out; simpa [endF, d1F, d2F, HR.out] using h⟩, bwY⟩
      · clear hr1'
        by_cases hlt1 : (j1 : Int) < modified
        · have dl1 : decide ((j1 : Int) < modified) = true := decide_eq_true hlt1
          have E1 := Lib.hid (eq_true hlt1)
          go_wp2_with fail
          go_ret
          exact ⟨⟨_, rfl, by have h := HA2.out; simpa [endF, d1F, d2F, HR.out, E1.out] using h⟩, bw3⟩
        · have dl1 : decide ((j1 : Int) < modified) = false := decide_eq_false hlt1
          have E1 := Lib.hid (eq_false hlt1)
          go_wp2_with fail
          refine (HT2'.out _ (HF.out.below bw3)).mono ?_
          rintro e wY ⟨rfl, bY⟩
          have bwY := bw3.trans (bY.mono bw3.size)
          obtain ⟨hlY, y0, y1, y2, y3, y4⟩ := (HTH3.out).below bY
          cases i2
          · go_wp2_with fail
            refine (HS2'.out _ (HF.out.below bwY) (HP.out.below rfl bwY) (HM.out.below rfl bwY)).mono ?_
            rintro e wZ ⟨⟨k2, q2, r2, rfl, hr2, hk2⟩, bZ⟩
            obtain rfl := since_one hr2 HD2.out
            have bwZ := bwY.trans (bZ.mono bwY.size)
            rcases hk2 with ⟨rfl, rfl⟩ | ⟨j2, rfl, rfl, rfl⟩
            · clear hr2
              go_wp2_with fail
              go_ret
              exact ⟨⟨_, rfl, by have h := HA2.out; simpa [endF, d1F, d2F, HR.out, E1.out] using h⟩, bwZ⟩
            · clear hr2
              by_cases hlt2 : modified ≤ (j2 : Int)
              · have dl2 : decide (modified ≤ (j2 : Int)) = true := decide_eq_true hlt2
                have E2 := Lib.hid (eq_true hlt2)
                go_wp2_with fail
                go_ret
                exact ⟨⟨_, rfl, by have h := HA2.out; simpa [endF, d1F, d2F, HR.out, E1.out, E2.out] using h⟩, bwZ⟩
              · have dl2 : decide (modified ≤ (j2 : Int)) = false := decide_eq_false hlt2
                have E2 := Lib.hid (eq_false hlt2)
                go_wp2_with fail
                go_ret
                exact ⟨⟨_, rfl, by have h := HA2.out; simpa [endF, d1F, d2F, HR.out, E1.out, E2.out] using h⟩, bwZ⟩
          · cases m2
            · skip
              go_wp2_with fail
              go_ret
              exact ⟨⟨_, rfl, by have h := HA2.out; simpa [endF, d1F, d2F, HR.out, E1.out] using h⟩, bwY⟩
            · skip
              go_wp2_with fail
              go_ret
              exact ⟨⟨_, rfl, by have h := HA2.out; simpa [endF, d1F, d2F, HR.out, E1.out] using h⟩, bwY⟩
    · cases m1
      · skip
        go_wp2_with fail
        go_ret
        exact ⟨⟨_, rfl, by have h := HA2.out; simpa [endF, d1F, d2F, HR.out] using h⟩, bw2⟩
      · go_wp2_with fail
        refine (HT2'.out _ (HF.out.below bw2)).mono ?_
        rintro e wY ⟨rfl, bY⟩
        have bwY := bw2.trans (bY.mono bw2.size)
        obtain ⟨hlY, y0, y1, y2, y3, y4⟩ := (HTH2.out).below bY
        cases i2
        · go_wp2_with fail
          refine (HS2'.out _ (HF.out.below bwY) (HP.out.below rfl bwY) (HM.out.below rfl bwY)).mono ?_
          rintro e wZ ⟨⟨k2, q2, r2, rfl, hr2, hk2⟩, bZ⟩
          obtain rfl := since_one hr2 HD2.out
          have bwZ := bwY.trans (bZ.mono bwY.size)
          rcases hk2 with ⟨rfl, rfl⟩ | ⟨j2, rfl, rfl, rfl⟩
          · clear hr2
            go_wp2_with fail
            go_ret
            exact ⟨⟨_, rfl, by have h := HA2.out; simpa [endF, d1F, d2F, HR.out] using h⟩, bwZ⟩
          · clear hr2
            by_cases hlt2 : modified ≤ (j2 : Int)
            · have dl2 : decide (modified ≤ (j2 : Int)) = true := decide_eq_true hlt2
              have E2 := Lib.hid (eq_true hlt2)
              go_wp2_with fail
              go_ret
              exact ⟨⟨_, rfl, by have h := HA2.out; simpa [endF, d1F, d2F, HR.out, E2.out] using h⟩, bwZ⟩
            · have dl2 : decide (modified ≤ (j2 : Int)) = false := decide_eq_false hlt2
              have E2 := Lib.hid (eq_false hlt2)
              go_wp2_with fail
              go_ret
              exact ⟨⟨_, rfl, by have h := HA2.out; simpa [endF, d1F, d2F, HR.out, E2.out] using h⟩, bwZ⟩
        · cases m2
          · skip
            go_wp2_with fail
            go_ret
            exact ⟨⟨_, rfl, by have h := HA2.out; simpa [endF, d1F, d2F, HR.out] using h⟩, bwY⟩
          · skip
            go_wp2_with fail
            go_ret
            exact ⟨⟨_, rfl, by have h := HA2.out; simpa [endF, d1F, d2F, HR.out] using h⟩, bwY⟩
end Cn
end Go.Proofs.YtiijgbgknolmcaaDoor
