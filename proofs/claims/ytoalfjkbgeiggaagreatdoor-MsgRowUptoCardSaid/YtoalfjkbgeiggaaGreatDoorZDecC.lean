/- body.data, body.trailer: as step says. -/
import Derived.Test.YtoalfjkbgeiggaaGreatDoorZDecB
namespace Go.Proofs.YtoalfjkbgeiggaaGreatDoor
set_option maxRecDepth 20000
open Go.RowKit
open Ck
section
variable {P : Program}
/-- append of a text to bytes of one's own, one operation. -/
theorem wp_append_text {o : Oper} {a : Act} {w : World} {K : Act → World → Prop} {Q : Exit → Act → World → Prop} (x y : Operand) (t u : TypeId)
    (ho : o.op = .call { callee := .builtin .append, args := #[x, y], argTypes := #[t, u] })
    (base : Nat) (e : TypeId) (ht : P.underlying t = some (.slice e)) (hu : P.underlying u = some .string) (hi : ElemInfo P e (.int .u8 0) 1 1)
    (v : Value) (l : List UInt8) (hs : a.eval x = v) (hown : Owns w base e 1 eb v l) (s : ByteArray) (hx : a.eval y = .string s)
    (hb : l.length + s.size ≤ 140737488355328) (hbase : base ≤ w.heap.size)
    (h : ∀ v' w', Owns w' base e 1 eb v' (l ++ sl s) → w.grownBy w' v.ownBlock → K (a.put o.dst v') w') : o.wp P a w K Q := by
  obtain ⟨i, hi0, hz0, hz1, hz2⟩ := info_parts hi
  obtain ⟨v', w', hr, h2, h3, _⟩ := Lib.run_append_own_string (P := P) w base t u o.type e i ht hu hi0 hz0 hz1 hz2 v l.length _ hown s (by simp only [maxLen]; omega) hb hbase
  unfold Oper.wp execOp
  simp only [ho, resolve, invoke, builtin, Sem.run_bind, Sem.run_pure, Result.andThen_ok, List.map_toArray, List.map_cons, List.map_nil, hs, hx, hr]
  refine h v' w' ?_ h3
  unfold Owns
  rw [List.length_append, List.flatMap_append, sl_len, ← strCells_eb]
  exact h2
end
set_option maxHeartbeats 4000000 in
theorem data_any (n0 d k : Nat) (s rest : ByteArray) (body : List UInt8) (w : World) (hd : Dec w n0 d (.data k) rest body false) (hs : s.size ≤ 140737488351232) :
    Calls Tryz.prog 104 #[.pointer (some ⟨d, 0, none⟩), .string s] w fun e w' => StepAns n0 d (.data k) rest body (Ck.step (.data k) body (sl s)) e w' ∧ Below n0 w w' := by
  have HDC := Lib.hid hd
  obtain ⟨left, v, hbk, hown, hnd, hbl, hk⟩ := hd
  obtain ⟨rfl, hbk5⟩ := hk k rfl
  have hnw : n0 ≤ w.heap.size := Nat.le_of_lt (Nat.lt_of_le_of_lt hnd hbk.lt)
  have HBD : Hid (Bad w d false) := ⟨_, _, _, _, hbk⟩
  have HS := Lib.hid (step_data left body (sl s))
  rw [sl_len] at HS
  clear hk
  have c2 := hbk.cell 2
  by_cases hle : s.size ≤ left
  · rw [if_pos hle] at HS
    have hd1 : decide ((s.size : Int) ≤ (left : Int)) = true := decide_eq_true (by omega)
    have hd1' : decide (s.size ≤ left) = true := decide_eq_true hle
    go_enter Tryz.func104, Tryz.ntmps104
    go_wp2_with fail
    go_ret2
    rw [HS.out]
    exact ⟨⟨⟨_, rfl⟩, HDC.out⟩, Below.refl _ _⟩
  · rw [if_neg hle] at HS
    have hd1 : decide ((s.size : Int) ≤ (left : Int)) = false := decide_eq_false (by omega)
    have hd1' : decide (s.size ≤ left) = false := decide_eq_false hle
    have hlt : left < s.size := by omega
    have hle2 : left ≤ s.size := by omega
    obtain ⟨R, hR⟩ : ∃ R, s.extract left s.size = R := ⟨_, rfl⟩
    have HRL : Hid (sl R = (sl s).drop left) := by show _ = _; rw [← hR, hdrop (by omega)]
    rw [← HRL.out] at HS
    have HPX := Lib.hid (fun w' => Tryz.strings_HasPrefix R ⟨#[13, 10]⟩ w')
    rw [show R.data.toList = sl R from rfl, show (⟨#[13, 10]⟩ : ByteArray).data.toList = [13, 10] from rfl] at HPX
    have HRT : Hid (R.toList = sl R) := ba_toList R
    have hrn : sl R ≠ [] := by
      rw [HRL.out]
      intro h
      have := congrArg List.length h
      simp [sl_len] at this
      omega
    match hl : sl R with
    | [] => exact absurd hl hrn
    | [x] =>
      by_cases hx : x = 13
      · subst hx
        have e2 : (R.toList == [13]) = true := by rw [HRT.out, hl]; rfl
        have HR : Hid (Ck.step (.data left) body (sl s) = .short) := by show _ = _; rw [HS.out, hl]; rfl
        clear hl HS hrn
        go_enter Tryz.func104, Tryz.ntmps104
        go_wp2_with fail
        go_ret2
        rw [HR.out]
        exact ⟨⟨⟨_, rfl⟩, HDC.out⟩, Below.refl _ _⟩
      · have e2 : (R.toList == [13]) = false := by rw [HRT.out, hl, beq_eq_false_iff_ne]; intro h; injection h with h; exact hx h
        have HR : Hid (Ck.step (.data left) body (sl s) = .err 3) := by
          show _ = _
          rw [HS.out, hl]
          unfold atEnd
          split
          · rename_i h; cases h
          · rename_i h; injection h with h; exact absurd h hx
          · rename_i h; injection h with h _; exact absurd h hx
          · rfl
        rw [hl, hpre_one] at HPX
        clear hl HS hx hrn
        go_enter Tryz.func104, Tryz.ntmps104
        go_wp2_with (go_at_call 102; refine (HPX.out _).mono ?_; rintro e w' ⟨rfl, rfl⟩)
        go_ret2
        rw [HR.out]
        exact ⟨⟨⟨_, rfl⟩, by decide, by decide, HBD.out⟩, Below.refl _ _⟩
    | x :: y :: r =>
      have e2 : (R.toList == [13]) = false := by rw [HRT.out, hl, beq_eq_false_iff_ne]; intro h; injection h with _ h; cases h
      by_cases hxy : x = 13 ∧ y = 10
      · obtain ⟨rfl, rfl⟩ := hxy
        rw [hl, hpre_ok] at HPX
        rw [hl, atEnd_ok] at HS
        have hT : sl (s.extract 0 left) = (sl s).take left := by rw [sl_extract]; simp
        have hTz : (s.extract 0 left).size = left := by rw [ext_size s 0 left (by omega)]; omega
        have HO := Lib.hid hown
        have HB := Lib.hid hbk
        clear hl hrn c2 hown hbk
        go_enter Tryz.func104, Tryz.ntmps104
        have c2 := HB.out.cell 2
        go_wp2_with (go_at_call 102; refine (HPX.out _).mono ?_; rintro e w' ⟨rfl, hw'⟩; have hw' := hw'.symm; subst hw')
        have c3 := HB.out.cell 3
        refine wp_region_last [(true, 0), (true, 1), (true, 2), (true, 3), (true, 4), (true, 5), (true, 6), (true, 7), (true, 8), (true, 9), (true, 10), (false, 11), (true, 12), (true, 13), (false, 14)] 14 (fun w' => w'.cell? ⟨d, 2, none⟩ = some (.int .i64 (left : Int)) ∧ w'.cell? ⟨d, 3, none⟩ = some v) (by kernel_rfl) (by kernel_rfl) (by kernel_rfl) (fun _ _ _ _ _ h => h) (by kernel_rfl) (by kernel_rfl) ?_ ?_
        · exact ⟨c2, c3⟩
        iterate 11 (first | (apply seqL_skip; (focus (simp only [List.getElem?_toArray, List.getElem?_cons_succ, List.getElem?_cons_zero]; rfl)); (focus rfl); simp only [Act.put, List.setIfInBounds_toArray, List.set_cons_zero, List.set_cons_succ]) | (apply seqL_take; (focus (simp only [List.getElem?_toArray, List.getElem?_cons_succ, List.getElem?_cons_zero]; rfl)); (focus rfl); (focus (intro w' hS; obtain ⟨h1, h2⟩ := hS; first | (go_simp; rfl) | (go_simp; done))); simp only [Act.put, List.setIfInBounds_toArray, List.set_cons_zero, List.set_cons_succ]))
        apply seqL_eff
        (focus (simp only [List.getElem?_toArray, List.getElem?_cons_succ, List.getElem?_cons_zero]; rfl))
        (focus rfl)
        intro K hK
        refine wp_append_text (.tmp 31) (.tmp 37) _ _ rfl n0 5 Tryz.underlying82 Tryz.underlying9 byteInfo v body rfl HO.out.drew (s.extract 0 left) rfl (by rw [hTz]; omega) hnw ?_
        intro v2 W2 hoB hgB
        rw [hT] at hoB
        obtain ⟨nb, hnb⟩ : ∃ nb, nb = body ++ (sl s).take left := ⟨_, rfl⟩
        rw [← hnb] at hoB HS
        have hnl : nb.length ≤ 5000 := by rw [hnb, List.length_append, List.length_take]; omega
        clear hnb
        have hbB := Blk.grown HB.out.drew hgB (by intro e; exact HO.out.drew.ne_blk HB.out.drew (by decide) e.symm)
        have hBB : Below n0 w W2 := (Below.refl n0 w).drew.grown hgB hnw (fun k hk => (HO.out.drew.lt k hk).1)
        refine hK _ _ ⟨fun _ => ⟨hbB.cell 2, hbB.cell 3⟩, ?_⟩
        clear hK K
        obtain ⟨A2, cap2, rfl⟩ := hoB.slice
        iterate 2 (first | (apply seqL_skip; (focus (simp only [List.getElem?_toArray, List.getElem?_cons_succ, List.getElem?_cons_zero]; rfl)); (focus rfl); simp only [Act.put, List.setIfInBounds_toArray, List.set_cons_zero, List.set_cons_succ]) | (apply seqL_take; (focus (simp only [List.getElem?_toArray, List.getElem?_cons_succ, List.getElem?_cons_zero]; rfl)); (focus rfl); (focus (intro w' hS; obtain ⟨h1, h2⟩ := hS; first | (go_simp; rfl) | (go_simp; done))); simp only [Act.put, List.setIfInBounds_toArray, List.set_cons_zero, List.set_cons_succ]))
        have f3 := hbB.frozen 3
        have g3 := hbB.cell 3
        apply seqL_eff
        (focus (simp only [List.getElem?_toArray, List.getElem?_cons_succ, List.getElem?_cons_zero]; rfl))
        (focus rfl)
        intro K hK
        go_simp
        refine hK _ _ ⟨fun h => absurd rfl h, ?_⟩
        clear hK K
        refine seqL_nil ?_
        have hbC := hbB.set_ 3 (.slice A2 nb.length cap2)
        have hoC := hoB.setFar ⟨d, 3, none⟩ (.slice A2 nb.length cap2) (hoB.ne_blk hbB (by decide))
        have hBC := hBB.setCell (p := ⟨d, 3, none⟩) hnd (.slice A2 nb.length cap2)
        clear hbB hoB hBB hgB f3 g3 c2 c3
        generalize W2.setCell ⟨d, 3, none⟩ (.slice A2 nb.length cap2) = W3 at *
        have k0 := hbC.cell 0
        have kz := hbC.frozen 0
        have hbD := hbC.set_ 0 (.func (.func 78) #[] #[])
        have m2 := hbD.cell 2
        have hoD := hoC.setFar ⟨d, 0, none⟩ (.func (.func 78) #[] #[]) (hoC.ne_blk hbC (by decide))
        have hBD := hBC.setCell (p := ⟨d, 0, none⟩) hnd (.func (.func 78) #[] #[])
        go_wp2_with fail
        go_ret2
        rw [HS.out]
        exact ⟨⟨by go_num, left, _, hbD, hoD, hnd, hnl, fun j hj => by cases hj⟩, hBD⟩
      · have HR : Hid (Ck.step (.data left) body (sl s) = .err 3) := by
          show _ = _
          rw [HS.out, hl]
          unfold atEnd
          split
          · rename_i h; cases h
          · rename_i h; injection h with _ h; cases h
          · rename_i h; injection h with h1 h; injection h with h2 _; exact absurd ⟨h1, h2⟩ hxy
          · rfl
        rw [hl, hpre_no hxy] at HPX
        clear hl HS hxy hrn
        go_enter Tryz.func104, Tryz.ntmps104
        go_wp2_with (go_at_call 102; refine (HPX.out _).mono ?_; rintro e w' ⟨rfl, rfl⟩)
        go_ret2
        rw [HR.out]
        exact ⟨⟨⟨_, rfl⟩, by decide, by decide, HBD.out⟩, Below.refl _ _⟩
end Go.Proofs.YtoalfjkbgeiggaaGreatDoor
