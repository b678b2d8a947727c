/- What Unquote computes. -/
import Derived.Test.YtiijgbgknolmcaaDoorTokA
namespace Go.Proofs.YtiijgbgknolmcaaDoor
set_option maxRecDepth 20000
open Go.RowKit
namespace Tok
def unq : List UInt8 → Option (List UInt8)
  | [] => some []
  | c :: r => if c == 92 then (match r with | [] => none | d :: r' => if plainB d then (unq r').map (d :: ·) else none)
    else if c == 34 then none else if plainB c then (unq r).map (c :: ·) else none
def unquoteL (l : List UInt8) : Option (List UInt8) := if l.length < 2 || l[0]? != some 34 || l[l.length - 1]? != some 34 then none else unq ((l.drop 1).take (l.length - 2))
end Tok
/-- What Unquote answers. -/
def UnqEnd (l : List UInt8) (e : Ending) : Prop :=
  (Tok.unquoteL l = none ∧ e = .returned (.tuple #[.string ByteArray.empty, .int .i64 3])) ∨
  ∃ b, Tok.unquoteL l = some b ∧ ((1000 < b.length ∧ e = .returned (.tuple #[.string ByteArray.empty, .int .i64 2])) ∨ (b.length ≤ 1000 ∧ e = .returned (.tuple #[.string (mkS b), .int .i64 0])))
theorem unq_plain (c : UInt8) (l : List UInt8) (h1 : (c == 92) = false) (h2 : (c == 34) = false) (h3 : Tok.plainB c = true) : Tok.unq (c :: l) = (Tok.unq l).map (c :: ·) := by
  rw [Tok.unq.eq_def]; simp [h1, h2, h3]
theorem unq_bad (c : UInt8) (l : List UInt8) (h1 : (c == 92) = false) (h : (c == 34) = true ∨ Tok.plainB c = false) : Tok.unq (c :: l) = none := by
  rw [Tok.unq.eq_def]; simp only [h1, Bool.false_eq_true, if_false]
  rcases h with h | h <;> simp [h]
theorem unq_esc (c d : UInt8) (l : List UInt8) (h1 : (c == 92) = true) : Tok.unq (c :: d :: l) = if Tok.plainB d then (Tok.unq l).map (d :: ·) else none := by
  rw [Tok.unq.eq_def]; simp only [h1, if_true]
theorem unq_esc_end (c : UInt8) (h1 : (c == 92) = true) : Tok.unq [c] = none := by
  rw [Tok.unq.eq_def]; simp only [h1, if_true]
theorem map_snoc {o : Option (List UInt8)} {acc : List UInt8} {d : UInt8} : (o.map (d :: ·)).map (acc ++ ·) = o.map ((acc ++ [d]) ++ ·) := by
  cases o <;> simp
set_option maxHeartbeats 800000 in
theorem unquote_walk (s : ByteArray) (w : World) (hs : s.size ≤ 140737488351232) :
    Calls Tryd.prog 73 #[.string s] w fun e w' => UnqEnd (sl s) e ∧ Below w.heap.size w w' := by
  by_cases h2 : s.size < 2
  · go_enter Tryd.func73, Tryd.ntmps73
    go_wp2_with fail
    go_ret2
    exact ⟨.inl ⟨by unfold Tok.unquoteL; rw [sl_len]; simp [h2], rfl⟩, Below.refl _ _⟩
  · have g0 := Lib.hid (sl_getElem? s 0 (by omega))
    have g1 := Lib.hid (sl_getElem? s (s.size - 1) (by omega))
    by_cases c0 : ((s[0].toNat : Int) != 34) = true
    · go_enter Tryd.func73, Tryd.ntmps73
      go_wp2_with fail
      go_ret2
      refine ⟨.inl ⟨?_, rfl⟩, Below.refl _ _⟩
      have : s[0] ≠ 34 := by intro h; rw [h] at c0; simp at c0
      unfold Tok.unquoteL; rw [g0.out]; simp [this]
    · have c0' : ((s[0].toNat : Int) != 34) = false := by simpa using c0
      by_cases c1 : ((s[s.size - 1].toNat : Int) != 34) = true
      · clear c0
        go_enter Tryd.func73, Tryd.ntmps73
        go_wp2_with fail
        go_ret2
        refine ⟨.inl ⟨?_, rfl⟩, Below.refl _ _⟩
        have : s[s.size - 1] ≠ 34 := by intro h; rw [h] at c1; simp at c1
        unfold Tok.unquoteL; rw [sl_len, g1.out]; simp [this]
      · have c1' : ((s[s.size - 1].toNat : Int) != 34) = false := by simpa using c1
        have HU : Hid (Tok.unquoteL (sl s) = Tok.unq (((sl s).drop 1).take (s.size - 2))) := by
          show _ = _
          have e0 : s[0] = 34 := by rw [u8_eq]; simpa using c0
          have e1 : s[s.size - 1] = 34 := by rw [u8_eq]; simpa using c1
          unfold Tok.unquoteL; rw [sl_len, g0.out, g1.out, e0, e1]; simp; intro; omega
        clear c0 c1 g0 g1
        go_enter Tryd.func73, Tryd.ntmps73
        go_wp2_with fail
        go_loopw [0, 4] (fun t v wr => ∃ (r : ByteArray) (acc : List UInt8), t = .string r ∧ Owns wr w.heap.size 5 1 eb v acc ∧ acc.length + r.size ≤ s.size ∧ Tok.unquoteL (sl s) = (Tok.unq (sl r)).map (acc ++ ·) ∧ Below w.heap.size w wr) (fun t _ _ => strLen t)
        case atStart =>
          refine ⟨_, [], rfl, Owns.nil _ _ _ _ _, ?_, ?_, Below.refl _ _⟩
          · rw [ext_size _ _ _ (by omega)]; simp; omega
          · rw [sl_extract, HU.out, show s.size - 1 - 1 = s.size - 2 from by omega]; simp
        case round =>
          obtain ⟨r, acc, rfl, hown, hlen, heq, hbel⟩ := hrel
          have HQ := Lib.hid heq
          clear heq
          by_cases hr : r.size = 0
          · obtain rfl := empty_of_size r hr
            have hE : (!ByteArray.empty.toList.isEmpty) = false := by rw [ba_toList]; rfl
            have HF : Hid (Tok.unquoteL (sl s) = some acc) := by
              show _ = _
              rw [HQ.out, sl_empty]; simp [Tok.unq]
            have hrs := Lib.hid (fun (x : World) (h : Owns x w.heap.size 5 1 eb u4 acc) => run_string_own (dst := 9) Tryd.underlying105 Tryd.underlying5 Tryd.underlying9 (by rw [← eb_map]; exact h))
            have hrs' := hrs.out wr hown
            rcases hown.form with ⟨hv, ha⟩ | ⟨g, cap, hv⟩
            · subst hv ha
              go_wp2_with fail
              go_ret2
              exact ⟨.inr ⟨_, HF.out, .inr ⟨by simp, rfl⟩⟩, hbel⟩
            · subst hv
              by_cases h1000 : 1000 < acc.length
              · go_wp2_with fail
                go_ret2
                exact ⟨.inr ⟨_, HF.out, .inl ⟨h1000, rfl⟩⟩, hbel⟩
              · go_wp2_with fail
                go_ret2
                exact ⟨.inr ⟨_, HF.out, .inr ⟨by omega, rfl⟩⟩, hbel⟩
          · have hr0 : 0 < r.size := by omega
            have hE : (!r.toList.isEmpty) = true := by rw [isEmpty_no r hr0]; rfl
            have HC := Lib.hid (sl_cons r hr0)
            cases c92 : ((r[0].toNat : Int) == 92)
            · have k92 : Hid ((r[0] == 92) = false) := (u8_beq r[0] 92).symm.trans c92
              cases c34 : ((r[0].toNat : Int) == 34)
              · have k34 : Hid ((r[0] == 34) = false) := (u8_beq r[0] 34).symm.trans c34
                cases hp : Tok.plainB r[0]
                · go_wp2_with (go_at_call 86; refine (isPlain_any _ _).mono ?_; rintro e w' ⟨rfl, rfl⟩)
                  go_ret2
                  exact ⟨.inl ⟨by rw [HQ.out, HC.out, unq_bad _ _ k92.out (.inr hp)]; rfl, rfl⟩, hbel⟩
                · go_wp2_with (first | (go_at_call 86; refine (isPlain_any _ _).mono ?_; rintro e w' ⟨rfl, rfl⟩) | (at_builtin; go_must (refine wpList_append_owns rfl (.tmp 52) (.tmp 55) _ rfl w.heap.size 5 (.int .u8 0) 1 1 eb Tryd.underlying105 byteInfo rfl (by decide) _ _ rfl (hown.alloc _) ⟨wr.heap.size, 0, none⟩ 1 1 [r[0]] rfl rfl rfl (new_cells _ [bv r[0]] _) (eb_one [r[0]]) (by simp only [maxLen]; omega) (by omega) (bel_size hbel (Nat.le_refl _) _) ?_); intro v1 w1 hown1 hg1))
                  go_roundw
                  case rel => exact ⟨_, acc ++ [r[0]], rfl, hown1, by rw [ext_size _ _ _ (Nat.le_refl _)]; simp; omega, by rw [HQ.out, HC.out, unq_plain _ _ k92.out k34.out hp, map_snoc], bel_append hbel (Nat.le_refl _) hown hg1⟩
                  case measure => simp only [strLen]; rw [ext_size _ _ _ (Nat.le_refl _)]; omega
              · have k34 : Hid ((r[0] == 34) = true) := (u8_beq r[0] 34).symm.trans c34
                go_wp2_with fail
                go_ret2
                exact ⟨.inl ⟨by rw [HQ.out, HC.out, unq_bad _ _ k92.out (.inl k34.out)]; rfl, rfl⟩, hbel⟩
            · have k92 : Hid ((r[0] == 92) = true) := (u8_beq r[0] 92).symm.trans c92
              by_cases h1 : 1 < r.size
              · have hx : 0 < (r.extract 1 r.size).size := by rw [ext_size _ _ _ (Nat.le_refl _)]; omega
                have HD := Lib.hid (sl_cons (r.extract 1 r.size) hx)
                have hz : (r.extract 1 r.size).size = r.size - 1 := ext_size _ _ _ (Nat.le_refl _)
                have HZ := Lib.hid hz
                have HX : Hid ((r.extract 1 r.size).extract 1 (r.size - 1) = (r.extract 1 r.size).extract 1 (r.extract 1 r.size).size) := by show _ = _; rw [hz]
                clear hz
                cases hp : Tok.plainB (r.extract 1 r.size)[0]
                · go_wp2_with (go_at_call 86; refine (isPlain_any _ _).mono ?_; rintro e w' ⟨rfl, rfl⟩)
                  go_ret2
                  exact ⟨.inl ⟨by rw [HQ.out, HC.out, HD.out, unq_esc _ _ _ k92.out, hp]; rfl, rfl⟩, hbel⟩
                · go_wp2_with (first | (go_at_call 86; refine (isPlain_any _ _).mono ?_; rintro e w' ⟨rfl, rfl⟩) | (at_builtin; go_must (refine wpList_append_owns rfl (.tmp 52) (.tmp 55) _ rfl w.heap.size 5 (.int .u8 0) 1 1 eb Tryd.underlying105 byteInfo rfl (by decide) _ _ rfl (hown.alloc _) ⟨wr.heap.size, 0, none⟩ 1 1 [(r.extract 1 r.size)[0]] rfl rfl rfl (new_cells _ [bv (r.extract 1 r.size)[0]] _) (eb_one [(r.extract 1 r.size)[0]]) (by simp only [maxLen]; omega) (by omega) (bel_size hbel (Nat.le_refl _) _) ?_); intro v1 w1 hown1 hg1))
                  go_roundw
                  case rel => exact ⟨_, acc ++ [(r.extract 1 r.size)[0]], rfl, hown1, by rw [HX.out, ext_size _ _ _ (Nat.le_refl _), HZ.out]; simp; omega, by rw [HX.out, HQ.out, HC.out, HD.out, unq_esc _ _ _ k92.out, hp, if_pos rfl, map_snoc], bel_append hbel (Nat.le_refl _) hown hg1⟩
                  case measure => simp only [strLen]; rw [HX.out, ext_size _ _ _ (Nat.le_refl _), HZ.out]; omega
              · have HN : Hid (sl (r.extract 1 r.size) = []) := by
                  show _ = _
                  exact List.eq_nil_of_length_eq_zero (by rw [sl_len, ext_size _ _ _ (Nat.le_refl _)]; omega)
                go_wp2_with fail
                all_goals
                  go_ret2
                  exact ⟨.inl ⟨by rw [HQ.out, HC.out, HN.out, unq_esc_end _ k92.out]; rfl, rfl⟩, hbel⟩
end Go.Proofs.YtiijgbgknolmcaaDoor
