/- control's Print. -/
import Derived.Test.YtpoaffhhkmochaaCtlC
import Derived.Test.YtpoaffhhkmochaaRows3
import Derived.Test.YtpoaffhhkmochaaJoin
namespace Go.Proofs.Ytpoaffhhkmochaa
set_option maxRecDepth 20000
open Go.RowKit
def commaS : ByteArray := ⟨#[44, 32]⟩
def PrintAns (l : List Dr) (e : Ending) : Prop :=
  (∃ ts : List ByteArray, l.map textD = ts.map some ∧ ts.length ≤ 20 ∧ (joinS ts commaS).size ≤ 1000 ∧ e = .returned (.tuple #[.string (joinS ts commaS), .int .i64 0])) ∨
  (∃ c : Int, 1 ≤ c ∧ c ≤ 3 ∧ e = .returned (.tuple #[.string ByteArray.empty, .int .i64 c]) ∧ ∀ ts : List ByteArray, l.map textD = ts.map some → c = 2)
set_option maxHeartbeats 3200000 in
theorem print_any (v : Value) (l : List Dr) (w : World) (h : SlR w e_sbs v l) (hl : l.length * 16 ≤ 140737488351232) (hz : ∀ d ∈ l, d.1.size ≤ 140737488351232 ∧ d.2.2.size ≤ 140737488351232)
    (hj : ∀ ts : List ByteArray, l.map textD = ts.map some → (joinL ts commaS).length ≤ 140737488351232) :
    Calls Try.prog 21 #[v] w fun e w' => PrintAns l e ∧ Below w.heap.size w w' := by
  have H3 := Lib.hid (fun hn => h.three (fun _ => rfl) hn)
  have HJ := Lib.hid hj
  clear hj
  unfold PrintAns
  obtain ⟨A, c, rfl, hc, -⟩ := h
  go_enter Try.func21, Try.ntmps21
  go_wp2_with fail
  go_loopw [4, 12] (fun o i wr => ∃ (k : Nat) (ts : List ByteArray), k ≤ l.length ∧ i = .int .i64 k ∧ (l.take k).map textD = ts.map some ∧ Owns wr w.heap.size 9 1 es o ts ∧ Below w.heap.size w wr) (fun _ i _ => l.length - (intOf i).toNat)
  case atStart => exact ⟨0, [], by omega, rfl, rfl, Owns.nil _ _ _ _ _, Below.refl _ _⟩
  case round =>
    obtain ⟨k, ts, hk, rfl, hts, hown, hbel⟩ := hrel
    have htl : ts.length = k := by have := congrArg List.length hts; simp at this; omega
    have HTS := Lib.hid hts
    clear hts
    have HO := Lib.hid hown
    obtain ⟨A2, c2, hv⟩ := hown.slice
    subst hv
    clear hown
    by_cases hlt : k < l.length
    · obtain ⟨b, off, c', he, hbb, hcell⟩ := H3.out (by omega)
      obtain ⟨rfl, rfl⟩ : A = some ⟨b, off, none⟩ ∧ c = c' := by injection he with h1 h2 h3; exact ⟨h1, h3⟩
      obtain ⟨q0, q1, q2⟩ := hcell k hlt (.string l[k].1) (.bool l[k].2.1) (.string l[k].2.2) rfl rfl rfl
      have c0 := (hbel.cell (p := ⟨b, off + k * 3, none⟩) hbb).trans q0
      have c1 := (hbel.cell (p := ⟨b, off + k * 3 + 1, none⟩) hbb).trans q1
      have c2' := (hbel.cell (p := ⟨b, off + k * 3 + 2, none⟩) hbb).trans q2
      have hT : Hid ((l.take (k + 1)).map textD = ts.map some ++ [textD l[k]]) := by show _ = _; rw [List.take_add_one, List.getElem?_eq_getElem hlt, List.map_append, HTS.out]; rfl
      have hN : Hid (textD l[k] = none → ∀ xs : List ByteArray, l.map textD = xs.map some → False) := by
        intro h xs hx
        have h1 := congrArg (fun z => z[k]?) hx
        simp only [List.getElem?_map, List.getElem?_eq_getElem hlt, Option.map_some, h] at h1
        cases hxk : xs[k]? <;> rw [hxk] at h1 <;> simp at h1
      have hzz := hz l[k] (List.getElem_mem hlt)
      clear hcell q0 q1 q2 he
      generalize l[k] = d at *
      obtain ⟨n, hh, a⟩ := d
      have hA := Lib.hid (fun w => text_any (n, hh, a) w hzz.1 hzz.2)
      clear hzz
      subst htl
      go_wp2_with fail
      refine (hA.out _).mono ?_
      rintro e w2 ⟨ha, b2⟩
      have hb12 : Below w.heap.size w w2 := (hbel.alloc hbel.size _).trans (b2.mono (by simp; have := hbel.size; omega))
      have HO2 := Lib.hid ((HO.out.alloc (.cells #[.string n, .bool hh, .string a] 37)).below b2)
      clear b2
      rcases ha with ⟨s, h1, rfl⟩ | ⟨h1, cc, hc1, hc2, rfl⟩
      · have HS : Hid ((l.take (ts.length + 1)).map textD = (ts ++ [s]).map some) := by show _ = _; rw [hT.out, h1]; simp
        clear h1
        go_wp2_with (at_builtin; go_must (refine wpList_append_owns rfl (.tmp 24) (.tmp 26) _ rfl w.heap.size 9 (.string ByteArray.empty) 1 16 es Try.underlying68 stringInfo rfl (by decide) _ ts rfl (HO2.out.alloc _) ⟨w2.heap.size, 0, none⟩ 1 1 [s] rfl rfl rfl (new_cells _ [.string s] _) (es_one [s]) (by simp only [maxLen]; omega) (by omega) (bel_size hb12 (Nat.le_refl _) _) ?_); intro v3 w3 hown3 hg3)
        go_roundw
        case rel => exact ⟨ts.length + 1, ts ++ [s], by omega, by go_num, HS.out, hown3, (hb12.alloc hb12.size _).grown hg3 (bel_size hb12 (Nat.le_refl _) _) (fun k hk => (HO2.out.lt k hk).1)⟩
        case measure => simp [intOf]; omega
      · have HF := Lib.hid (hN.out h1)
        clear h1
        go_wp2_with fail
        go_ret2
        exact ⟨.inr ⟨cc, hc1, hc2, rfl, fun xs hx => (HF.out xs hx).elim⟩, hb12⟩
    · subst htl
      have hE : l.take ts.length = l := List.take_of_length_le (by omega)
      have hTS : Hid (l.map textD = ts.map some) := by have := HTS.out; rw [hE] at this; exact this
      have hjl := HJ.out ts hTS.out
      have HSL := Lib.hid (SlR.of_owns HO.out)
      have hsz : (joinS ts commaS).size = (joinL ts commaS).length := mkS_size _
      rw [← hsz] at hjl
      clear hsz hE
      obtain ⟨js, hjs⟩ : ∃ js, Hid (joinS ts commaS = js) := ⟨_, rfl⟩
      have HJO : Hid (∀ w', SlR w' es (.slice A2 ts.length c2) ts → Calls Try.prog 37 #[.slice A2 ts.length c2, .string ⟨#[44, 32]⟩] w' fun e w'' => e = .returned (.string js) ∧ Below w'.heap.size w' w'') := by
        intro w' hs
        have := join_any (.slice A2 ts.length c2) ts commaS w' hs (by omega) (HJ.out ts hTS.out)
        rw [hjs.out] at this
        exact this
      rw [hjs.out] at hjl
      by_cases h20 : 20 < ts.length
      · have dl : decide (20 < ts.length) = true := decide_eq_true h20
        go_wp2_with fail
        refine (HJO.out _ HSL.out).mono ?_
        rintro e w2 ⟨rfl, b2⟩
        go_wp2_with fail
        go_ret2
        exact ⟨.inr ⟨2, by omega, by omega, rfl, fun _ _ => rfl⟩, hbel.trans (b2.mono hbel.size)⟩
      · have dl : decide (20 < ts.length) = false := decide_eq_false h20
        by_cases h1k : 1000 < js.size
        · have dk : decide (1000 < js.size) = true := decide_eq_true h1k
          go_wp2_with fail
          refine (HJO.out _ HSL.out).mono ?_
          rintro e w2 ⟨rfl, b2⟩
          go_wp2_with fail
          go_ret2
          exact ⟨.inr ⟨2, by omega, by omega, rfl, fun _ _ => rfl⟩, hbel.trans (b2.mono hbel.size)⟩
        · have dk : decide (1000 < js.size) = false := decide_eq_false h1k
          go_wp2_with fail
          refine (HJO.out _ HSL.out).mono ?_
          rintro e w2 ⟨rfl, b2⟩
          go_wp2_with fail
          go_ret2
          exact ⟨.inl ⟨ts, hTS.out, by omega, by rw [hjs.out]; omega, by rw [hjs.out]; rfl⟩, hbel.trans (b2.mono hbel.size)⟩
end Go.Proofs.Ytpoaffhhkmochaa
