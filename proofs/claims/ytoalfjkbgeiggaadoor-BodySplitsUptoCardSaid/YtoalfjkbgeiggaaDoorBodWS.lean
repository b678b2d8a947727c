/- BodyBack, BodyShort: the walks. -/
import Derived.Test.YtoalfjkbgeiggaaDoorDecG
import Derived.Test.YtoalfjkbgeiggaaDoorRest
import Derived.Test.YtoalfjkbgeiggaaDoorFldZ
import Derived.Test.YtoalfjkbgeiggaaDoorBulk
namespace Go.Proofs.YtoalfjkbgeiggaaDoor
set_option maxRecDepth 20000
open Go.RowKit
open Ck
theorem HasMax.n {w : World} (h : HasMax w) : HasMaxN w.heap.size w := h
namespace Ck
theorem dec_x : dec .head [] [120] = .err 3 := by
  rw [dec_eq, step_head, if_pos ⟨by decide, by simp⟩]
theorem dec_nil : dec .head [] [] = .short .head [] [] := by
  rw [dec_eq, step_head, if_neg (by simp)]
  rfl
theorem run_two : ∀ (n : Nat) (st : St) (b s b' r : List UInt8), run n st b s = .done b' r → r.length + 2 ≤ s.length
  | 0, st, b, s, b', r, h => by simp [run] at h
  | n + 1, st, b, s, b', r, h => by
    rw [run] at h
    cases hst : Ck.step st b s with
    | short => rw [hst] at h; cases h
    | err c => rw [hst] at h; cases h
    | go k st2 b2 =>
      rw [hst] at h
      have := run_two n _ _ _ _ _ h
      rw [List.length_drop] at this
      omega
    | fin k =>
      rw [hst] at h
      injection h with h1 h2
      subst h2
      cases st with
      | head => exact absurd hst (fun h => step_nofin (by intro h; cases h) _ _ _ h)
      | data left => exact absurd hst (fun h => step_nofin (by intro h; cases h) _ _ _ h)
      | trailer =>
        rw [step_trailer] at hst
        split at hst
        · split at hst <;> cases hst
        · rename_i l r0 hp
          injection hst with hk
          subst hk
          have := (parse_good _ _ _ _ _ (by omega) hp).2.2
          rw [List.length_drop]
          omega
theorem dec_two {st : St} {b s b' r : List UInt8} (h : dec st b s = .done b' r) : r.length + 2 ≤ s.length := run_two _ _ _ _ _ _ h
/-- Of what is ahead of a body's end nothing is read yet. -/
theorem dec_ahead {s b r : List UInt8} (h : dec .head [] s = .done b r) {k : Nat} (hk : k + r.length < s.length) : ∃ st b' r', dec .head [] (s.take k) = .short st b' r' := by
  have hm := dec_more _ .head [] (s.take k) (s.drop k) (Nat.le_refl _)
  rw [List.take_append_drop] at hm
  cases hd : dec .head [] (s.take k) with
  | short st b' r' => exact ⟨st, b', r', rfl⟩
  | err c => rw [hd] at hm; dsimp only at hm; rw [h] at hm; cases hm
  | done b' r' =>
    rw [hd] at hm
    dsimp only at hm
    rw [h] at hm
    have h1 := hm.1
    injection h1 with _ h1
    have := congrArg List.length h1
    rw [List.length_append, List.length_drop] at this
    omega
end Ck
theorem decodeX_any (w : World) (hm : HasMax w) : Calls Tryd.prog 7 #[.string ⟨#[120]⟩] w fun e w' => e = .returned (.tuple #[.string ByteArray.empty, .int .i64 0, .int .i64 3]) ∧ Below w.heap.size w w' := by
  have h := decodeD_any ⟨#[120]⟩ w (by decide) hm.n
  rw [show sl ⟨#[120]⟩ = [120] from rfl, dec_x] at h
  exact h
theorem mkS_eq (s : ByteArray) : mkS (sl s) = s := mkS_sl s
set_option maxHeartbeats 2000000 in
theorem bodyBack_walk (s : ByteArray) (size : Int) (rest : ByteArray) (w : World) (hs : s.size ≤ 1048576) (hz : (Lit.int .i64 size).wf = true) (hr : rest.size ≤ 1048576) (hm : HasMax w) (ht : HasTz w) :
    Calls Tryd.prog 3 #[.string s, .int .i64 size, .string rest] w fun e w' => e = .returned (.bool true) ∧ Below w.heap.size w w' := by
  have hwd := wide_of hz
  have HMX := Lib.hid hm
  by_cases h1 : size < 1
  · have HE := Lib.hid (encode_small s size w h1)
    clear hm ht hz hwd h1
    go_enter Tryd.func3, Tryd.ntmps3
    go_wp2_with fail
    refine HE.out.mono ?_
    rintro e w1 ⟨rfl, b1⟩
    go_wp2_with fail
    refine (decodeX_any w1 (HMX.out.below b1)).mono ?_
    rintro e w2 ⟨rfl, b2⟩
    go_wp2_with fail
    go_ret
    exact ⟨rfl, belT b1 b2⟩
  · by_cases h5 : 5000 < s.size
    · have HE := Lib.hid (encode_large s size w (by omega) h5)
      clear hm ht hz hwd h1 h5
      go_enter Tryd.func3, Tryd.ntmps3
      go_wp2_with fail
      refine HE.out.mono ?_
      rintro e w1 ⟨rfl, b1⟩
      go_wp2_with fail
      refine (decodeX_any w1 (HMX.out.below b1)).mono ?_
      rintro e w2 ⟨rfl, b2⟩
      go_wp2_with fail
      go_ret
      exact ⟨rfl, belT b1 b2⟩
    · have HE := Lib.hid (encode_any s size w (by omega) hwd.2 (by omega) ht)
      have HD := Lib.hid (dec_enc size.toNat (by omega) (sl rest) s.size (sl s) [] (by rw [sl_len]; exact Nat.le_refl _) (by rw [sl_len]; simp; omega))
      rw [List.nil_append] at HD
      have HL := Lib.hid (encL_len s.size size.toNat (sl s) (by omega) (by rw [sl_len]; omega))
      rw [sl_len] at HL
      generalize encL s.size size.toNat (sl s) = E at *
      obtain ⟨T, hT⟩ : ∃ T, mkS E = T := ⟨_, rfl⟩
      have hTs : Hid (sl T = E) := by show _ = _; rw [← hT, sl_mkS]
      have hTz : T.size ≤ 45005 := by rw [← sl_len, hTs.out]; have := HL.out; omega
      rw [hT] at HE
      rw [← hTs.out] at HD
      have HD2 := Lib.hid (fun w' (hm' : HasMax w') => decodeD_any (T ++ rest) w' (by rw [ByteArray.size_append]; omega) hm'.n)
      rw [sl_append, HD.out] at HD2
      have hbs : ((mkS (sl s)).toList == s.toList) = true := by rw [mkS_sl]; simp
      have hnn : ((T ++ rest).size : Int) - ((sl rest).length : Int) = (T.size : Int) := by rw [ByteArray.size_append, sl_len]; omega
      unfold DecAns at HD2
      dsimp only at HD2
      rw [mkS_sl, hnn] at HD2
      have hz1 : T.size + rest.size ≤ 9223372036854775807 := by omega
      clear hm ht hz hwd h1 h5 hT hbs hnn
      go_enter Tryd.func3, Tryd.ntmps3
      go_wp2_with fail
      refine HE.out.mono ?_
      rintro e w1 ⟨rfl, b1⟩
      go_wp2_with fail
      refine (decodeX_any w1 (HMX.out.below b1)).mono ?_
      rintro e w2 ⟨rfl, b2⟩
      have B2 := belT b1 b2
      go_wp2_with fail
      refine (HD2.out w2 (HMX.out.below B2)).mono ?_
      rintro e w3 ⟨rfl, b3⟩
      go_wp2_with fail
      go_ret
      exact ⟨by simp, belT B2 b3⟩
set_option maxHeartbeats 2000000 in
theorem bodyShort_walk (s : ByteArray) (at_ : Int) (w : World) (hs : s.size ≤ 1048576) (hz : (Lit.int .i64 at_).wf = true) (hm : HasMax w) :
    Calls Tryd.prog 4 #[.string s, .int .i64 at_] w fun e w' => e = .returned (.bool true) ∧ Below w.heap.size w w' := by
  have hwd := Lib.hid (wide_of hz)
  have HMX := Lib.hid hm
  have HD := Lib.hid (decodeD_any s w (by omega) hm.n)
  clear hm hz
  cases hd : dec .head [] (sl s) with
  | short st b r =>
    rw [hd] at HD
    clear hd
    go_enter Tryd.func4, Tryd.ntmps4
    go_wp2_with fail
    refine HD.out.mono ?_
    rintro e w1 ⟨rfl, b1⟩
    go_wp2_with fail
    refine (decodeX_any w1 (HMX.out.below b1)).mono ?_
    rintro e w2 ⟨rfl, b2⟩
    go_wp2_with fail
    go_ret
    exact ⟨rfl, belT b1 b2⟩
  | err c =>
    rw [hd] at HD
    have hc := dec_code hd
    have hne : (c != 0) = true := by rw [bne_iff_ne]; omega
    clear hd
    go_enter Tryd.func4, Tryd.ntmps4
    go_wp2_with fail
    refine HD.out.mono ?_
    rintro e w1 ⟨rfl, b1⟩
    go_wp2_with fail
    refine (decodeX_any w1 (HMX.out.below b1)).mono ?_
    rintro e w2 ⟨rfl, b2⟩
    go_wp2_with fail
    go_ret
    exact ⟨rfl, belT b1 b2⟩
  | done b r =>
    rw [hd] at HD
    have h2 := dec_two hd
    rw [sl_len] at h2
    obtain ⟨n, hn⟩ : ∃ n : Nat, n = s.size - r.length := ⟨_, rfl⟩
    have hnn : (s.size : Int) - (r.length : Int) = (n : Int) := by omega
    have hk0 := Int.emod_nonneg at_ (b := (n : Int)) (by omega)
    have hk1 := Int.emod_lt_of_pos at_ (show (0 : Int) < (n : Int) by omega)
    obtain ⟨k, hk⟩ : ∃ k : Nat, at_ % (n : Int) = (k : Int) := ⟨(at_ % (n : Int)).toNat, by omega⟩
    obtain ⟨st', b', r', hsh⟩ := dec_ahead hd (k := k) (by rw [sl_len]; omega)
    have HS : Hid (dec .head [] (sl (s.extract 0 k)) = .short st' b' r') := by
      show _ = _
      rw [sl_extract, List.drop_zero, Nat.sub_zero]; exact hsh
    have hsz : (s.extract 0 k).size ≤ 1048576 := by rw [ext_size s 0 k (by omega)]; omega
    have HD2 := Lib.hid (fun w' (hm' : HasMax w') => decodeD_any (s.extract 0 k) w' (by omega) hm'.n)
    rw [HS.out] at HD2
    unfold DecAns at HD HD2
    dsimp only at HD HD2
    rw [hnn] at HD
    have hn1 : decide ((n : Int) < 1) = false := decide_eq_false (by omega)
    have hn2 : decide ((s.size : Int) < (n : Int)) = false := decide_eq_false (by omega)
    have hn2' : decide (s.size < n) = false := decide_eq_false (by omega)
    have hR := Lib.hid (fun w' => rest_any at_ n w' hwd.out ⟨by omega, by omega⟩)
    rw [hk] at hR
    have hkn : k ≤ s.size := by omega
    clear hd hk hk0 hk1 hsh hn h2 hnn
    go_enter Tryd.func4, Tryd.ntmps4
    go_wp2_with fail
    refine HD.out.mono ?_
    rintro e w1 ⟨rfl, b1⟩
    go_wp2_with fail
    refine (decodeX_any w1 (HMX.out.below b1)).mono ?_
    rintro e w2 ⟨rfl, b2⟩
    have B2 := belT b1 b2
    go_wp2_with fail
    refine (hR.out _).mono ?_
    rintro e w3 ⟨rfl, rfl⟩
    go_wp2_with fail
    refine (HD2.out _ (HMX.out.below B2)).mono ?_
    rintro e w4 ⟨rfl, b3⟩
    go_wp2_with fail
    go_ret
    exact ⟨rfl, belT B2 b3⟩
end Go.Proofs.YtoalfjkbgeiggaaDoor
/- BodySplits: the walk. Printed by mkbods.py. -/
namespace Go.Proofs.YtoalfjkbgeiggaaDoor
set_option maxRecDepth 20000
open Go.RowKit
section
open Go.ChangeShapes Go.WideShapes Go.Deep Go.Joins
variable {H : Type} {enc : TypeId × Value → H} {P : Program} {w : World} {base : Nat} {spare : Nat → Bool} {held : Bool}
/-- An int as one cell. -/
def e_i (n : Int) : List Value := [.int .i64 n]
theorem ei_map (l : List Int) : l.flatMap e_i = l.map (fun n : Int => Value.int .i64 n) := by induction l <;> simp_all [e_i]
theorem SlR.ints {v : Value} {xs : List Int} (h : SlR w e_i v xs) (hn : 0 < xs.length) :
    ∃ b off c, v = .slice (some ⟨b, off, none⟩) xs.length c ∧ xs.length ≤ c ∧ b < w.heap.size ∧ ∀ j (hj : j < xs.length), w.cell? ⟨b, off + j, none⟩ = some (.int .i64 xs[j]) := by
  obtain ⟨A, c, hv, hc, hx⟩ := h
  obtain ⟨b, off, rfl, hb, hcell⟩ := hx hn
  exact ⟨b, off, c, hv, hc, hb, fun j hj => hcell j _ (by rw [ei_map]; simp [hj])⟩
theorem open_ints {r : Reach} {b0 : Nat} {t e : TypeId} {v : Value} {d : DataW H} {p : List MemPlace} (ht : P.underlying t = some (.slice e)) (he : P.underlying e = some (.int .i64)) (hC : P.cellsOf e = 1)
    (hv : Value.okWide P w r b0 t v) (h : DataW.Trod enc P w base spare held t v d p) (hb : Rows.uptoBulk d ≤ 1048576) : ∃ xs : List Int, SlR w e_i v xs ∧ xs.length ≤ 1048576 ∧ ∀ x ∈ xs, (Lit.int .i64 x).wf = true := by
  obtain ⟨A, len, cap, rfl⟩ := okWide_slice ht hv
  obtain ⟨fuel, hf⟩ := h
  rcases open_slice ht hf with ⟨hcs, _⟩ | ⟨a, len', cap', m, n, D, Pl, hcs, _, hl, hm, hmm, hx, hi⟩
  · simp [Value.cells] at hcs
    obtain ⟨rfl, rfl, rfl⟩ := hcs
    exact ⟨[], SlR.nil _ _, by simp, by simp⟩
  · simp [Value.cells] at hcs
    obtain ⟨rfl, rfl, rfl⟩ := hcs
    have hlm : len ≤ m := by rw [hmm]; split <;> omega
    obtain ⟨xs, hxl, hs, hR⟩ := slr_of (w := w) (en := e_i) (size := 1) (a := a) (len := len) (cap := cap) (fun i x => (Lit.int .i64 x).wf = true ∧ 1 ≤ Rows.uptoBulk (D i)) (fun _ => rfl) hl (by omega) (fun i hi' => by
      obtain ⟨cs', hc, ht'⟩ := hi i (by omega)
      rw [hC] at hc
      obtain ⟨_, hcl, hat⟩ := World.cells?_some hc
      obtain ⟨s, e0, hy, hz⟩ := DataW.trod_int he ht'
      refine ⟨s, fun j u hu => ?_, hz, ?_⟩
      · have hj : j = 0 := by
          rcases Nat.eq_zero_or_pos j with h0 | h0
          · exact h0
          · rw [List.getElem?_eq_none (by simp [e_i]; omega)] at hu; cases hu
        subst hj
        have hu' : u = .int .i64 s := by simpa [e_i] using hu.symm
        subst hu'
        have := hat 0 (by omega)
        rw [e0] at this
        rw [← Go.Deep.add_add, hC] at *
        simpa using this
      · simp only [Prod.mk.injEq] at hy
        rw [hy.1]
        simp [Rows.uptoBulk])
    subst hxl
    refine ⟨xs, hs, ?_, fun x hx' => ?_⟩
    · have h1 := Bulk.sum_le (fun _ => 1) D xs (fun i hi => (hR i hi).2)
      have hxx := congrArg Prod.fst hx
      simp only at hxx
      rw [hxx] at hb
      have h2 := Nat.le_trans h1 (Nat.le_trans (Bulk.slice_le _ _) hb)
      have h3 := sum_len (fun _ : Int => 1) (fun _ => Nat.le_refl _) xs
      exact Nat.le_trans h3 h2
    · obtain ⟨i, hi', rfl⟩ := List.mem_iff_getElem.1 hx'
      exact (hR i (by omega)).1
end
open Ck
namespace Ck
def resT : Res → ByteArray
  | .done b _ => mkS b
  | _ => ByteArray.empty
def resN (n : Nat) : Res → Int
  | .done _ r => (n : Int) - (r.length : Int)
  | _ => 0
def resC : Res → Int
  | .short _ _ _ => 8
  | .err c => c
  | .done _ _ => 0
theorem decAns_eq {n : Nat} {a : Res} {e : Ending} (h : DecAns n a e) : e = .returned (.tuple #[.string (resT a), .int .i64 (resN n a), .int .i64 (resC a)]) := by
  cases a <;> exact h
end Ck
set_option maxHeartbeats 8000000 in
theorem bodySplits_walk (s : ByteArray) (v : Value) (cuts : List Int) (w : World) (hs : s.size ≤ 1048576) (hv : SlR w e_i v cuts) (hl : cuts.length ≤ 1048576) (hwf : ∀ x ∈ cuts, (Lit.int .i64 x).wf = true) (hm : HasMax w) :
    Calls Tryd.prog 5 #[.string s, v] w fun e w' => e = .returned (.bool true) ∧ Below w.heap.size w w' := by
  have HD := Lib.hid (decodeD_any s w (by omega) hm.n)
  have HWF := Lib.hid hwf
  obtain ⟨T, hT⟩ : ∃ T, resT (dec .head [] (sl s)) = T := ⟨_, rfl⟩
  obtain ⟨N, hN⟩ : ∃ N, resN s.size (dec .head [] (sl s)) = N := ⟨_, rfl⟩
  obtain ⟨C, hC⟩ : ∃ C, resC (dec .head [] (sl s)) = C := ⟨_, rfl⟩
  have HV := Lib.hid hv
  obtain ⟨A, c, hv1, hcc, -⟩ := hv
  subst hv1
  have HM0 := Lib.hid hm
  have HT := Lib.hid hT
  have HN := Lib.hid hN
  have HC := Lib.hid hC
  clear hm hwf hT hN hC
  go_enter Tryd.func5, Tryd.ntmps5
  go_wp2_with fail
  refine HD.out.mono ?_
  rintro e w0 ⟨ha, b0⟩
  have ha := decAns_eq ha
  rw [HT.out, HN.out, HC.out] at ha
  subst ha
  go_wp2_with fail
  refine (newD_any w0).mono ?_
  rintro e w1 ⟨rfl, hd1, b01, z1⟩
  have b1 : Below w.heap.size w w1 := belT b0 b01
  have HMX : Hid (HasMaxN w0.heap.size w1) := (HasMax.n (HM0.out.below b0)).below b01
  have hc1 := Dec.c4 hd1
  have HD1 := Lib.hid hd1
  clear hd1 z1 b1 HD
  go_wp2_with fail
  refine (doneD_any _ _ w1 hc1).mono ?_
  rintro e w1' ⟨rfl, hw⟩
  have hw := hw.symm
  subst hw
  go_wp2_with fail
  go_loopw [9, 10] (fun va vi wr => ∃ (al i : Nat) (st : St) (R : ByteArray) (b : List UInt8), va = .int .i64 (al : Int) ∧ vi = .int .i64 (i : Int) ∧ al ≤ s.size ∧ (i ≤ cuts.length ∨ (al = s.size ∧ i ≤ cuts.length + 1)) ∧ Dec wr w0.heap.size w0.heap.size st R b false ∧ Hid (dec .head [] ((sl s).take al) = .short st b (sl R)) ∧ R.size ≤ al ∧ Below w0.heap.size w1 wr) (fun _ vi _ => cuts.length + 1 - (intOf vi).toNat)
  case atStart => exact ⟨0, 0, .head, ByteArray.empty, [], rfl, rfl, Nat.zero_le _, .inl (Nat.zero_le _), HD1.out, dec_nil, Nat.le_refl _, Below.refl _ _⟩
  case round =>
    obtain ⟨al, i, st, R, b, rfl, rfl, hal, hi, hde, HSH, hRal, hbel⟩ := hrel
    have HDE := Lib.hid hde
    clear hde
    by_cases hlt : al < s.size
    · have hi' : i ≤ cuts.length := by omega
      have hws : IntKind.i64.wrap ((s.size : Int) - (al : Int)) = (s.size : Int) - (al : Int) := by rw [IntKind.wrap_i64]; omega
      clear hi
      by_cases hic : i < cuts.length
      · obtain ⟨bb, off, c2, hv2, hc2, hbb, hcell⟩ := HV.out.ints (by omega)
        injection hv2 with g1 g2 g3
        subst g1 g3
        have c0 := ((b0.trans ((b01.trans hbel).mono b0.size)).cell (p := ⟨bb, off + i, none⟩) hbb).trans (hcell i hic)
        have hxw := wide_of (HWF.out cuts[i] (List.getElem_mem hic))
        clear hcell g2
        generalize cuts[i] = x at *
        have hws1 : IntKind.i64.wrap ((s.size : Int) - (al : Int) + 1) = (s.size : Int) - (al : Int) + 1 := by rw [IntKind.wrap_i64]; omega
        have hk0 := Int.emod_nonneg x (b := (s.size : Int) - (al : Int) + 1) (by omega)
        have hk1 := Int.emod_lt_of_pos x (show (0 : Int) < (s.size : Int) - (al : Int) + 1 by omega)
        obtain ⟨q, hq⟩ : ∃ q : Nat, x % ((s.size : Int) - (al : Int) + 1) = (q : Int) := ⟨(x % ((s.size : Int) - (al : Int) + 1)).toNat, by omega⟩
        have hR := Lib.hid (fun w' => rest_any x ((s.size : Int) - (al : Int) + 1) w' hxw ⟨by omega, by omega⟩)
        rw [hq] at hR
        have hqm : al + q ≤ s.size := by omega
        clear hk0 hk1 hq hxw
        go_wp2_with fail
        refine (hR.out _).mono ?_
        rintro e w' ⟨rfl, rfl⟩
        clear hR c0 hws1

        have hT : Hid (sl (s.extract al (al + q)) = ((sl s).drop al).take q) := by show _ = _; rw [sl_extract, Nat.add_sub_cancel_left]
        have hTz : (s.extract al (al + q)).size = q := by rw [ext_size s al (al + q) (by omega)]; omega
        have HTK : Hid ((sl s).take (al + q) = (sl s).take al ++ ((sl s).drop al).take q) := List.take_add
        have HM := Lib.hid (dec_more _ .head [] ((sl s).take al) (((sl s).drop al).take q) (Nat.le_refl _))
        rw [HSH.out, ← HTK.out] at HM
        have HMF := Lib.hid (dec_more _ .head [] ((sl s).take (al + q)) ((sl s).drop (al + q)) (Nat.le_refl _))
        rw [List.take_append_drop] at HMF
        have HW := Lib.hid (writeD_any w0.heap.size w0.heap.size st (s.extract al (al + q)) R b wr HDE.out (by omega) (HMX.out.below hbel))
        have hme := HM.out.1
        rw [← hT.out] at hme
        rw [← hme, hTz] at HW
        have hwa : IntKind.i64.wrap ((al : Int) + (q : Int)) = (al : Int) + (q : Int) := by rw [IntKind.wrap_i64]; omega
        clear hme
        cases hd : dec .head [] ((sl s).take (al + q)) with
        | short st2 b2 r2 =>
          rw [hd] at HW
          have HS2 := Lib.hid hd
          clear hd HM HMF HT HN HC
          go_wp2_with fail
          refine HW.out.mono ?_
          rintro e w2 ⟨⟨rfl, R2, hR2, hd2⟩, b2'⟩
          have hc := Dec.c4 hd2
          have HD2 := Lib.hid hd2
          have HR2 := Lib.hid hR2
          clear hd2 hR2
          go_wp2_with fail
          refine (doneD_any _ _ w2 hc).mono ?_
          rintro e w3 ⟨rfl, hw⟩
          have hw := hw.symm
          subst hw
          go_wp2_with fail
          go_roundw
          case rel => exact ⟨al + q, i + 1, st2, R2, b2, by go_num, by go_num, by omega, by omega, HD2.out, by show _ = _; rw [HR2.out]; exact HS2.out, by rw [← sl_len, HR2.out]; have h1 := dec_more _ .head [] ((sl s).take (al + q)) [] (Nat.le_refl _); rw [HS2.out] at h1; have := h1.2; rw [List.length_take] at this; omega, hbel.trans b2'⟩
          case measure => simp [intOf]; omega
        | err c =>
          rw [hd] at HW HMF
          have hcode := dec_code hd
          have hC : C = c := by rw [← HC.out, HMF.out]; rfl
          subst hC
          have hne : (C != 0) = true := by rw [bne_iff_ne]; omega
          clear hd HM HMF HT HN HC
          go_wp2_with fail
          refine HW.out.mono ?_
          rintro e w2 ⟨⟨rfl, hb2⟩, b2'⟩
          have hc := Bad.c4 hb2
          go_wp2_with fail
          refine (doneD_any _ _ w2 hc).mono ?_
          rintro e w3 ⟨rfl, hw⟩
          have hw := hw.symm
          subst hw
          go_wp2_with fail
          go_ret
          exact ⟨by simp, b0.trans ((b01.trans (hbel.trans b2')).mono b0.size)⟩
        | done b2 r2 =>
          rw [hd] at HW HMF
          have hrl := HMF.out.2
          rw [List.length_take, sl_len] at hrl
          have hC : C = 0 := by rw [← HC.out, HMF.out.1]; rfl
          have hTT : T = mkS b2 := by rw [← HT.out, HMF.out.1]; rfl
          have hNN : N = (al : Int) + ((q : Int) - (r2.length : Int)) := by
            rw [← HN.out, HMF.out.1]
            show (s.size : Int) - ((r2 ++ (sl s).drop (al + q)).length : Int) = _
            rw [List.length_append, List.length_drop, sl_len]
            omega
          subst hC hTT hNN
          have hwr : IntKind.i64.wrap ((al : Int) + ((q : Int) - (r2.length : Int))) = (al : Int) + ((q : Int) - (r2.length : Int)) := by rw [IntKind.wrap_i64]; omega
          clear hd HM HMF HT HN HC
          go_wp2_with fail
          refine HW.out.mono ?_
          rintro e w2 ⟨⟨rfl, R2, st2, hR2, hd2⟩, b2'⟩
          have hc := Dec.c4 hd2
          have HD2 := Lib.hid hd2
          clear hd2 hR2
          go_wp2_with fail
          refine (doneD_any _ _ w2 hc).mono ?_
          rintro e w3 ⟨rfl, hw⟩
          have hw := hw.symm
          subst hw
          go_wp2_with fail
          refine (bodyD_any _ _ _ _ _ _ w2 HD2.out).mono ?_
          rintro e w3 ⟨rfl, hw⟩
          have hw := hw.symm
          subst hw
          go_wp2_with fail
          go_ret
          exact ⟨by simp, b0.trans ((b01.trans (hbel.trans b2')).mono b0.size)⟩
      · obtain ⟨q, hq⟩ : ∃ q : Nat, q = s.size - al := ⟨_, rfl⟩
        have hqm : al + q ≤ s.size := by omega
        have hqe : (s.size : Int) - (al : Int) = (q : Int) := by omega
        rw [hqe] at hws
        clear hq
        have hT : Hid (sl (s.extract al (al + q)) = ((sl s).drop al).take q) := by show _ = _; rw [sl_extract, Nat.add_sub_cancel_left]
        have hTz : (s.extract al (al + q)).size = q := by rw [ext_size s al (al + q) (by omega)]; omega
        have HTK : Hid ((sl s).take (al + q) = (sl s).take al ++ ((sl s).drop al).take q) := List.take_add
        have HM := Lib.hid (dec_more _ .head [] ((sl s).take al) (((sl s).drop al).take q) (Nat.le_refl _))
        rw [HSH.out, ← HTK.out] at HM
        have HMF := Lib.hid (dec_more _ .head [] ((sl s).take (al + q)) ((sl s).drop (al + q)) (Nat.le_refl _))
        rw [List.take_append_drop] at HMF
        have HW := Lib.hid (writeD_any w0.heap.size w0.heap.size st (s.extract al (al + q)) R b wr HDE.out (by omega) (HMX.out.below hbel))
        have hme := HM.out.1
        rw [← hT.out] at hme
        rw [← hme, hTz] at HW
        have hwa : IntKind.i64.wrap ((al : Int) + (q : Int)) = (al : Int) + (q : Int) := by rw [IntKind.wrap_i64]; omega
        clear hme
        cases hd : dec .head [] ((sl s).take (al + q)) with
        | short st2 b2 r2 =>
          rw [hd] at HW
          have HS2 := Lib.hid hd
          clear hd HM HMF HT HN HC
          go_wp2_with fail
          refine HW.out.mono ?_
          rintro e w2 ⟨⟨rfl, R2, hR2, hd2⟩, b2'⟩
          have hc := Dec.c4 hd2
          have HD2 := Lib.hid hd2
          have HR2 := Lib.hid hR2
          clear hd2 hR2
          go_wp2_with fail
          refine (doneD_any _ _ w2 hc).mono ?_
          rintro e w3 ⟨rfl, hw⟩
          have hw := hw.symm
          subst hw
          go_wp2_with fail
          go_roundw
          case rel => exact ⟨al + q, i + 1, st2, R2, b2, by go_num, by go_num, by omega, by omega, HD2.out, by show _ = _; rw [HR2.out]; exact HS2.out, by rw [← sl_len, HR2.out]; have h1 := dec_more _ .head [] ((sl s).take (al + q)) [] (Nat.le_refl _); rw [HS2.out] at h1; have := h1.2; rw [List.length_take] at this; omega, hbel.trans b2'⟩
          case measure => simp [intOf]; omega
        | err c =>
          rw [hd] at HW HMF
          have hcode := dec_code hd
          have hC : C = c := by rw [← HC.out, HMF.out]; rfl
          subst hC
          have hne : (C != 0) = true := by rw [bne_iff_ne]; omega
          clear hd HM HMF HT HN HC
          go_wp2_with fail
          refine HW.out.mono ?_
          rintro e w2 ⟨⟨rfl, hb2⟩, b2'⟩
          have hc := Bad.c4 hb2
          go_wp2_with fail
          refine (doneD_any _ _ w2 hc).mono ?_
          rintro e w3 ⟨rfl, hw⟩
          have hw := hw.symm
          subst hw
          go_wp2_with fail
          go_ret
          exact ⟨by simp, b0.trans ((b01.trans (hbel.trans b2')).mono b0.size)⟩
        | done b2 r2 =>
          rw [hd] at HW HMF
          have hrl := HMF.out.2
          rw [List.length_take, sl_len] at hrl
          have hC : C = 0 := by rw [← HC.out, HMF.out.1]; rfl
          have hTT : T = mkS b2 := by rw [← HT.out, HMF.out.1]; rfl
          have hNN : N = (al : Int) + ((q : Int) - (r2.length : Int)) := by
            rw [← HN.out, HMF.out.1]
            show (s.size : Int) - ((r2 ++ (sl s).drop (al + q)).length : Int) = _
            rw [List.length_append, List.length_drop, sl_len]
            omega
          subst hC hTT hNN
          have hwr : IntKind.i64.wrap ((al : Int) + ((q : Int) - (r2.length : Int))) = (al : Int) + ((q : Int) - (r2.length : Int)) := by rw [IntKind.wrap_i64]; omega
          clear hd HM HMF HT HN HC
          go_wp2_with fail
          refine HW.out.mono ?_
          rintro e w2 ⟨⟨rfl, R2, st2, hR2, hd2⟩, b2'⟩
          have hc := Dec.c4 hd2
          have HD2 := Lib.hid hd2
          clear hd2 hR2
          go_wp2_with fail
          refine (doneD_any _ _ w2 hc).mono ?_
          rintro e w3 ⟨rfl, hw⟩
          have hw := hw.symm
          subst hw
          go_wp2_with fail
          refine (bodyD_any _ _ _ _ _ _ w2 HD2.out).mono ?_
          rintro e w3 ⟨rfl, hw⟩
          have hw := hw.symm
          subst hw
          go_wp2_with fail
          go_ret
          exact ⟨by simp, b0.trans ((b01.trans (hbel.trans b2')).mono b0.size)⟩
    · have hE : al = s.size := by omega
      subst hE
      have HSH2 : Hid (dec .head [] (sl s) = .short st b (sl R)) := by
        have := HSH.out
        rw [List.take_of_length_le (by rw [sl_len]; exact Nat.le_refl _)] at this
        exact this
      have hC : C = 8 := by rw [← HC.out, HSH2.out]; rfl
      have hTT : T = ByteArray.empty := by rw [← HT.out, HSH2.out]; rfl
      have hNN : N = 0 := by rw [← HN.out, HSH2.out]; rfl
      subst hC hTT hNN
      have hc := Dec.c4 HDE.out
      clear HSH HT HN HC hi
      go_wp2_with (first | (go_at_call 10; refine (doneD_any _ _ wr hc).mono ?_; rintro e w3 ⟨rfl, hw⟩; have hw := hw.symm; subst hw) | (go_at_call 12; refine (bodyD_any _ _ _ _ _ _ wr HDE.out).mono ?_; rintro e w3 ⟨rfl, hw⟩; have hw := hw.symm; subst hw))
      go_ret
      exact ⟨by simp, b0.trans ((b01.trans hbel).mono b0.size)⟩
end Go.Proofs.YtoalfjkbgeiggaaDoor
