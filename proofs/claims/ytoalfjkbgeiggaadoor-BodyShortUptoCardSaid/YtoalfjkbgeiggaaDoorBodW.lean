/- BodyBack, BodyShort: the walks. -/
import Derived.Test.YtoalfjkbgeiggaaDoorDecG
import Derived.Test.YtoalfjkbgeiggaaDoorRest
import Derived.Test.YtoalfjkbgeiggaaDoorFldZ
namespace Go.Proofs.YtoalfjkbgeiggaaDoor
set_option maxRecDepth 20000
open Go.RowKit
open Ck
theorem HasMax.n {w : World} (h : HasMax w) : HasMaxN w.heap.size w := h
namespace Ck
theorem dec_x : dec .head [] [120] = .err 3 := by
  rw [dec_eq, step_head, if_pos ⟨by decide, by simp⟩]
theorem dec_nil : dec .head [] [] = .short .head [] [] := by
  rw [dec_eq, step_head, if_neg (by simp)]
  rfl
theorem run_two : ∀ (n : Nat) (st : St) (b s b' r : List UInt8), run n st b s = .done b' r → r.length + 2 ≤ s.length
  | 0, st, b, s, b', r, h => by simp [run] at h
  | n + 1, st, b, s, b', r, h => by
    rw [run] at h
    cases hst : Ck.step st b s with
    | short => rw [hst] at h; cases h
    | err c => rw [hst] at h; cases h
    | go k st2 b2 =>
      rw [hst] at h
      have := run_two n _ _ _ _ _ h
      rw [List.length_drop] at this
      omega
    | fin k =>
      rw [hst] at h
      injection h with h1 h2
      subst h2
      cases st with
      | head => exact absurd hst (fun h => step_nofin (by intro h; cases h) _ _ _ h)
      | data left => exact absurd hst (fun h => step_nofin (by intro h; cases h) _ _ _ h)
      | trailer =>
        rw [step_trailer] at hst
        split at hst
        · split at hst <;> cases hst
        · rename_i l r0 hp
          injection hst with hk
          subst hk
          have := (parse_good _ _ _ _ _ (by omega) hp).2.2
          rw [List.length_drop]
          omega
theorem dec_two {st : St} {b s b' r : List UInt8} (h : dec st b s = .done b' r) : r.length + 2 ≤ s.length := run_two _ _ _ _ _ _ h
/-- Of what is ahead of a body's end nothing is read yet. -/
theorem dec_ahead {s b r : List UInt8} (h : dec .head [] s = .done b r) {k : Nat} (hk : k + r.length < s.length) : ∃ st b' r', dec .head [] (s.take k) = .short st b' r' := by
  have hm := dec_more _ .head [] (s.take k) (s.drop k) (Nat.le_refl _)
  rw [List.take_append_drop] at hm
  cases hd : dec .head [] (s.take k) with
  | short st b' r' => exact ⟨st, b', r', rfl⟩
  | err c => rw [hd] at hm; dsimp only at hm; rw [h] at hm; cases hm
  | done b' r' =>
    rw [hd] at hm
    dsimp only at hm
    rw [h] at hm
    have h1 := hm.1
    injection h1 with _ h1
    have := congrArg List.length h1
    rw [List.length_append, List.length_drop] at this
    omega
end Ck
theorem decodeX_any (w : World) (hm : HasMax w) : Calls Tryd.prog 7 #[.string ⟨#[120]⟩] w fun e w' => e = .returned (.tuple #[.string ByteArray.empty, .int .i64 0, .int .i64 3]) ∧ Below w.heap.size w w' := by
  have h := decodeD_any ⟨#[120]⟩ w (by decide) hm.n
  rw [show sl ⟨#[120]⟩ = [120] from rfl, dec_x] at h
  exact h
theorem mkS_eq (s : ByteArray) : mkS (sl s) = s := mkS_sl s
set_option maxHeartbeats 2000000 in
theorem bodyBack_walk (s : ByteArray) (size : Int) (rest : ByteArray) (w : World) (hs : s.size ≤ 1048576) (hz : (Lit.int .i64 size).wf = true) (hr : rest.size ≤ 1048576) (hm : HasMax w) (ht : HasTz w) :
    Calls Tryd.prog 3 #[.string s, .int .i64 size, .string rest] w fun e w' => e = .returned (.bool true) ∧ Below w.heap.size w w' := by
  have hwd := wide_of hz
  have HMX := Lib.hid hm
  by_cases h1 : size < 1
  · have HE := Lib.hid (encode_small s size w h1)
    clear hm ht hz hwd h1
    go_enter Tryd.func3, Tryd.ntmps3
    go_wp2_with fail
    refine HE.out.mono ?_
    rintro e w1 ⟨rfl, b1⟩
    go_wp2_with fail
    refine (decodeX_any w1 (HMX.out.below b1)).mono ?_
    rintro e w2 ⟨rfl, b2⟩
    go_wp2_with fail
    go_ret
    exact ⟨rfl, belT b1 b2⟩
  · by_cases h5 : 5000 < s.size
    · have HE := Lib.hid (encode_large s size w (by omega) h5)
      clear hm ht hz hwd h1 h5
      go_enter Tryd.func3, Tryd.ntmps3
      go_wp2_with fail
      refine HE.out.mono ?_
      rintro e w1 ⟨rfl, b1⟩
      go_wp2_with fail
      refine (decodeX_any w1 (HMX.out.below b1)).mono ?_
      rintro e w2 ⟨rfl, b2⟩
      go_wp2_with fail
      go_ret
      exact ⟨rfl, belT b1 b2⟩
    · have HE := Lib.hid (encode_any s size w (by omega) hwd.2 (by omega) ht)
      have HD := Lib.hid (dec_enc size.toNat (by omega) (sl rest) s.size (sl s) [] (by rw [sl_len]; exact Nat.le_refl _) (by rw [sl_len]; simp; omega))
      rw [List.nil_append] at HD
      have HL := Lib.hid (encL_len s.size size.toNat (sl s) (by omega) (by rw [sl_len]; omega))
      rw [sl_len] at HL
      generalize encL s.size size.toNat (sl s) = E at *
      obtain ⟨T, hT⟩ : ∃ T, mkS E = T := ⟨_, rfl⟩
      have hTs : Hid (sl T = E) := by show _ = _; rw [← hT, sl_mkS]
      have hTz : T.size ≤ 45005 := by rw [← sl_len, hTs.out]; have := HL.out; omega
      rw [hT] at HE
      rw [← hTs.out] at HD
      have HD2 := Lib.hid (fun w' (hm' : HasMax w') => decodeD_any (T ++ rest) w' (by rw [ByteArray.size_append]; omega) hm'.n)
      rw [sl_append, HD.out] at HD2
      have hbs : ((mkS (sl s)).toList == s.toList) = true := by rw [mkS_sl]; simp
      have hnn : ((T ++ rest).size : Int) - ((sl rest).length : Int) = (T.size : Int) := by rw [ByteArray.size_append, sl_len]; omega
      unfold DecAns at HD2
      dsimp only at HD2
      rw [mkS_sl, hnn] at HD2
      have hz1 : T.size + rest.size ≤ 9223372036854775807 := by omega
      clear hm ht hz hwd h1 h5 hT hbs hnn
      go_enter Tryd.func3, Tryd.ntmps3
      go_wp2_with fail
      refine HE.out.mono ?_
      rintro e w1 ⟨rfl, b1⟩
      go_wp2_with fail
      refine (decodeX_any w1 (HMX.out.below b1)).mono ?_
      rintro e w2 ⟨rfl, b2⟩
      have B2 := belT b1 b2
      go_wp2_with fail
      refine (HD2.out w2 (HMX.out.below B2)).mono ?_
      rintro e w3 ⟨rfl, b3⟩
      go_wp2_with fail
      go_ret
      exact ⟨by simp, belT B2 b3⟩
set_option maxHeartbeats 2000000 in
theorem bodyShort_walk (s : ByteArray) (at_ : Int) (w : World) (hs : s.size ≤ 1048576) (hz : (Lit.int .i64 at_).wf = true) (hm : HasMax w) :
    Calls Tryd.prog 4 #[.string s, .int .i64 at_] w fun e w' => e = .returned (.bool true) ∧ Below w.heap.size w w' := by
  have hwd := Lib.hid (wide_of hz)
  have HMX := Lib.hid hm
  have HD := Lib.hid (decodeD_any s w (by omega) hm.n)
  clear hm hz
  cases hd : dec .head [] (sl s) with
  | short st b r =>
    rw [hd] at HD
    clear hd
    go_enter Tryd.func4, Tryd.ntmps4
    go_wp2_with fail
    refine HD.out.mono ?_
    rintro e w1 ⟨rfl, b1⟩
    go_wp2_with fail
    refine (decodeX_any w1 (HMX.out.below b1)).mono ?_
    rintro e w2 ⟨rfl, b2⟩
    go_wp2_with fail
    go_ret
    exact ⟨rfl, belT b1 b2⟩
  | err c =>
    rw [hd] at HD
    have hc := dec_code hd
    have hne : (c != 0) = true := by rw [bne_iff_ne]; omega
    clear hd
    go_enter Tryd.func4, Tryd.ntmps4
    go_wp2_with fail
    refine HD.out.mono ?_
    rintro e w1 ⟨rfl, b1⟩
    go_wp2_with fail
    refine (decodeX_any w1 (HMX.out.below b1)).mono ?_
    rintro e w2 ⟨rfl, b2⟩
    go_wp2_with fail
    go_ret
    exact ⟨rfl, belT b1 b2⟩
  | done b r =>
    rw [hd] at HD
    have h2 := dec_two hd
    rw [sl_len] at h2
    obtain ⟨n, hn⟩ : ∃ n : Nat, n = s.size - r.length := ⟨_, rfl⟩
    have hnn : (s.size : Int) - (r.length : Int) = (n : Int) := by omega
    have hk0 := Int.emod_nonneg at_ (b := (n : Int)) (by omega)
    have hk1 := Int.emod_lt_of_pos at_ (show (0 : Int) < (n : Int) by omega)
    obtain ⟨k, hk⟩ : ∃ k : Nat, at_ % (n : Int) = (k : Int) := ⟨(at_ % (n : Int)).toNat, by omega⟩
    obtain ⟨st', b', r', hsh⟩ := dec_ahead hd (k := k) (by rw [sl_len]; omega)
    have HS : Hid (dec .head [] (sl (s.extract 0 k)) = .short st' b' r') := by
      show _ = _
      rw [sl_extract, List.drop_zero, Nat.sub_zero]; exact hsh
    have hsz : (s.extract 0 k).size ≤ 1048576 := by rw [ext_size s 0 k (by omega)]; omega
    have HD2 := Lib.hid (fun w' (hm' : HasMax w') => decodeD_any (s.extract 0 k) w' (by omega) hm'.n)
    rw [HS.out] at HD2
    unfold DecAns at HD HD2
    dsimp only at HD HD2
    rw [hnn] at HD
    have hn1 : decide ((n : Int) < 1) = false := decide_eq_false (by omega)
    have hn2 : decide ((s.size : Int) < (n : Int)) = false := decide_eq_false (by omega)
    have hn2' : decide (s.size < n) = false := decide_eq_false (by omega)
    have hR := Lib.hid (fun w' => rest_any at_ n w' hwd.out ⟨by omega, by omega⟩)
    rw [hk] at hR
    have hkn : k ≤ s.size := by omega
    clear hd hk hk0 hk1 hsh hn h2 hnn
    go_enter Tryd.func4, Tryd.ntmps4
    go_wp2_with fail
    refine HD.out.mono ?_
    rintro e w1 ⟨rfl, b1⟩
    go_wp2_with fail
    refine (decodeX_any w1 (HMX.out.below b1)).mono ?_
    rintro e w2 ⟨rfl, b2⟩
    have B2 := belT b1 b2
    go_wp2_with fail
    refine (hR.out _).mono ?_
    rintro e w3 ⟨rfl, rfl⟩
    go_wp2_with fail
    refine (HD2.out _ (HMX.out.below B2)).mono ?_
    rintro e w4 ⟨rfl, b3⟩
    go_wp2_with fail
    go_ret
    exact ⟨rfl, belT B2 b3⟩
end Go.Proofs.YtoalfjkbgeiggaaDoor
