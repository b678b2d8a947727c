/- msg: (*frame).read, ReadRequest. -/
import Derived.Test.YtoalfjkbgeiggaaGreatDoorZMsgQ
import Derived.Test.YtoalfjkbgeiggaaGreatDoorZDecG
import Derived.Test.YtoalfjkbgeiggaaGreatDoorZLineR
import Derived.Test.YtoalfjkbgeiggaaGreatDoorZFldZ
namespace Go.Proofs.YtoalfjkbgeiggaaGreatDoor
set_option maxRecDepth 20000
open Go.RowKit
open Ck Ms Bd Ln
theorem HasMax.n {w : World} (h : HasMax w) : HasMaxN w.heap.size w := h
namespace Ck
theorem run_two : ∀ (n : Nat) (st : St) (b s b' r : List UInt8), run n st b s = .done b' r → r.length + 2 ≤ s.length
  | 0, st, b, s, b', r, h => by simp [run] at h
  | n + 1, st, b, s, b', r, h => by
    rw [run] at h
    cases hst : Ck.step st b s with
    | short => rw [hst] at h; cases h
    | err c => rw [hst] at h; cases h
    | go k st2 b2 =>
      rw [hst] at h
      have := run_two n _ _ _ _ _ h
      rw [List.length_drop] at this
      omega
    | fin k =>
      rw [hst] at h
      injection h with h1 h2
      subst h2
      cases st with
      | head => exact absurd hst (fun h => step_nofin (by intro h; cases h) _ _ _ h)
      | data left => exact absurd hst (fun h => step_nofin (by intro h; cases h) _ _ _ h)
      | trailer =>
        rw [step_trailer] at hst
        split at hst
        · split at hst <;> cases hst
        · rename_i l r0 hp
          injection hst with hk
          subst hk
          have := (parse_good _ _ _ _ _ (by omega) hp).2.2
          rw [List.length_drop]
          omega
theorem dec_two {st : St} {b s b' r : List UInt8} (h : dec st b s = .done b' r) : r.length + 2 ≤ s.length := run_two _ _ _ _ _ _ h
end Ck
namespace Ms
theorem cutL2_eq : ∀ {s a r : List UInt8}, cutL2 s = some (a, r) → s = a ++ 13 :: 10 :: r
  | [], _, _, h => by simp [cutL2] at h
  | [_], _, _, h => by simp [cutL2] at h
  | x :: y :: l, a, r, h => by
    unfold cutL2 at h
    split at h
    · rename_i hc
      injection h with h; injection h with h1 h2; subst h1; subst h2
      rw [hc.1, hc.2]; rfl
    · obtain ⟨⟨p, q⟩, hp, he⟩ := Option.map_eq_some_iff.1 h
      injection he with h1 h2; subst h1; subst h2
      rw [List.cons_append, ← cutL2_eq hp]
theorem parseF_suffix : ∀ (n k : Nat) {s r : List UInt8} {l : List Fp}, parseF n k s = .ok (l, r) → ∃ p, s = p ++ r
  | 0, k, s, r, l, h => by simp [parseF] at h
  | n + 1, k, s, r, l, h => by
    unfold parseF at h
    split at h
    · cases h
    · rename_i line r' hc
      have he := cutL2_eq hc
      split at h
      · injection h with h; injection h with _ h; subst h
        exact ⟨line ++ [13, 10], by rw [he]; simp⟩
      · split at h
        · cases h
        · split at h
          · cases h
          · split at h
            · cases h
            · rename_i l' r'' hp
              injection h with h; injection h with _ h; subst h
              obtain ⟨p, hp'⟩ := parseF_suffix n _ hp
              exact ⟨line ++ 13 :: 10 :: p, by rw [he, hp']; simp⟩
theorem parseA_drop {s r : List UInt8} {l : List Fp} (h : parseA s = .ok (l, r)) : s.drop (s.length - r.length) = r := by
  obtain ⟨p, hp⟩ := parseF_suffix _ _ h
  rw [hp, List.length_append, Nat.add_sub_cancel, List.drop_left' rfl]
theorem good_wt : ∀ (l : List Fp), (∀ f ∈ l, GoodF f) → wt l ≤ 1032 * l.length
  | [], _ => by simp [wt]
  | f :: l, h => by
    have h1 := h f (by simp)
    have h2 := good_wt l (fun x hx => h x (by simp [hx]))
    have a := h1.n30
    have b := h1.v1000
    unfold wt at h2 ⊢
    simp only [List.map_cons, List.sum_cons, List.length_cons]
    omega
theorem ret_sii {a b : ByteArray} {c d e f : Int} (h : a = b) (g : c = d) (k : e = f) : Ending.returned (.tuple #[.string a, .int .i64 c, .int .i64 e]) = .returned (.tuple #[.string b, .int .i64 d, .int .i64 f]) := by rw [h, g, k]
def ReadAns (n0 f : Nat) (req : Bool) (m : ByteArray) (code : Int) (a : Except Int (List Fp × List UInt8 × Nat)) (e : Ending) (w' : World) : Prop :=
  match a with
  | .error c => e = .returned (.tuple #[.string ByteArray.empty, .int .i64 0, .int .i64 c]) ∧ c ≠ 0
  | .ok (l, b, n) => e = .returned (.tuple #[.string (mkS b), .int .i64 (n : Int), .int .i64 0]) ∧ ∃ v, Blk w' f 49 #[.bool req, .string m, .int .i64 code, v] ∧ Owns w' n0 57 2 e_ss v l
end Ms
set_option maxHeartbeats 8000000 in
theorem readFr_any (w0 : World) (f : Nat) (req : Bool) (m : ByteArray) (code : Int) (u : Value) (s : ByteArray) (w : World) (hf : Blk w f 49 #[.bool req, .string m, .int .i64 code, u]) (hw : Below w0.heap.size w0 w) (hf0 : w0.heap.size ≤ f) (hs : s.size < 4294967281) (hm : HasMax w0) (he : HasErr w0) :
    Calls Tryz.prog 20 #[.pointer (some ⟨f, 0, none⟩), .string s] w fun e w' => ReadAns w0.heap.size f req m code (readF req m code (sl s)) e w' ∧ Below w0.heap.size w w' := by
  have hmw := hm.below hw
  have HP := Lib.hid (parseF_any s w hs hmw.1 hmw.2)
  have HF := Lib.hid hf
  have HMX := Lib.hid hm
  have HER := Lib.hid he
  have hws := hw.size
  clear hmw hm he hf
  obtain ⟨A, hA⟩ : ∃ A, readF req m code (sl s) = A := ⟨_, rfl⟩
  have HA := Lib.hid hA
  rw [hA]
  clear hA
  go_enter Tryz.func20, Tryz.ntmps20
  go_wp2_with fail
  refine HP.out.mono ?_
  rintro e w1 ⟨ans, b1⟩
  rcases ans with ⟨l, r, v, hp, rfl, ho⟩ | ⟨c, hp, rfl⟩
  · have hp' := hp
    rw [parseA_size] at hp
    have hdr := parseA_drop hp
    have hrl : r.length ≤ s.size := by rw [← sl_len]; exact parseA_len _ _ hp
    rw [sl_len] at hdr
    obtain ⟨hg, h30, -⟩ := parse_good _ _ _ _ _ (by omega) hp'
    have hwt := good_wt l hg
    have hrf := HA.out
    unfold readF at hrf
    rw [hp] at hrf
    dsimp only at hrf
    rw [sl_len] at hrf
    have HRF := Lib.hid hrf.symm
    clear hrf
    obtain ⟨at_, hat⟩ : ∃ at_, s.size - r.length = at_ := ⟨_, rfl⟩
    rw [hat] at hdr HRF
    have hats : at_ ≤ s.size := by omega
    obtain ⟨R, hR⟩ : ∃ R, s.extract at_ s.size = R := ⟨_, rfl⟩
    have hRl : Hid (sl R = r) := by show _ = _; rw [← hR, sl_extract_end]; exact hdr
    have hRz : R.size = r.length := by rw [← sl_len, hRl.out]
    have hb1 := HF.out.below b1 HF.out.lt
    have f3 := hb1.frozen 3
    have c3 := hb1.cell 3
    obtain ⟨A3, cap3, hv3⟩ := ho.slice
    subst hv3
    have hb2 := hb1.set_ 3 (.slice A3 l.length cap3)
    have ho2 := (ho.mono hws).setFar ⟨f, 3, none⟩ (.slice A3 l.length cap3) (ho.ne_blk hb1 (by decide))
    have B2 := (hw.trans (b1.mono hws)).setCell (p := ⟨f, 3, none⟩) hf0 (.slice A3 l.length cap3)
    have BW := (b1.mono hws).setCell (p := ⟨f, 3, none⟩) hf0 (.slice A3 l.length cap3)
    have HK := Lib.hid (fun wc (hb : Below (w1.setCell ⟨f, 3, none⟩ (.slice A3 l.length cap3)).heap.size (w1.setCell ⟨f, 3, none⟩ (.slice A3 l.length cap3)) wc) => kind_any req m code (.slice A3 l.length cap3) l wc ⟨(SlR.of_owns ho2).below hb, by omega⟩ (HER.out.below (B2.trans (hb.mono (by have := B2.size; omega)))))
    have HB2 := Lib.hid hb2
    have HO2 := Lib.hid ho2
    obtain ⟨k, n, ee, hk, hin⟩ := kindF_in req m code l
    rw [hk] at HK HRF
    dsimp only at HK HRF
    clear hp hp' hdr hg h30 hwt ho hk
    go_wp2_with fail
    clear f3 c3 hb1 hb2 ho2 b1
    generalize w1.setCell ⟨f, 3, none⟩ (.slice A3 l.length cap3) = w2 at *
    have hfl := HB2.out.lt
    go_wp2_with fail
    refine wp_region_seq [(true, 0), (true, 1), (true, 2), (true, 3), (true, 4), (true, 5), (true, 6), (true, 7), (true, 8), (true, 9), (true, 10), (true, 11), (true, 12), (false, 13), (true, 14), (true, 15), (true, 16), (true, 17), (true, 18), (true, 19), (true, 20)] (fun w' => Below w2.heap.size w2 w') (by kernel_rfl) (by kernel_rfl) (fun _ _ _ _ _ h => h) (by kernel_rfl) (by kernel_rfl) (by first | exact (Below.refl _ _).drew | exact Below.drew (by assumption)) ?_
    have bS : Below w2.heap.size w2 _ := (by first | exact Below.drew (by assumption) | exact (Below.refl _ w2).drew)
    iterate 21 (first
      | (apply seqH_skip; (focus (simp only [List.getElem?_toArray, List.getElem?_cons_succ, List.getElem?_cons_zero]; rfl)); (focus rfl); simp only [Act.put, List.setIfInBounds_toArray, List.set_cons_zero, List.set_cons_succ])
      | (apply seqH_take; (focus (simp only [List.getElem?_toArray, List.getElem?_cons_succ, List.getElem?_cons_zero]; rfl)); (focus rfl); (focus (intro w' hS; have e0 := (hS.cell (p := ⟨f, 0, none⟩) hfl).trans (HB2.out.cell 0); have e1 := (hS.cell (p := ⟨f, 1, none⟩) hfl).trans (HB2.out.cell 1); have e2 := (hS.cell (p := ⟨f, 2, none⟩) hfl).trans (HB2.out.cell 2); first | (go_simp; rfl) | (go_simp; done))); simp only [Act.put, List.setIfInBounds_toArray, List.set_cons_zero, List.set_cons_succ])
      | (apply seqH_pass; (focus (simp only [List.getElem?_toArray, List.getElem?_cons_succ, List.getElem?_cons_zero]; rfl)); (focus rfl); (focus assumption); simp only [Act.put, List.setIfInBounds_toArray, List.set_cons_zero, List.set_cons_succ])
      | (apply seqH_eff; (focus (simp only [List.getElem?_toArray, List.getElem?_cons_succ, List.getElem?_cons_zero]; rfl)); (focus rfl); intro K hK; go_simp; (go_at_call 15; (with_reducible refine (HK.out _ (by assumption)).mono ?_)); rintro e wN ⟨rfl, bN⟩; refine hK _ _ (seq_next (by assumption) bN (fun bS' => ?_)); clear hK K))
    refine seqH_nil ?_
    have BN := BW.trans (bS'.mono B2.size)
    have HBN := Lib.hid (HB2.out.below bS' hfl)
    have HON := Lib.hid (HO2.out.below bS')
    rcases hin with ⟨he0, rfl, rfl⟩ | ⟨rfl, rfl, hkk⟩ | ⟨rfl, rfl, hn0, hn5⟩
    · have hne : (ee != 0) = true := by rw [bne_iff_ne]; exact he0
      have hA : A = .error ee := by rw [HRF.out, if_pos he0]
      subst hA
      go_wp2_with fail
      go_ret3
      exact ⟨⟨rfl, he0⟩, BN⟩
    · rcases hkk with rfl | rfl | ⟨rfl, rfl⟩
      · have hA : A = .ok (l, [], at_) := by rw [HRF.out, if_neg (by simp), if_neg (by decide), if_neg (by decide), if_neg (by decide)]
        subst hA
        go_wp2_with fail
        go_ret3
        exact ⟨⟨rfl, _, HBN.out, HON.out⟩, BN⟩
      · have HDC := Lib.hid (decodeD_any R wN (by omega) (HasMax.n (HMX.out.below (hw.trans BN))))
        rw [hRl.out] at HDC
        cases hd : dec .head [] r with
        | short st b r' =>
          have hA : A = .error 8 := by rw [HRF.out, if_neg (by simp), if_neg (by decide), if_neg (by decide), if_pos rfl, hd]
          subst hA
          rw [hd] at HDC
          clear hd
          go_wp2_with fail
          refine HDC.out.mono ?_
          rintro e w4 ⟨rfl, b4⟩
          go_wp2_with fail
          go_ret3
          exact ⟨⟨rfl, by decide⟩, BN.trans (b4.mono (Nat.le_trans hws BN.size))⟩
        | err c =>
          have hcc := dec_code hd
          have hA : A = .error c := by rw [HRF.out, if_neg (by simp), if_neg (by decide), if_neg (by decide), if_pos rfl, hd]
          subst hA
          rw [hd] at HDC
          have hne : (c != 0) = true := by rw [bne_iff_ne]; omega
          clear hd
          go_wp2_with fail
          refine HDC.out.mono ?_
          rintro e w4 ⟨rfl, b4⟩
          go_wp2_with fail
          go_ret3
          exact ⟨⟨rfl, by omega⟩, BN.trans (b4.mono (Nat.le_trans hws BN.size))⟩
        | done b r' =>
          have h2 := dec_two hd
          have hA : A = .ok (l, b, at_ + (r.length - r'.length)) := by rw [HRF.out, if_neg (by simp), if_neg (by decide), if_neg (by decide), if_pos rfl, hd]
          subst hA
          rw [hd] at HDC
          have hnum : (at_ : Int) + ((R.size : Int) - (r'.length : Int)) = ((at_ + (r.length - r'.length) : Nat) : Int) := by omega
          have hwr : IntKind.i64.wrap ((at_ : Int) + ((R.size : Int) - (r'.length : Int))) = (at_ : Int) + ((R.size : Int) - (r'.length : Int)) := by rw [IntKind.wrap_i64]; omega
          have HNUM := Lib.hid hnum
          clear hd hnum
          go_wp2_with fail
          refine HDC.out.mono ?_
          rintro e w4 ⟨rfl, b4⟩
          go_wp2_with fail
          go_ret3
          exact ⟨⟨ret_sii rfl (by omega) rfl, _, HBN.out.below b4 HBN.out.lt, HON.out.below b4⟩, BN.trans (b4.mono (Nat.le_trans hws BN.size))⟩
      · by_cases h5 : 5000 < r.length
        · have hA : A = .error 2 := by rw [HRF.out, if_neg (by simp), if_neg (by decide), if_pos rfl, if_pos h5]
          subst hA
          have hd5 : decide ((5000 : Int) < (R.size : Int)) = true := decide_eq_true (by omega)
          have hd5' : decide (5000 < R.size) = true := decide_eq_true (by omega)
          go_wp2_with fail
          go_ret3
          exact ⟨⟨rfl, by decide⟩, BN⟩
        · have hA : A = .ok (l, r, s.size) := by rw [HRF.out, if_neg (by simp), if_neg (by decide), if_pos rfl, if_neg h5]
          subst hA
          have hd5 : decide ((5000 : Int) < (R.size : Int)) = false := decide_eq_false (by omega)
          have hd5' : decide (5000 < R.size) = false := decide_eq_false (by omega)
          have hmk : mkS r = R := by rw [← hRl.out, mkS_sl]
          have HMK := Lib.hid hmk
          clear hmk
          go_wp2_with fail
          go_ret3
          exact ⟨⟨ret_sii HMK.out.symm rfl rfl, _, HBN.out, HON.out⟩, BN⟩
    · obtain ⟨N, rfl⟩ : ∃ N : Nat, n = (N : Int) := ⟨n.toNat, by omega⟩
      by_cases hrN : (r.length : Int) < (N : Int)
      · have hA : A = .error 8 := by rw [HRF.out, if_neg (by simp), if_pos rfl, if_pos hrN]
        subst hA
        have hdN : decide ((R.size : Int) < (N : Int)) = true := decide_eq_true (by omega)
        have hdN' : decide (R.size < N) = true := decide_eq_true (by omega)
        go_wp2_with fail
        go_ret3
        exact ⟨⟨rfl, by decide⟩, BN⟩
      · have hA : A = .ok (l, r.take N, at_ + N) := by rw [HRF.out, if_neg (by simp), if_pos rfl, if_neg hrN, Int.toNat_natCast]
        subst hA
        have hdN : decide ((R.size : Int) < (N : Int)) = false := decide_eq_false (by omega)
        have hdN' : decide (R.size < N) = false := decide_eq_false (by omega)
        have hNR : N ≤ R.size := by omega
        have HMK : Hid (mkS (r.take N) = R.extract 0 N) := by
          show _ = _
          apply sl_inj
          rw [sl_mkS, sl_extract, hRl.out]; simp
        clear hrN
        go_wp2_with fail
        go_ret3
        exact ⟨⟨by rw [HMK.out]; go_num, _, HBN.out, HON.out⟩, BN⟩
  · have hcode := parse_code _ _ _ _ hp
    rw [parseA_size] at hp
    have hA : A = .error c := by rw [← HA.out]; unfold readF; rw [hp]
    subst hA
    have hc0 : (c != 0) = true := by rw [bne_iff_ne]; omega
    clear hp
    go_wp2_with fail
    go_ret3
    exact ⟨⟨rfl, by omega⟩, b1.mono hws⟩
/-- A request, as a value. -/
def vRq (m t : ByteArray) (v : Value) (b : ByteArray) : Value := .agg #[.string m, .string t, v, .string b]
/-- Two that are the same are the same. -/
theorem sameReq_true (m t b : ByteArray) (u1 u2 : Value) (l : List Fp) (w : World) (h1 : SlR w e_ss u1 l) (h2 : SlR w e_ss u2 l) (hl : l.length ≤ 140737488351232) :
    Calls Tryz.prog 11 #[vRq m t u1 b, vRq m t u2 b] w fun e w' => e = .returned (.bool true) ∧ Below w.heap.size w w' := by
  have H1 := Lib.hid (fun (w' : World) (hb : Below w.heap.size w w') => h1.below hb)
  have H2 := Lib.hid (fun (w' : World) (hb : Below w.heap.size w w') => h2.below hb)
  unfold vRq
  go_enter Tryz.func11, Tryz.ntmps11
  go_wp2_with fail
  have bb : Below w.heap.size w ((w.alloc (.cells #[.string m, .string t, u1, .string b] 24)).alloc (.cells #[.string m, .string t, u2, .string b] 24)) := ((Below.refl _ w).alloc (Nat.le_refl _) _).alloc (by simp) _
  have q0 : ((w.alloc (.cells #[.string m, .string t, u1, .string b] 24)).alloc (.cells #[.string m, .string t, u2, .string b] 24)).cell? ⟨w.heap.size, 3, none⟩ = some (.string b) := by go_simp
  have q1 : ((w.alloc (.cells #[.string m, .string t, u1, .string b] 24)).alloc (.cells #[.string m, .string t, u2, .string b] 24)).cell? ⟨w.heap.size + 1, 3, none⟩ = some (.string b) := by go_simp
  have hz : w.heap.size + 1 + 1 = ((w.alloc (.cells #[.string m, .string t, u1, .string b] 24)).alloc (.cells #[.string m, .string t, u2, .string b] 24)).heap.size := by simp
  generalize (w.alloc (.cells #[.string m, .string t, u1, .string b] 24)).alloc (.cells #[.string m, .string t, u2, .string b] 24) = w2 at *
  refine (eqFld_any u1 u2 l l w2 (H1.out _ bb) (H2.out _ bb) hl hl).mono ?_
  rintro e w3 ⟨rfl, b3⟩
  have r0 := (b3.cell (p := ⟨w.heap.size, 3, none⟩) (by show w.heap.size < _; omega)).trans q0
  have r1 := (b3.cell (p := ⟨w.heap.size + 1, 3, none⟩) (by show w.heap.size + 1 < _; omega)).trans q1
  have hd : decide (l = l) = true := decide_eq_true rfl
  rw [hd]
  go_wp2_with fail
  go_ret
  exact ⟨by simp, bb.trans (b3.mono bb.size)⟩
end Go.Proofs.YtoalfjkbgeiggaaGreatDoor
