/- msg: frame.write, WriteRequest. -/
import Derived.Test.YtoalfjkbgeiggaaGreatDoorZMsgS
namespace Go.Proofs.YtoalfjkbgeiggaaGreatDoor
set_option maxRecDepth 20000
open Go.RowKit
open Ck Ms Bd Ln
namespace Ms
def WrAns (first : ByteArray) (a : Except Int (List UInt8)) (e : Ending) : Prop :=
  match a with
  | .error c => e = .returned (.tuple #[.string ByteArray.empty, .int .i64 c]) ∧ c ≠ 0
  | .ok x => e = .returned (.tuple #[.string (first ++ mkS x), .int .i64 0])
theorem mkS_app (a b : List UInt8) : mkS (a ++ b) = mkS a ++ mkS b := sl_inj (by rw [sl_append, sl_mkS, sl_mkS, sl_mkS])
theorem ba_assoc (a b c : ByteArray) : a ++ b ++ c = a ++ (b ++ c) := sl_inj (by simp only [sl_append, List.append_assoc])
end Ms
set_option maxHeartbeats 8000000 in
theorem writeFr_any (req : Bool) (m : ByteArray) (code : Int) (v : Value) (l : List Fp) (first text : ByteArray) (w : World) (h : SlR w e_ss v l) (hwt : wt l ≤ 1048576) (hf : first.size ≤ 1048576) (ht : text.size ≤ 1048576) (hz : HasTz w) (he : HasErr w) :
    Calls Tryz.prog 18 #[.agg #[.bool req, .string m, .int .i64 code, v], .string first, .string text] w fun e w' => WrAns first (writeF req m code l (sl text)) e ∧ Below w.heap.size w w' := by
  have hll : l.length ≤ 1048576 := Nat.le_trans (wt_len l) hwt
  have hmem : ∀ f ∈ l, f.1.size ≤ 140737488351232 ∧ f.2.size ≤ 140737488351232 := fun f hfm => by
    have : f.1.size + f.2.size + 2 ≤ wt l := sum_mem (fun f : Fld => f.1.size + f.2.size + 2) hfm
    omega
  have HB := Lib.hid (Blk.new w 49 #[.bool req, .string m, .int .i64 code, v])
  have bA := (Below.refl w.heap.size w).alloc (Nat.le_refl _) (.cells #[.bool req, .string m, .int .i64 code, v] 49)
  have HP := Lib.hid (printF_any v l (w.alloc (.cells #[.bool req, .string m, .int .i64 code, v] 49)) (h.alloc _) (by omega) hmem)
  have HK := Lib.hid (fun (wc : World) (hb : Below w.heap.size w wc) => kind_any req m code v l wc ⟨h.below hb, by omega⟩ (he.below hb))
  have HTZ := Lib.hid hz
  obtain ⟨A, hA⟩ : ∃ A, writeF req m code l (sl text) = A := ⟨_, rfl⟩
  have hA0 := hA
  rw [hA]
  unfold writeF at hA0
  obtain ⟨k, n, ee, hk, hin⟩ := kindF_in req m code l
  rw [hk] at HK hA0
  dsimp only at HK hA0
  have HA := Lib.hid hA0
  rw [sl_len] at HA
  obtain ⟨Av, cv, rfl, hcv⟩ := h.form
  clear hA hA0 hk hmem hwt hz he
  go_enter Tryz.func18, Tryz.ntmps18
  go_wp2_with fail
  generalize w.alloc (.cells #[.bool req, .string m, .int .i64 code, .slice Av l.length cv] 49) = wa at *
  refine HP.out.mono ?_
  rintro e w1 ⟨hpr, b1⟩
  have hb1 := Blk.below HB.out b1 HB.out.lt
  have B1 := bA.trans (b1.mono bA.size)
  have d0 := hb1.cell 0
  have d1 := hb1.cell 1
  have d2 := hb1.cell 2
  have d3 := hb1.cell 3
  rcases hpr with ⟨hchk, hg, h30, rfl⟩ | ⟨hchk, rfl⟩
  · rw [if_neg (Classical.not_not.2 hchk)] at HA
    have hpl := printF_len l hg h30
    obtain ⟨H, hH⟩ : ∃ H, mkS (printF l) = H := ⟨_, rfl⟩
    have hHz : H.size ≤ 31100 := by rw [← hH, mkS_size]; exact hpl
    rw [hH]
    have HH := Lib.hid hH
    clear hH hpl hg hchk
    go_wp2_with fail
    refine (HK.out _ B1).mono ?_
    rintro e w2 ⟨rfl, b2⟩
    have B2 := B1.trans (b2.mono B1.size)
    clear d0 d1 d2 d3 hb1
    rcases hin with ⟨he0, rfl, rfl⟩ | ⟨rfl, rfl, hkk⟩ | ⟨rfl, rfl, hn0, hn5⟩
    · have hne : (ee != 0) = true := by rw [bne_iff_ne]; exact he0
      have hAA : A = .error ee := by rw [← HA.out, if_pos he0]
      subst hAA
      go_wp2_with fail
      go_ret2
      exact ⟨⟨rfl, he0⟩, B2⟩
    · have HA2 : Hid ((if (k = 1 ∧ sl text ≠ []) ∨ (k = 2 ∧ (text.size : Int) ≠ 0) then .error 10 else if k = 4 ∧ 5000 < text.size then .error 2 else if k = 3 then (if 5000 < text.size then .error 2 else .ok (printF l ++ encL text.size 64 (sl text))) else .ok (printF l ++ sl text)) = A) := by
        have := HA.out
        rw [if_neg (by simp)] at this
        exact this
      clear HA
      rcases hkk with rfl | rfl | ⟨rfl, rfl⟩
      · by_cases htx : text.size = 0
        · have hte : text.toList.isEmpty = true := by rw [ba_toList, empty_of_size text htx]; rfl
          have z1 : first.size + H.size ≤ 9223372036854775807 := by omega
          have z2 : (first ++ H).size + text.size ≤ 9223372036854775807 := by rw [ByteArray.size_append]; omega
          have hAA : A = .ok (printF l ++ sl text) := by
            rw [← HA2.out, if_neg (by rintro (⟨_, h⟩ | ⟨h, _⟩); exact h (by rw [empty_of_size text htx]; rfl); omega), if_neg (by omega), if_neg (by omega)]
          subst hAA
          go_wp2_with fail
          go_ret2
          exact ⟨ret_si (by rw [mkS_app, HH.out, mkS_sl, ba_assoc]) rfl, B2⟩
        · have hte : text.toList.isEmpty = false := isEmpty_no text (by omega)
          have hAA : A = .error 10 := by
            rw [← HA2.out, if_pos (.inl ⟨rfl, fun h => htx (by rw [← sl_len, h]; rfl)⟩)]
          subst hAA
          go_wp2_with fail
          go_ret2
          exact ⟨⟨rfl, by decide⟩, B2⟩
      · have hno : ¬ (((3 : Int) = 1 ∧ sl text ≠ []) ∨ ((3 : Int) = 2 ∧ (text.size : Int) ≠ 0)) := by omega
        by_cases h5 : 5000 < text.size
        · have HE := Lib.hid (fun w' => encode_large text 64 w' (by omega) h5)
          have hAA : A = .error 2 := by rw [← HA2.out, if_neg hno, if_neg (by omega), if_pos rfl, if_pos h5]
          subst hAA
          go_wp2_with fail
          refine (HE.out _).mono ?_
          rintro e w3 ⟨rfl, b3⟩
          go_wp2_with fail
          go_ret2
          exact ⟨⟨rfl, by decide⟩, B2.trans (b3.mono B2.size)⟩
        · have HE := Lib.hid (encode_any text 64 w2 (by omega) (by omega) (by omega) (HTZ.out.below B2))
          have hAA : A = .ok (printF l ++ encL text.size 64 (sl text)) := by rw [← HA2.out, if_neg hno, if_neg (by omega), if_pos rfl, if_neg h5]
          subst hAA
          rw [show (64 : Int).toNat = 64 from rfl] at HE
          have hEz := encL_len text.size 64 (sl text) (by omega) (by rw [sl_len]; omega)
          rw [sl_len] at hEz
          obtain ⟨T, hT⟩ : ∃ T, mkS (encL text.size 64 (sl text)) = T := ⟨_, rfl⟩
          have hTz : T.size ≤ 45005 := by rw [← hT, mkS_size]; omega
          rw [hT] at HE
          have HT := Lib.hid hT
          have z1 : first.size + H.size ≤ 9223372036854775807 := by omega
          have z2 : (first ++ H).size + T.size ≤ 9223372036854775807 := by rw [ByteArray.size_append]; omega
          clear hT hEz HA2
          go_wp2_with fail
          refine HE.out.mono ?_
          rintro e w3 ⟨rfl, b3⟩
          go_wp2_with fail
          go_ret2
          exact ⟨ret_si (by rw [mkS_app, HH.out, HT.out, ba_assoc]) rfl, B2.trans (b3.mono B2.size)⟩
      · have hno : ¬ (((4 : Int) = 1 ∧ sl text ≠ []) ∨ ((4 : Int) = 2 ∧ (text.size : Int) ≠ 0)) := by omega
        by_cases h5 : 5000 < text.size
        · have hAA : A = .error 2 := by rw [← HA2.out, if_neg hno, if_pos ⟨rfl, h5⟩]
          subst hAA
          have hd5 : decide ((5000 : Int) < (text.size : Int)) = true := decide_eq_true (by omega)
          have hd5' : decide (5000 < text.size) = true := decide_eq_true h5
          go_wp2_with fail
          go_ret2
          exact ⟨⟨rfl, by decide⟩, B2⟩
        · have hAA : A = .ok (printF l ++ sl text) := by rw [← HA2.out, if_neg hno, if_neg (fun h => h5 h.2), if_neg (by omega)]
          subst hAA
          have hd5 : decide ((5000 : Int) < (text.size : Int)) = false := decide_eq_false (by omega)
          have hd5' : decide (5000 < text.size) = false := decide_eq_false h5
          have z1 : first.size + H.size ≤ 9223372036854775807 := by omega
          have z2 : (first ++ H).size + text.size ≤ 9223372036854775807 := by rw [ByteArray.size_append]; omega
          clear HA2
          go_wp2_with fail
          go_ret2
          exact ⟨ret_si (by rw [mkS_app, HH.out, mkS_sl, ba_assoc]) rfl, B2⟩
    · by_cases hn : (text.size : Int) = n
      · have hAA : A = .ok (printF l ++ sl text) := by rw [← HA.out, if_neg (by simp), if_neg (by rintro (⟨h, _⟩ | ⟨_, h⟩); omega; exact h hn), if_neg (by omega), if_neg (by omega)]
        subst hAA
        subst hn
        have z1 : first.size + H.size ≤ 9223372036854775807 := by omega
        have z2 : (first ++ H).size + text.size ≤ 9223372036854775807 := by rw [ByteArray.size_append]; omega
        clear HA
        go_wp2_with fail
        go_ret2
        exact ⟨ret_si (by rw [mkS_app, HH.out, mkS_sl, ba_assoc]) rfl, B2⟩
      · have hAA : A = .error 10 := by rw [← HA.out, if_neg (by simp), if_pos (.inr ⟨rfl, hn⟩)]
        subst hAA
        have hnd : ((text.size : Int) != n) = true := by rw [bne_iff_ne]; exact hn
        clear HA hn
        go_wp2_with fail
        go_ret2
        exact ⟨⟨rfl, by decide⟩, B2⟩
  · have hne : (chkAll l != 0) = true := by rw [bne_iff_ne]; exact hchk
    have hAA : A = .error (chkAll l) := by rw [← HA.out, if_pos hchk]
    subst hAA
    go_wp2_with fail
    go_ret2
    exact ⟨⟨rfl, hchk⟩, B1⟩
set_option maxHeartbeats 2000000 in
theorem writeReq_any (m t : ByteArray) (v : Value) (l : List Fp) (b : ByteArray) (w : World) (h : SlR w e_ss v l) (hwt : wt l ≤ 1048576) (hm : m.size ≤ 1048576) (ht : t.size ≤ 1048576) (hb : b.size ≤ 1048576) (hz : HasTz w) (he : HasErr w) :
    Calls Tryz.prog 9 #[.agg #[.string m, .string t, v, .string b]] w fun e w' => WrAns ByteArray.empty (writeR m t l (sl b)) e ∧ Below w.heap.size w w' := by
  have HPR := Lib.hid (fun w' => printR_any m t w' (by omega) (by omega))
  have bA := (Below.refl w.heap.size w).alloc (Nat.le_refl _) (.cells #[.string m, .string t, v, .string b] 24)
  have HW := Lib.hid (fun hf => writeFr_any true m 0 v l (reqS m t) b (w.alloc (.cells #[.string m, .string t, v, .string b] 24)) (h.alloc _) hwt hf hb (hz.alloc _) (he.below bA))
  have hrz := reqS_size m t
  have hrs : sl (reqS m t) = reqL (sl m) (sl t) ++ [13, 10] := by unfold reqS; rw [sl_mkS]
  by_cases hmt : isM m = true ∧ isT t = true
  · rw [if_pos hmt] at HPR
    have hm30 := (isM_iff hmt.1).2
    have ht200 := (isT_iff hmt.2).2
    rw [sl_len] at hm30 ht200
    have HRS := Lib.hid (fun x => show mkS (reqL (sl m) (sl t) ++ [13, 10] ++ x) = reqS m t ++ mkS x by rw [mkS_app, ← hrs, mkS_sl])
    have hrsz : (reqS m t).size ≤ 1048576 := by omega
    have HA : Hid (writeR m t l (sl b) = match writeF true m 0 l (sl b) with | .error c => .error c | .ok x => .ok (reqL (sl m) (sl t) ++ [13, 10] ++ x)) := by
      show _ = _
      unfold writeR
      rw [if_pos hmt]
      cases writeF true m 0 l (sl b) <;> rfl
    rw [HA.out]
    have HW2 := Lib.hid (HW.out hrsz)
    generalize reqS m t = F at *
    generalize writeF true m 0 l (sl b) = A at *
    clear hrs hrz hmt hm30 ht200 HW
    go_enter Tryz.func9, Tryz.ntmps9
    go_wp2_with fail
    refine (HPR.out _).mono ?_
    rintro e w1 ⟨rfl, rfl⟩
    obtain ⟨Av, cv, rfl, -⟩ := h.form
    go_wp2_with fail
    refine HW2.out.mono ?_
    rintro e w2 ⟨ha, b2⟩
    have B2 := bA.trans (b2.mono bA.size)
    cases A with
    | error c =>
      obtain ⟨rfl, hc⟩ := ha
      go_wp2_with fail
      go_ret2
      exact ⟨⟨rfl, hc⟩, B2⟩
    | ok x =>
      unfold WrAns at ha
      dsimp only at ha
      subst ha
      go_wp2_with fail
      go_ret2
      exact ⟨ret_si (by have h := HRS.out x; simp only [List.append_assoc, List.cons_append, List.nil_append] at h ⊢; rw [h]; exact sl_inj (by simp [sl_append, sl_empty])) rfl, B2⟩
  · rw [if_neg hmt] at HPR
    have hA : writeR m t l (sl b) = .error 3 := by unfold writeR; rw [if_neg hmt]
    rw [hA]
    clear hrs hrz hmt HW hA
    obtain ⟨Av, cv, rfl, -⟩ := h.form
    go_enter Tryz.func9, Tryz.ntmps9
    go_wp2_with fail
    refine (HPR.out _).mono ?_
    rintro e w1 ⟨rfl, rfl⟩
    go_wp2_with fail
    go_ret2
    exact ⟨⟨rfl, by decide⟩, bA⟩
end Go.Proofs.YtoalfjkbgeiggaaGreatDoor
