/- field's Parse: what it answers. -/
import Derived.Test.YtoalfjkbgeiggaaGreatDoorZFldX
namespace Go.Proofs.YtoalfjkbgeiggaaGreatDoor
set_option maxRecDepth 20000
open Go.RowKit
theorem fldInfo : ElemInfo Tryz.prog 57 (.agg #[.string ByteArray.empty, .string ByteArray.empty]) 2 32 := by unfold ElemInfo; kernel_rfl
theorem ss_one (l : List Fp) : ∀ u ∈ l.flatMap e_ss, u.oneCell' = true := by
  intro u hu
  obtain ⟨d, _, hd⟩ := List.mem_flatMap.1 hu
  simp only [e_ss, List.mem_cons, List.not_mem_nil, or_false] at hd
  rcases hd with rfl | rfl <;> rfl
abbrev Pf := Except Int (List Fp × List UInt8)
def withF (out : List Fp) (x : Pf) : Pf := match x with | .error c => .error c | .ok (l, r) => .ok (out ++ l, r)
theorem withF_nil (x : Pf) : withF [] x = x := by unfold withF; split <;> simp_all
theorem withF_snoc (out : List Fp) (f : Fp) (x : Pf) : withF out (withF [f] x) = withF (out ++ [f]) x := by
  cases x with
  | error c => rfl
  | ok p => obtain ⟨l, r⟩ := p; simp [withF]
theorem parse_none {n k : Nat} {rest : List UInt8} (hc : cutL2 rest = none) : parseF n k rest = .error (if 1101 < rest.length then 2 else 8) := by
  cases n with
  | zero => rfl
  | succ n => unfold parseF; rw [hc]
theorem parse_end {n k : Nat} {rest r : List UInt8} (hn : rest.length ≤ n) (hc : cutL2 rest = some ([], r)) : parseF n k rest = .ok ([], r) := by
  have := cutL2_short hc
  cases n with
  | zero => omega
  | succ n => unfold parseF; rw [hc]; rfl
theorem parse_large {n k : Nat} {rest line r : List UInt8} (hn : rest.length ≤ n) (hc : cutL2 rest = some (line, r)) (hl : line ≠ []) (h : 1100 < line.length ∨ k = 30) : parseF n k rest = .error 2 := by
  have := cutL2_short hc
  cases n with
  | zero => omega
  | succ n => unfold parseF; rw [hc]; dsimp only; rw [if_neg hl, if_pos h]
theorem parse_bad {n k : Nat} {rest line r : List UInt8} {c : Int} (hn : rest.length ≤ n) (hc : cutL2 rest = some (line, r)) (hl : line ≠ []) (h : ¬ (1100 < line.length ∨ k = 30)) (hf : fieldL line = .error c) : parseF n k rest = .error c := by
  have := cutL2_short hc
  cases n with
  | zero => omega
  | succ n => unfold parseF; rw [hc]; dsimp only; rw [if_neg hl, if_neg h, hf]
theorem parse_step {n k : Nat} {rest line r : List UInt8} {f : Fp} (hn : rest.length ≤ n) (hc : cutL2 rest = some (line, r)) (hl : line ≠ []) (h : ¬ (1100 < line.length ∨ k = 30)) (hf : fieldL line = .ok f) : parseF n k rest = withF [f] (parseF n (k + 1) r) := by
  have hs := cutL2_short hc
  cases n with
  | zero => omega
  | succ n =>
    rw [parseF_fuel (n + 1) n (k + 1) r (by omega) (by omega)]
    generalize hX : parseF n (k + 1) r = X
    unfold parseF; rw [hc]; dsimp only; rw [if_neg hl, if_neg h, hf]
    dsimp only
    rw [hX]
    unfold withF
    cases X with
    | error c => rfl
    | ok p => obtain ⟨l, r'⟩ := p; rfl
/-- What Parse answers. -/
def ParseFAns (base : Nat) (s : ByteArray) (e : Ending) (w' : World) : Prop :=
  (∃ (l : List Fp) (r : List UInt8) (v : Value), parseF s.size 0 (sl s) = .ok (l, r) ∧ e = .returned (.tuple #[v, .int .i64 ((s.size - r.length : Nat) : Int), .int .i64 0]) ∧ Owns w' base 57 2 e_ss v l) ∨
  (∃ c : Int, parseF s.size 0 (sl s) = .error c ∧ e = .returned (.tuple #[.slice none 0 0, .int .i64 0, .int .i64 c]))
set_option maxHeartbeats 3200000 in
theorem parseF_any (s : ByteArray) (w : World) (hs : s.size < 4294967281) (hm : ∃ m, w.cell? ⟨3, 0, none⟩ = some (.int .i64 m)) (hm0 : 3 < w.heap.size) :
    Calls Tryz.prog 33 #[.string s] w fun e w' => ParseFAns w.heap.size s e w' ∧ Below w.heap.size w w' := by
  have HM := Lib.hid (fun w' (hb : Below w.heap.size w w') => show ∃ m, w'.cell? ⟨3, 0, none⟩ = some (.int .i64 m) from hm.elim fun m h => ⟨m, (hb.cell hm0).trans h⟩)
  clear hm hm0
  unfold ParseFAns
  have HP0 : Hid (parseF s.size 0 (sl s) = withF [] (parseF s.size 0 ((sl s).drop 0))) := by show _ = _; rw [withF_nil]; rfl
  generalize parseF s.size 0 (sl s) = R at *
  go_enter Tryz.func33, Tryz.ntmps33
  go_wp2_with fail
  go_loopw [5, 6] (fun v a wr => ∃ (out : List Fp) (k : Nat), k ≤ s.size ∧ out.length ≤ 30 ∧ a = .int .i64 k ∧ Owns wr w.heap.size 57 2 e_ss v out ∧ R = withF out (parseF s.size out.length ((sl s).drop k)) ∧ Below w.heap.size w wr) (fun _ a _ => s.size - (intOf a).toNat)
  case atStart => exact ⟨[], 0, by omega, by simp, rfl, Owns.nil .., HP0.out, Below.refl _ _⟩
  case round =>
    obtain ⟨out, k, hk, ho, rfl, hown, hrec, hbel⟩ := hrel
    have HR := Lib.hid hrec
    have HO := Lib.hid hown
    obtain ⟨A2, c2, hv⟩ := hown.slice
    subst hv
    clear hrec hown HP0
    obtain ⟨r, hr, hrz⟩ : ∃ r, s.extract k s.size = r ∧ r.size = s.size - k := ⟨_, rfl, by rw [ext_size _ _ _ (Nat.le_refl _)]⟩
    have HX : Hid ((sl s).drop k = sl r) := by show _ = _; rw [← hr, sl_extract_end]
    rw [HX.out] at HR
    have HZ := Lib.hid hrz
    have hrs : r.size < 4294967281 := by omega
    have hfu : Hid ((sl r).length ≤ s.size) := by show _ ≤ _; rw [sl_len]; omega
    clear hrz
    go_wp2_with fail
    refine (cut2_any r _ hrs (HM.out _ hbel)).mono ?_
    rintro e w1 ⟨hcut, b1⟩
    have hb1 := hbel.trans (b1.mono hbel.size)
    have HO1 := Lib.hid (HO.out.below b1)
    rcases hcut with ⟨a, rr, hc, rfl⟩ | ⟨hc, rfl⟩
    · have hsh := cutL2_short hc
      rw [sl_len] at hsh
      obtain ⟨hsh1, hsh2⟩ := hsh
      have HC := Lib.hid hc
      have hrr : (sl s).drop (k + (a.length + 2)) = rr := by
        rw [← List.drop_drop, HX.out, cutL2_text hc, List.drop_append, List.drop_of_length_le (by omega), show a.length + 2 - a.length = 2 from by omega]; rfl
      have HRR := Lib.hid hrr
      have hLz : (mkS a).size = a.length := mkS_size a
      have HL : Hid (sl (mkS a) = a) := sl_mkS a
      have hemp : (mkS a).toList.isEmpty = a.isEmpty := by rw [ba_toList, sl_mkS]
      have hz := HZ.out
      clear hc hrr
      generalize mkS a = L at *
      generalize mkS rr = RR at *
      by_cases ha : a = []
      · subst ha
        have hemp' : L.toList.isEmpty = true := hemp
        have HF : Hid (R = .ok (out, rr)) := by show _ = _; rw [HR.out, parse_end hfu.out HC.out]; simp [withF]
        have hsz : ((s.size - rr.length : Nat) : Int) = (k : Int) + ((L.size : Int) + 2) := by
          have e1 := hsh2; have e2 := hz
          rw [List.length_nil] at e1
          rw [hLz, List.length_nil]; omega
        have hL0 : L.size = 0 := by rw [hLz]; rfl
        clear hemp
        go_wp2_with fail
        go_ret3
        exact ⟨.inl ⟨out, rr, _, HF.out, by rw [hsz]; first | rfl | go_num, HO1.out⟩, hb1⟩
      · have hemp' : L.toList.isEmpty = false := by rw [hemp]; cases a with | nil => exact absurd rfl ha | cons x a => rfl
        have HNE := Lib.hid ha
        clear hemp ha
        by_cases hlarge : 1100 < a.length ∨ out.length = 30
        · have HF : Hid (R = .error 2) := by show _ = _; rw [HR.out, parse_large hfu.out HC.out HNE.out hlarge]; rfl
          by_cases h11 : 1100 < L.size
          · have d1 : decide (1100 < L.size) = true := decide_eq_true h11
            clear hlarge
            go_wp2_with fail
            go_ret3
            exact ⟨.inr ⟨2, HF.out, rfl⟩, hb1⟩
          · have d1 : decide (1100 < L.size) = false := decide_eq_false h11
            have d2 : ((out.length : Int) == 30) = true := by rw [beq_iff_eq]; omega
            clear hlarge
            go_wp2_with fail
            go_ret3
            exact ⟨.inr ⟨2, HF.out, rfl⟩, hb1⟩
        · have HNL := Lib.hid hlarge
          have d1 : decide (1100 < L.size) = false := decide_eq_false (by omega)
          have d2 : ((out.length : Int) == 30) = false := by rw [beq_eq_false_iff_ne]; omega
          have hout : out.length < 30 := by omega
          have hL11 : L.size ≤ 1100 := by omega
          clear hlarge
          have HCO := Lib.hid (fun w => cut_one L 58 w (by omega))
          have HFL : Hid (fieldL a = match cutC 58 (sl L) with
            | none => .error 3
            | some (a, b) => if Tok.isTok (mkS a) = true then (if chkF (mkS a, mkS (Tok.trimL b)) = 0 then .ok (mkS a, mkS (Tok.trimL b)) else .error (chkF (mkS a, mkS (Tok.trimL b)))) else .error 3) := by show _ = _; rw [HL.out]; rfl
          go_wp2_with fail
          refine (HCO.out _).mono ?_
          rintro e w2 ⟨hco, b2⟩
          have hb2 := hb1.trans (b2.mono hb1.size)
          have HO2 := Lib.hid (HO1.out.below b2)
          rcases hco with ⟨n, u, hn1, hn2, rfl⟩ | ⟨hno, rfl⟩
          · have HFL2 : Hid (fieldL a = if Tok.isTok (mkS n) = true then (if chkF (mkS n, mkS (Tok.trimL u)) = 0 then .ok (mkS n, mkS (Tok.trimL u)) else .error (chkF (mkS n, mkS (Tok.trimL u)))) else .error 3) := by show _ = _; rw [HFL.out, cutC_some hn1 hn2]
            have hnz : (mkS n).size ≤ 1100 ∧ (mkS u).size ≤ 1100 := by
              have := congrArg List.length hn1
              rw [sl_len, List.length_append, List.length_cons] at this
              rw [mkS_size, mkS_size]; omega
            have hut : Hid (mkS (Tok.trimL (sl (mkS u))) = mkS (Tok.trimL u)) := by show _ = _; rw [sl_mkS]
            have htz : (mkS (Tok.trimL u)).size ≤ 1100 := by
              have h1 : (Tok.trimL u).length ≤ u.length := by
                unfold Tok.trimL
                rw [List.length_reverse]
                refine Nat.le_trans (List.dropWhile_sublist _).length_le ?_
                rw [List.length_reverse]
                exact (List.dropWhile_sublist _).length_le
              have := hnz.2
              rw [mkS_size] at this ⊢; omega
            clear hn1 hn2
            generalize mkS n = N at *
            generalize mkS u = U at *
            have HI := Lib.hid (fun w => isToken_any N w (by omega))
            have HT := Lib.hid (fun w => strTrim_any U w (by omega))
            rw [hut.out] at HT
            generalize mkS (Tok.trimL u) = T at *
            have HK := Lib.hid (fun w => check_any N T w (by omega) (by omega))
            cases hI : Tok.isTok N
            · rw [hI] at HI HFL2
              have HF : Hid (R = .error 3) := by show _ = _; rw [HR.out, parse_bad hfu.out HC.out HNE.out HNL.out (c := 3) (by rw [HFL2.out]; rfl)]; rfl
              clear hI
              go_wp2_with fail
              refine (HI.out _).mono ?_
              rintro e w' ⟨rfl, rfl⟩
              go_wp2_with fail
              go_ret3
              exact ⟨.inr ⟨3, HF.out, rfl⟩, hb2⟩
            · rw [hI] at HI HFL2
              clear hI
              go_wp2_with fail
              refine (HI.out _).mono ?_
              rintro e w' ⟨rfl, rfl⟩
              go_wp2_with fail
              refine (HT.out _).mono ?_
              rintro e w3 ⟨rfl, b3⟩
              have hb3 := hb2.trans (b3.mono hb2.size)
              have HO3 := Lib.hid (HO2.out.below b3)
              have HFL3 : Hid (fieldL a = if chkF (N, T) = 0 then .ok (N, T) else .error (chkF (N, T))) := by show _ = _; rw [HFL2.out]; simp
              generalize chkF (N, T) = q at *
              go_wp2_with fail
              refine (HK.out _).mono ?_
              rintro e w4 ⟨rfl, b4⟩
              have hb34 := (hb3.alloc hb3.size (.cells #[.string N, .string T] 57))
              have hb4 := hb34.trans (b4.mono hb34.size)
              have HO4 := Lib.hid ((HO3.out.alloc (.cells #[.string N, .string T] 57)).below b4)
              have c0 : w4.cell? ⟨w3.heap.size, 0, none⟩ = some (.string N) := (b4.cell (by simp)).trans (by go_simp)
              have c1 : w4.cell? ⟨w3.heap.size, 1, none⟩ = some (.string T) := (b4.cell (by simp)).trans (by go_simp)
              by_cases hq : q = 0
              · subst hq
                have HF : Hid (R = withF (out ++ [(N, T)]) (parseF s.size (out ++ [(N, T)]).length ((sl s).drop (k + (a.length + 2))))) := by
                  show _ = _
                  rw [HR.out, parse_step hfu.out HC.out HNE.out HNL.out (f := (N, T)) (by rw [HFL3.out]; simp), withF_snoc, HRR.out]
                  simp
                have HNC : ∀ j u, [Value.string N, .string T][j]? = some u → (w4.alloc (.cells #[.string N, .string T] 57)).cell? ((⟨w4.heap.size, 0, none⟩ : Addr).add j) = some u := new_cells w4 [.string N, .string T] 57
                clear HFL HFL2 HFL3
                go_wp2_with (at_builtin; go_must (refine wpList_append_owns rfl (.tmp 68) (.tmp 70) _ rfl w.heap.size 57 (.agg #[.string ByteArray.empty, .string ByteArray.empty]) 2 32 e_ss Tryz.underlying22 fldInfo rfl (by decide) _ out rfl (HO4.out.alloc _) ⟨w4.heap.size, 0, none⟩ 1 1 [(N, T)] rfl rfl rfl HNC (ss_one _) (by simp only [maxLen]; omega) (by omega) (bel_size hb4 (Nat.le_refl _) _) ?_); intro v5 w5 hown5 hg5)
                go_roundw
                case rel => exact ⟨out ++ [(N, T)], k + (a.length + 2), by omega, by simp; omega, by rw [← hLz]; go_num, hown5, HF.out, bel_append hb4 (Nat.le_refl _) HO4.out hg5⟩
                case measure => simp [intOf]; omega
              · have hq' : (q != 0) = true := by simpa using hq
                have HF : Hid (R = .error q) := by show _ = _; rw [HR.out, parse_bad hfu.out HC.out HNE.out HNL.out (c := q) (by rw [HFL3.out, if_neg hq])]; rfl
                go_wp2_with fail
                go_ret3
                exact ⟨.inr ⟨q, HF.out, rfl⟩, hb4⟩
          · have HF : Hid (R = .error 3) := by show _ = _; rw [HR.out, parse_bad hfu.out HC.out HNE.out HNL.out (c := 3) (by rw [HFL.out, cutC_none hno])]; rfl
            clear hno
            go_wp2_with fail
            go_ret3
            exact ⟨.inr ⟨3, HF.out, rfl⟩, hb2⟩
    · have HF : Hid (R = .error (if 1101 < r.size then 2 else 8)) := by show _ = _; rw [HR.out, parse_none hc, sl_len]; rfl
      by_cases h11 : 1101 < r.size
      · have d1 : decide (1101 < r.size) = true := decide_eq_true h11
        go_wp2_with fail
        go_ret3
        exact ⟨.inr ⟨2, by rw [HF.out, if_pos h11], rfl⟩, hb1⟩
      · have d1 : decide (1101 < r.size) = false := decide_eq_false h11
        go_wp2_with fail
        go_ret3
        exact ⟨.inr ⟨8, by rw [HF.out, if_neg h11], rfl⟩, hb1⟩
end Go.Proofs.YtoalfjkbgeiggaaGreatDoor
