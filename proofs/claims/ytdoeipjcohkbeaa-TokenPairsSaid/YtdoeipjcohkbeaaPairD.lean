/- TokenPairs: the walk. -/
import Derived.Test.YtdoeipjcohkbeaaPairC
namespace Go.Proofs.Ytdoeipjcohkbeaa
open Go.RowKit
theorem escs_len2 : ∀ l : List UInt8, (Tok.escs l).length ≤ 2 * l.length
  | [] => by simp [Tok.escs]
  | c :: l => by
    have ih := escs_len2 l
    have : (Tok.esc c).length ≤ 2 := by unfold Tok.esc; split <;> simp
    simp only [Tok.escs, List.flatMap_cons, List.length_append, List.length_cons] at ih ⊢; omega
set_option maxRecDepth 100000 in
set_option maxHeartbeats 6400000 in
theorem tokenPairs_core (v1 v2 : Value) (l vs : List ByteArray) (w : World) (h1 : SlR w es v1 l) (h2 : SlR w es v2 vs) (hl : l.length ≤ 140737488351232) (hvl : vs.length ≤ 140737488351232) (hz1 : ∀ s ∈ l, s.size ≤ 140737488351232) (hz2 : ∀ s ∈ vs, s.size ≤ 140737488351232) :
    Calls Try.prog 10 #[v1, v2] w fun e w' => e = .returned (.bool true) ∧ Below w.heap.size w w' := by
  obtain ⟨hlen, hall⟩ := toksL_ok l 8
  have hB := Lib.hid (tokens_any v1 l 8 w h1 hl hz1 (by omega))
  generalize toksL l 8 = T at *
  have H2 := Lib.hid (fun hn => h2.texts hn)
  obtain ⟨A, c, rfl, hc, -⟩ := h2
  go_enter Try.func10, Try.ntmps10
  go_wp2_with fail
  refine (hB.out).mono ?_
  rintro e w1 ⟨⟨u, rfl, hown⟩, hb1⟩
  have HT := Lib.hid (fun hn => (SlR.of_owns hown).texts hn)
  obtain ⟨A1, c1, hv⟩ := hown.slice
  subst hv
  clear hown
  go_wp2_with fail
  go_loopw [5, 6, 19] (fun S o i wr => ∃ (k : Nat) (s : ByteArray) (ts : List Trip), k ≤ T.length ∧ i = .int .i64 k ∧ S = .string s ∧ OkP s ts k ∧ Owns wr w1.heap.size 49 2 e_ss o (ts.map parP) ∧ Below w1.heap.size w1 wr) (fun _ _ i _ => T.length - (intOf i).toNat)
  case atStart => exact ⟨0, valueS, [], by omega, rfl, rfl, ⟨by simp [tailP], by decide, by simp, by intro t ht; cases ht⟩, Owns.nil _ _ _ _ _, Below.refl _ _⟩
  case round =>
    obtain ⟨k, s, ts, hk, rfl, rfl, hok, hown, hbel⟩ := hrel
    have hml : (ts.map parP).length = ts.length := List.length_map ..
    have htl : ts.length ≤ k := hok.len
    have hss := hok.size
    have HK := Lib.hid hok
    clear hok
    obtain ⟨ys, HY⟩ : ∃ ys, Hid (ts.map parP = ys) := ⟨_, rfl⟩
    rw [HY.out] at hown hml
    have HO := Lib.hid hown
    obtain ⟨A2, c2, hv⟩ := hown.slice
    subst hv
    clear hown
    by_cases hlt : k < T.length
    · obtain ⟨b, off, c', he, -, hbb, hcell⟩ := HT.out (by omega)
      obtain ⟨rfl, rfl⟩ : A1 = some ⟨b, off, none⟩ ∧ c1 = c' := by injection he with h1 h2 h3; exact ⟨h1, h3⟩
      have c0 := (hbel.cell (p := ⟨b, off + k, none⟩) hbb).trans (hcell k hlt)
      have hna := hall _ (List.getElem_mem hlt)
      generalize T[k] = n at c0 hna
      clear hcell he
      have hn : Tok.isTok n = true := by
        unfold Tok.isTok
        rw [hna.1.1, Bool.true_and, decide_eq_true_eq]
        have := hna.1.2
        rcases Nat.eq_zero_or_pos n.size with h0 | h0
        · exact absurd (List.eq_nil_of_length_eq_zero (by rw [sl_len]; exact h0)) this
        · exact h0
      have hn30 := hna.2
      clear hna
      have HH : Hid (∀ w', Owns w' w1.heap.size 49 2 e_ss (.slice A2 ts.length c2) ys → Owns w' w1.heap.size 49 2 e_ss (.slice A2 ts.length c2) (ts.map parP)) := by
        intro w' h; rw [HY.out]; exact h
      by_cases hv : k < vs.length
      · obtain ⟨b', o', c'', he, -, hbb', hcell⟩ := H2.out (by omega)
        obtain ⟨rfl, rfl⟩ : A = some ⟨b', o', none⟩ ∧ c = c'' := by injection he with h1 h2 h3; exact ⟨h1, h3⟩
        have c3 := ((hb1.trans (hbel.mono hb1.size)).cell (p := ⟨b', o' + k, none⟩) hbb').trans (hcell k hv)
        have hz := hz2 _ (List.getElem_mem hv)
        generalize vs[k] = z at c3 hz
        clear hcell he
        go_wp2_with fail
        refine (quote_any z _ hz).mono ?_
        rintro e w2 ⟨hqa, b2⟩
        have hb12 := hbel.trans (b2.mono hbel.size)
        rcases hqa with ⟨hz1k, hpl, rfl⟩ | ⟨_, cc, hc1, hc2, rfl⟩
        · have hql : (mkS (Tok.quoteL (sl z))).size = (Tok.quoteL (sl z)).length := mkS_size _
          have hqz : (mkS (Tok.quoteL (sl z))).size ≤ 2002 := by rw [hql]; have := escs_len2 (sl z); simp [Tok.quoteL]; omega
          have HN : Hid (Tok.isTok n = true) := hn
          have HPL := Lib.hid hpl
          obtain ⟨q, HQ⟩ : ∃ q, Hid (mkS (Tok.quoteL (sl z)) = q) := ⟨_, rfl⟩
          rw [HQ.out] at hql hqz ⊢
          have HQL := Lib.hid hql
          clear hpl hql hz1k
          by_cases h8 : s.size + q.size ≤ 800
          · have HS8 : Hid (s.size + (Tok.quoteL (sl z)).length ≤ 800) := by show _ ≤ _; rw [← HQL.out]; exact h8
            have d8 : decide ((800 : Int) < (s.size : Int) + (q.size : Int)) = false := by rw [decide_eq_false_iff_not]; omega
            have HI := Lib.hid (isToken_any z)
            cases hq : Tok.isTok z
            · rw [hq] at HI
              clear hq hn
              go_wp2_with fail
              refine (HI.out _ (by omega)).mono ?_
              rintro e w' ⟨rfl, rfl⟩
              go_wp2_with fail
              refine (lower_any n _ (by omega)).mono ?_
              rintro e w3 ⟨rfl, b3⟩
              rw [show mkS (Tok.low (sl n)) = lowT n from rfl]
              have hb13 := hb12.trans (b3.mono hb12.size)
              have ho3 := (HO.out.below b2).below (b3.mono (Nat.le_refl _))
              rw [hml] at ho3
              have HO3 := Lib.hid ho3
              clear ho3
              go_wp2_with (at_builtin; go_must (refine wpList_append_owns rfl (.tmp 62) (.tmp 67) _ rfl w1.heap.size 49 (.agg #[.string ByteArray.empty, .string ByteArray.empty]) 2 32 e_ss Try.underlying48 parInfo rfl (by decide) _ ys rfl (HO3.out.alloc _) ⟨w3.heap.size, 0, none⟩ 1 1 [(lowT n, z)] rfl rfl rfl (new_cells _ [.string (lowT n), .string z] _) (pp_one _) (by rw [hml]; simp only [maxLen]; omega) (by rw [hml]; omega) (bel_size hb13 (Nat.le_refl _) _) ?_); intro v3 w4 hown3 hg3)
              go_roundw
              case rel => exact ⟨k + 1, _, ts ++ [(n ++ ⟨#[61]⟩ ++ q, n, z)], by omega, by go_num, rfl, HK.out.next n q z HN.out hn30 HS8.out (.inr ⟨HQ.out.symm, HPL.out⟩), by rw [List.map_append, HY.out]; exact hown3, (hb13.alloc hb13.size _).grown hg3 (bel_size hb13 (Nat.le_refl _) _) (fun k hk => (HO3.out.lt k hk).1)⟩
              case measure => simp [intOf]; omega
            · rw [hq] at HI
              have HZ : Hid (Tok.isTok z = true) := hq
              clear hq hn
              rcases Nat.mod_two_eq_zero_or_one k with h2 | h2
              · have tm : (k : Int).tmod 2 = 0 := by rw [Int.tmod_eq_emod_of_nonneg (by omega)]; omega
                go_wp2_with fail
                refine (HI.out _ (by omega)).mono ?_
                rintro e w' ⟨rfl, rfl⟩
                go_wp2_with fail
                refine (lower_any n _ (by omega)).mono ?_
                rintro e w3 ⟨rfl, b3⟩
                rw [show mkS (Tok.low (sl n)) = lowT n from rfl]
                have hb13 := hb12.trans (b3.mono hb12.size)
                have ho3 := (HO.out.below b2).below (b3.mono (Nat.le_refl _))
                rw [hml] at ho3
                have HO3 := Lib.hid ho3
                clear ho3
                go_wp2_with (at_builtin; go_must (refine wpList_append_owns rfl (.tmp 62) (.tmp 67) _ rfl w1.heap.size 49 (.agg #[.string ByteArray.empty, .string ByteArray.empty]) 2 32 e_ss Try.underlying48 parInfo rfl (by decide) _ ys rfl (HO3.out.alloc _) ⟨w3.heap.size, 0, none⟩ 1 1 [(lowT n, z)] rfl rfl rfl (new_cells _ [.string (lowT n), .string z] _) (pp_one _) (by rw [hml]; simp only [maxLen]; omega) (by rw [hml]; omega) (bel_size hb13 (Nat.le_refl _) _) ?_); intro v3 w4 hown3 hg3)
                go_roundw
                case rel => exact ⟨k + 1, _, ts ++ [(n ++ ⟨#[61]⟩ ++ z, n, z)], by omega, by go_num, rfl, HK.out.next n z z HN.out hn30 HS8.out (.inl ⟨rfl, HZ.out⟩), by rw [List.map_append, HY.out]; exact hown3, (hb13.alloc hb13.size _).grown hg3 (bel_size hb13 (Nat.le_refl _) _) (fun k hk => (HO3.out.lt k hk).1)⟩
                case measure => simp [intOf]; omega
              · have tm : (k : Int).tmod 2 = 1 := by rw [Int.tmod_eq_emod_of_nonneg (by omega)]; omega
                go_wp2_with fail
                refine (HI.out _ (by omega)).mono ?_
                rintro e w' ⟨rfl, rfl⟩
                go_wp2_with fail
                refine (lower_any n _ (by omega)).mono ?_
                rintro e w3 ⟨rfl, b3⟩
                rw [show mkS (Tok.low (sl n)) = lowT n from rfl]
                have hb13 := hb12.trans (b3.mono hb12.size)
                have ho3 := (HO.out.below b2).below (b3.mono (Nat.le_refl _))
                rw [hml] at ho3
                have HO3 := Lib.hid ho3
                clear ho3
                go_wp2_with (at_builtin; go_must (refine wpList_append_owns rfl (.tmp 62) (.tmp 67) _ rfl w1.heap.size 49 (.agg #[.string ByteArray.empty, .string ByteArray.empty]) 2 32 e_ss Try.underlying48 parInfo rfl (by decide) _ ys rfl (HO3.out.alloc _) ⟨w3.heap.size, 0, none⟩ 1 1 [(lowT n, z)] rfl rfl rfl (new_cells _ [.string (lowT n), .string z] _) (pp_one _) (by rw [hml]; simp only [maxLen]; omega) (by rw [hml]; omega) (bel_size hb13 (Nat.le_refl _) _) ?_); intro v3 w4 hown3 hg3)
                go_roundw
                case rel => exact ⟨k + 1, _, ts ++ [(n ++ ⟨#[61]⟩ ++ q, n, z)], by omega, by go_num, rfl, HK.out.next n q z HN.out hn30 HS8.out (.inr ⟨HQ.out.symm, HPL.out⟩), by rw [List.map_append, HY.out]; exact hown3, (hb13.alloc hb13.size _).grown hg3 (bel_size hb13 (Nat.le_refl _) _) (fun k hk => (HO3.out.lt k hk).1)⟩
                case measure => simp [intOf]; omega
          · have d8 : decide ((800 : Int) < (s.size : Int) + (q.size : Int)) = true := by rw [decide_eq_true_eq]; omega
            go_wp2_with fail
            go_roundw
            case rel => exact ⟨k + 1, s, ts, by omega, by go_num, rfl, HK.out.skip, HH.out _ (by have := HO.out.below b2; rw [hml] at this; exact this), hb12⟩
            case measure => simp [intOf]; omega
        · go_wp2_with fail
          go_roundw
          case rel => exact ⟨k + 1, s, ts, by omega, by go_num, rfl, HK.out.skip, HH.out _ (by have := HO.out.below b2; rw [hml] at this; exact this), hb12⟩
          case measure => simp [intOf]; omega
      · go_wp2_with fail
        obtain ⟨z, hze⟩ : ∃ z : ByteArray, (⟨#[]⟩ : ByteArray) = z := ⟨_, rfl⟩
        rw [hze]
        have hz : z.size ≤ 140737488351232 := by rw [← hze]; decide
        clear hze
        refine (quote_any z _ hz).mono ?_
        rintro e w2 ⟨hqa, b2⟩
        have hb12 := hbel.trans (b2.mono hbel.size)
        rcases hqa with ⟨hz1k, hpl, rfl⟩ | ⟨_, cc, hc1, hc2, rfl⟩
        · have hql : (mkS (Tok.quoteL (sl z))).size = (Tok.quoteL (sl z)).length := mkS_size _
          have hqz : (mkS (Tok.quoteL (sl z))).size ≤ 2002 := by rw [hql]; have := escs_len2 (sl z); simp [Tok.quoteL]; omega
          have HN : Hid (Tok.isTok n = true) := hn
          have HPL := Lib.hid hpl
          obtain ⟨q, HQ⟩ : ∃ q, Hid (mkS (Tok.quoteL (sl z)) = q) := ⟨_, rfl⟩
          rw [HQ.out] at hql hqz ⊢
          have HQL := Lib.hid hql
          clear hpl hql hz1k
          by_cases h8 : s.size + q.size ≤ 800
          · have HS8 : Hid (s.size + (Tok.quoteL (sl z)).length ≤ 800) := by show _ ≤ _; rw [← HQL.out]; exact h8
            have d8 : decide ((800 : Int) < (s.size : Int) + (q.size : Int)) = false := by rw [decide_eq_false_iff_not]; omega
            have HI := Lib.hid (isToken_any z)
            cases hq : Tok.isTok z
            · rw [hq] at HI
              clear hq hn
              go_wp2_with fail
              refine (HI.out _ (by omega)).mono ?_
              rintro e w' ⟨rfl, rfl⟩
              go_wp2_with fail
              refine (lower_any n _ (by omega)).mono ?_
              rintro e w3 ⟨rfl, b3⟩
              rw [show mkS (Tok.low (sl n)) = lowT n from rfl]
              have hb13 := hb12.trans (b3.mono hb12.size)
              have ho3 := (HO.out.below b2).below (b3.mono (Nat.le_refl _))
              rw [hml] at ho3
              have HO3 := Lib.hid ho3
              clear ho3
              go_wp2_with (at_builtin; go_must (refine wpList_append_owns rfl (.tmp 62) (.tmp 67) _ rfl w1.heap.size 49 (.agg #[.string ByteArray.empty, .string ByteArray.empty]) 2 32 e_ss Try.underlying48 parInfo rfl (by decide) _ ys rfl (HO3.out.alloc _) ⟨w3.heap.size, 0, none⟩ 1 1 [(lowT n, z)] rfl rfl rfl (new_cells _ [.string (lowT n), .string z] _) (pp_one _) (by rw [hml]; simp only [maxLen]; omega) (by rw [hml]; omega) (bel_size hb13 (Nat.le_refl _) _) ?_); intro v3 w4 hown3 hg3)
              go_roundw
              case rel => exact ⟨k + 1, _, ts ++ [(n ++ ⟨#[61]⟩ ++ q, n, z)], by omega, by go_num, rfl, HK.out.next n q z HN.out hn30 HS8.out (.inr ⟨HQ.out.symm, HPL.out⟩), by rw [List.map_append, HY.out]; exact hown3, (hb13.alloc hb13.size _).grown hg3 (bel_size hb13 (Nat.le_refl _) _) (fun k hk => (HO3.out.lt k hk).1)⟩
              case measure => simp [intOf]; omega
            · rw [hq] at HI
              have HZ : Hid (Tok.isTok z = true) := hq
              clear hq hn
              rcases Nat.mod_two_eq_zero_or_one k with h2 | h2
              · have tm : (k : Int).tmod 2 = 0 := by rw [Int.tmod_eq_emod_of_nonneg (by omega)]; omega
                go_wp2_with fail
                refine (HI.out _ (by omega)).mono ?_
                rintro e w' ⟨rfl, rfl⟩
                go_wp2_with fail
                refine (lower_any n _ (by omega)).mono ?_
                rintro e w3 ⟨rfl, b3⟩
                rw [show mkS (Tok.low (sl n)) = lowT n from rfl]
                have hb13 := hb12.trans (b3.mono hb12.size)
                have ho3 := (HO.out.below b2).below (b3.mono (Nat.le_refl _))
                rw [hml] at ho3
                have HO3 := Lib.hid ho3
                clear ho3
                go_wp2_with (at_builtin; go_must (refine wpList_append_owns rfl (.tmp 62) (.tmp 67) _ rfl w1.heap.size 49 (.agg #[.string ByteArray.empty, .string ByteArray.empty]) 2 32 e_ss Try.underlying48 parInfo rfl (by decide) _ ys rfl (HO3.out.alloc _) ⟨w3.heap.size, 0, none⟩ 1 1 [(lowT n, z)] rfl rfl rfl (new_cells _ [.string (lowT n), .string z] _) (pp_one _) (by rw [hml]; simp only [maxLen]; omega) (by rw [hml]; omega) (bel_size hb13 (Nat.le_refl _) _) ?_); intro v3 w4 hown3 hg3)
                go_roundw
                case rel => exact ⟨k + 1, _, ts ++ [(n ++ ⟨#[61]⟩ ++ z, n, z)], by omega, by go_num, rfl, HK.out.next n z z HN.out hn30 HS8.out (.inl ⟨rfl, HZ.out⟩), by rw [List.map_append, HY.out]; exact hown3, (hb13.alloc hb13.size _).grown hg3 (bel_size hb13 (Nat.le_refl _) _) (fun k hk => (HO3.out.lt k hk).1)⟩
                case measure => simp [intOf]; omega
              · have tm : (k : Int).tmod 2 = 1 := by rw [Int.tmod_eq_emod_of_nonneg (by omega)]; omega
                go_wp2_with fail
                refine (HI.out _ (by omega)).mono ?_
                rintro e w' ⟨rfl, rfl⟩
                go_wp2_with fail
                refine (lower_any n _ (by omega)).mono ?_
                rintro e w3 ⟨rfl, b3⟩
                rw [show mkS (Tok.low (sl n)) = lowT n from rfl]
                have hb13 := hb12.trans (b3.mono hb12.size)
                have ho3 := (HO.out.below b2).below (b3.mono (Nat.le_refl _))
                rw [hml] at ho3
                have HO3 := Lib.hid ho3
                clear ho3
                go_wp2_with (at_builtin; go_must (refine wpList_append_owns rfl (.tmp 62) (.tmp 67) _ rfl w1.heap.size 49 (.agg #[.string ByteArray.empty, .string ByteArray.empty]) 2 32 e_ss Try.underlying48 parInfo rfl (by decide) _ ys rfl (HO3.out.alloc _) ⟨w3.heap.size, 0, none⟩ 1 1 [(lowT n, z)] rfl rfl rfl (new_cells _ [.string (lowT n), .string z] _) (pp_one _) (by rw [hml]; simp only [maxLen]; omega) (by rw [hml]; omega) (bel_size hb13 (Nat.le_refl _) _) ?_); intro v3 w4 hown3 hg3)
                go_roundw
                case rel => exact ⟨k + 1, _, ts ++ [(n ++ ⟨#[61]⟩ ++ q, n, z)], by omega, by go_num, rfl, HK.out.next n q z HN.out hn30 HS8.out (.inr ⟨HQ.out.symm, HPL.out⟩), by rw [List.map_append, HY.out]; exact hown3, (hb13.alloc hb13.size _).grown hg3 (bel_size hb13 (Nat.le_refl _) _) (fun k hk => (HO3.out.lt k hk).1)⟩
                case measure => simp [intOf]; omega
          · have d8 : decide ((800 : Int) < (s.size : Int) + (q.size : Int)) = true := by rw [decide_eq_true_eq]; omega
            go_wp2_with fail
            go_roundw
            case rel => exact ⟨k + 1, s, ts, by omega, by go_num, rfl, HK.out.skip, HH.out _ (by have := HO.out.below b2; rw [hml] at this; exact this), hb12⟩
            case measure => simp [intOf]; omega
        · go_wp2_with fail
          go_roundw
          case rel => exact ⟨k + 1, s, ts, by omega, by go_num, rfl, HK.out.skip, HH.out _ (by have := HO.out.below b2; rw [hml] at this; exact this), hb12⟩
          case measure => simp [intOf]; omega
    · have HW := Lib.hid (whole_cut ts HK.out.good)
      obtain ⟨ps, hps1, hps2⟩ := HW.out
      have HC := Lib.hid (fun wx => params_any s wx ps valueS ts (by omega) (by rw [HK.out.text]; exact hps1) hps2 (by rw [Tok.ne, ba_toList]; decide) (fun t ht => ⟨HK.out.good t ht, piece_ne (HK.out.good t ht)⟩) (by omega))
      rw [HY.out] at HC
      clear hps1 hps2 HW
      go_wp2_with fail
      refine (HC.out _).mono ?_
      rintro e w2 ⟨⟨u, rfl, ho2⟩, b2⟩
      have HO2 := Lib.hid ho2
      have HS2 := Lib.hid (SlR.of_owns ho2)
      have hs1 := SlR.of_owns (HO.out.below b2)
      rw [hml] at hs1
      have HS1E := Lib.hid hs1
      clear hs1
      have hv5 : valueS.toList = [118, 97, 108, 117, 101] := by rw [ba_toList]; decide
      go_wp2_with fail
      refine (eqPar_any _ _ ys ys _ HS2.out HS1E.out (by rw [hml]; omega) (by rw [hml]; omega)).mono ?_
      rintro e w3 ⟨rfl, b3⟩
      rw [decide_eq_true rfl]
      have hbz : Below w.heap.size w w3 := hb1.trans ((hbel.trans ((b2.mono hbel.size).trans (b3.mono (Nat.le_trans hbel.size b2.size)))).mono hb1.size)
      go_wp2_with fail
      go_ret
      exact ⟨rfl, hbz⟩
end Go.Proofs.Ytdoeipjcohkbeaa
