/- TagListBack: the law's walk. -/
import Derived.Test.YtpoaffhhkmochaaDoorTagX
import Derived.Test.YtpoaffhhkmochaaDoorTagM
import Derived.Test.YtpoaffhhkmochaaDoorEqTag
import Derived.Test.YtpoaffhhkmochaaDoorTwoOwn
import Derived.Test.YtpoaffhhkmochaaDoorRegionP
import Derived.Test.YtpoaffhhkmochaaDoorRest
import Derived.Test.YtpoaffhhkmochaaDoorJoin
namespace Go.Proofs.YtpoaffhhkmochaaDoor
set_option maxRecDepth 20000
open Go.RowKit
/-- The five gaps. -/
def gaps : List ByteArray := [⟨#[44]⟩, ⟨#[44, 32]⟩, ⟨#[32, 44, 9]⟩, ⟨#[44, 44]⟩, ⟨#[32, 44, 32, 44, 32]⟩]
theorem gaps_ok : ∀ g ∈ gaps, Tok.Gap (sl g) ∧ g.size ≤ 5 := by
  intro g hg
  simp only [gaps, List.mem_cons, List.not_mem_nil, or_false] at hg
  rcases hg with rfl | rfl | rfl | rfl | rfl
  · exact ⟨⟨by decide, [], [], rfl, rfl⟩, by decide⟩
  · exact ⟨⟨by decide, [], [32], rfl, rfl⟩, by decide⟩
  · exact ⟨⟨by decide, [32], [9], rfl, by decide⟩, by decide⟩
  · exact ⟨⟨by decide, [], [44], rfl, rfl⟩, by decide⟩
  · exact ⟨⟨by decide, [32], [32, 44, 32], rfl, by decide⟩, by decide⟩
theorem gap_cell (w : World) (k : Nat) (hk : k < 5) (t : TypeId) : ∃ G ∈ gaps, (w.alloc (.cells #[.string ⟨#[44]⟩, .string ⟨#[44, 32]⟩, .string ⟨#[32, 44, 9]⟩, .string ⟨#[44, 44]⟩, .string ⟨#[32, 44, 32, 44, 32]⟩] t)).cell? ⟨w.heap.size, k, none⟩ = some (.string G) := by
  have h := new_cells w [.string ⟨#[44]⟩, .string ⟨#[44, 32]⟩, .string ⟨#[32, 44, 9]⟩, .string ⟨#[44, 44]⟩, .string ⟨#[32, 44, 32, 44, 32]⟩] t k
  have e : ((⟨w.heap.size, 0, none⟩ : Addr).add k) = ⟨w.heap.size, k, none⟩ := by unfold Addr.add; split <;> simp_all
  rw [e] at h
  have hk' : k = 0 ∨ k = 1 ∨ k = 2 ∨ k = 3 ∨ k = 4 := by omega
  rcases hk' with rfl | rfl | rfl | rfl | rfl
  · exact ⟨⟨#[44]⟩, by simp [gaps], h _ rfl⟩
  · exact ⟨⟨#[44, 32]⟩, by simp [gaps], h _ rfl⟩
  · exact ⟨⟨#[32, 44, 9]⟩, by simp [gaps], h _ rfl⟩
  · exact ⟨⟨#[44, 44]⟩, by simp [gaps], h _ rfl⟩
  · exact ⟨⟨#[32, 44, 32, 44, 32]⟩, by simp [gaps], h _ rfl⟩
def tagTexts (ts : List Tg.Tag) : List ByteArray := ts.map (fun t => mkS (Tg.text t))
set_option maxRecDepth 100000 in
set_option maxHeartbeats 6400000 in
theorem tagListBack_walk (v : Value) (l : List Tg.Tag) (n : Int) (w : World) (h : SlR w e_bs v l) (hl : l.length * 24 ≤ 140737488351232) (hz : ∀ t ∈ l, t.2.size ≤ 9223372036854775807) (hn : Wide n) :
    Calls Tryd.prog 3 #[v, .int .i64 n] w fun e w' => e = .returned (.bool true) ∧ Below w.heap.size w w' := by
  have h0 := Int.emod_nonneg n (b := 5) (by omega)
  have h1 := Int.emod_lt_of_pos n (b := 5) (by omega)
  have hR := Lib.hid (rest_any n 5)
  obtain ⟨k, hk, hk5⟩ : ∃ k : Nat, n % 5 = (k : Int) ∧ k < 5 := ⟨(n % 5).toNat, by omega, by omega⟩
  rw [hk] at hR
  clear hk h0 h1
  have H2 := Lib.hid (fun hn => h.two (fun _ => rfl) hn)
  obtain ⟨A, c, rfl, hc, -⟩ := h
  obtain ⟨G, hG, hcell⟩ := gap_cell w k hk5 9
  obtain ⟨hgap, hg5⟩ := gaps_ok G hG
  have HGAP := Lib.hid hgap
  have b0 : Below w.heap.size w (w.alloc (.cells #[.string ⟨#[44]⟩, .string ⟨#[44, 32]⟩, .string ⟨#[32, 44, 9]⟩, .string ⟨#[44, 44]⟩, .string ⟨#[32, 44, 32, 44, 32]⟩] 9)) := (Below.refl _ _).alloc (Nat.le_refl _) _
  clear hG hgap
  go_enter Tryd.func3, Tryd.ntmps3
  go_wp2_with fail
  refine (hR.out _ hn (by omega)).mono ?_
  rintro e w' ⟨rfl, rfl⟩
  clear hR
  generalize w.alloc (.cells #[.string ⟨#[44]⟩, .string ⟨#[44, 32]⟩, .string ⟨#[32, 44, 9]⟩, .string ⟨#[44, 44]⟩, .string ⟨#[32, 44, 32, 44, 32]⟩] 9) = w1 at *
  go_wp2_with fail
  clear hcell hk5
  go_loopw [6, 7, 8, 26] (fun tx ts tot i wr => ∃ k : Nat, k ≤ l.length ∧ i = .int .i64 k ∧ tot = .int .i64 (Tg.takes (l.take k)).2 ∧ Owns wr w.heap.size 9 1 es tx (tagTexts (Tg.takes (l.take k)).1) ∧ Owns wr w.heap.size 26 2 e_bs ts (Tg.takes (l.take k)).1 ∧ Below w.heap.size w wr) (fun _ _ _ i _ => l.length - (intOf i).toNat)
  case atStart => exact ⟨0, by omega, rfl, rfl, Owns.nil .., Owns.nil .., b0⟩
  case round =>
    obtain ⟨k, hk, rfl, rfl, hoA, hoB, hbel⟩ := hrel
    have HT := Tg.took (l.take k)
    have HS := Lib.hid (fun hlt : k < l.length => Tg.takes_snoc hlt)
    have HTL : (tagTexts (Tg.takes (l.take k)).1).length = (Tg.takes (l.take k)).1.length := List.length_map ..
    by_cases hlt : k < l.length
    · have HS' := Lib.hid (HS.out hlt)
      obtain ⟨p, hp⟩ : ∃ p, Tg.takes (l.take k) = p := ⟨_, rfl⟩
      rw [hp] at hoA hoB HT HS' HTL ⊢
      clear hp HS
      obtain ⟨ts, tot⟩ := p
      dsimp only at hoA hoB HTL ⊢
      have hn20 : ts.length ≤ 20 := HT.n20
      have htot : tot < 800 := HT.lt
      obtain ⟨xs, HX⟩ : ∃ xs, Hid (tagTexts ts = xs) := ⟨_, rfl⟩
      rw [HX.out] at hoA HTL
      have HA := Lib.hid hoA
      have HB := Lib.hid hoB
      obtain ⟨A1, c1, hv1⟩ := hoA.slice
      subst hv1
      obtain ⟨A2, c2, hv2⟩ := hoB.slice
      subst hv2
      clear hoA hoB HT
      obtain ⟨b, off, c', he, hbb, hcell⟩ := H2.out (by omega)
      obtain ⟨rfl, rfl⟩ : A = some ⟨b, off, none⟩ ∧ c = c' := by injection he with h1 h2 h3; exact ⟨h1, h3⟩
      obtain ⟨q0, q1⟩ := hcell k hlt (.bool l[k].1) (.string l[k].2) rfl rfl
      have d0 := (hbel.cell (p := ⟨b, off + k * 2, none⟩) hbb).trans q0
      have d1 := (hbel.cell (p := ⟨b, off + k * 2 + 1, none⟩) hbb).trans q1
      have hs := hz _ (List.getElem_mem hlt)
      clear hcell q0 q1 he
      generalize l[k] = t at *
      obtain ⟨wk, a⟩ := t
      dsimp only at d0 d1 hs
      go_wp2_with fail
      refine (tagPrint_any wk a _ (by omega)).mono ?_
      rintro e w2 ⟨hpr, b2⟩
      have hbt := hbel.alloc hbel.size (.cells #[.bool wk, .string a] 26)
      have hb2 := hbt.trans (b2.mono hbt.size)
      have HA2 := Lib.hid ((HA.out.alloc (.cells #[.bool wk, .string a] 26)).below b2)
      have HB2 := Lib.hid ((HB.out.alloc (.cells #[.bool wk, .string a] 26)).below b2)
      have e0 : w2.cell? ⟨wr.heap.size, 0, none⟩ = some (.bool wk) := (b2.cell (by simp)).trans (by go_simp)
      have e1 : w2.cell? ⟨wr.heap.size, 1, none⟩ = some (.string a) := (b2.cell (by simp)).trans (by go_simp)
      have hsz2 : wr.heap.size < w2.heap.size := by have := b2.size; simp at this; omega
      rcases hpr with ⟨hg, rfl⟩ | ⟨hng, cc, hc1, hc2, rfl⟩
      · have HGD := Lib.hid hg
        have hpz : (mkS (Tg.text (wk, a))).size = (Tg.text (wk, a)).length := mkS_size _
        obtain ⟨P, HP⟩ : ∃ P, Hid (mkS (Tg.text (wk, a)) = P) := ⟨_, rfl⟩
        rw [HP.out] at hpz ⊢
        have HPZ := Lib.hid hpz
        have hP : P.size ≤ 104 := by rw [← HP.out]; exact text_size _ hg
        clear hg hpz
        by_cases h20 : ts.length < 20
        · have dl : decide ((ts.length : Int) < 20) = true := decide_eq_true (by omega)
          have dl' : decide (ts.length < 20) = true := decide_eq_true (by omega)
          by_cases h8 : tot + P.size < 800
          · have dt : decide ((tot : Int) + (P.size : Int) < 800) = true := decide_eq_true (by omega)
            have HST : Hid (Tg.takeS (ts, tot) (wk, a) = (ts ++ [(wk, a)], tot + P.size)) := by
              show _ = _; unfold Tg.takeS; rw [if_pos ⟨HGD.out, h20, by rw [← HPZ.out]; exact h8⟩, ← HPZ.out]
            go_wp2_with fail
            have HA3 : Hid (Owns w2 w.heap.size 9 1 es (.slice A1 ts.length c1) xs) := by have := HA2.out; rw [HTL] at this; exact this
            have HAr : Hid (Owns wr w.heap.size 9 1 es (.slice A1 ts.length c1) xs) := by have := HA.out; rw [HTL] at this; exact this
            have HBr : Hid (Owns wr w.heap.size 26 2 e_bs (.slice A2 ts.length c2) ts) := HB.out
            have HTX : Hid (tagTexts (ts ++ [(wk, a)]) = xs ++ [P]) := by show _ = _; unfold tagTexts at HX ⊢; rw [List.map_append, HX.out, List.map_singleton, HP.out]
            have kd : KS w wr.heap.size (.bool wk) (.string a) w2 := ⟨hb2, hsz2, e0, e1⟩
            refine wp_region_plan (.take 0 (.take 1 (.take 4 (.take 5 (.two 2 (.two 3 (.eff 6 (.eff 7 (.take 8 (.take 9 .nil)))) 6 (.eff 3 (.eff 7 (.take 8 (.take 9 .nil))))) 6 (.eff 2 (.eff 3 (.eff 7 (.take 8 (.take 9 .nil)))))))))) (KS w wr.heap.size (.bool wk) (.string a)) (by kernel_rfl) (by kernel_rfl) (fun _ _ _ _ _ h => h) (by kernel_rfl) (by kernel_rfl) kd.drew ?_
            iterate 4 (first | (apply seqP_skip; (focus (simp only [List.getElem?_toArray, List.getElem?_cons_succ, List.getElem?_cons_zero]; rfl)); (focus rfl); simp only [Act.put, List.setIfInBounds_toArray, List.set_cons_zero, List.set_cons_succ]) | (apply seqP_take; (focus (simp only [List.getElem?_toArray, List.getElem?_cons_succ, List.getElem?_cons_zero]; rfl)); (focus rfl); (focus (intro w' hS; obtain ⟨_, _, k0, k1⟩ := hS; first | (go_simp; rfl) | (go_simp; done))); simp only [Act.put, List.setIfInBounds_toArray, List.set_cons_zero, List.set_cons_succ]))
            apply seqP_two
            (focus (simp only [List.getElem?_toArray, List.getElem?_cons_succ, List.getElem?_cons_zero]; rfl))
            (focus (simp only [List.getElem?_toArray, List.getElem?_cons_succ, List.getElem?_cons_zero]; rfl))
            (focus rfl)
            (focus rfl)
            · intro K hK
              go_simp
              have sA : KS w wr.heap.size (.bool wk) (.string a) (w2.alloc (.cells #[.string P] 9)).drew := (kd.alloc _).drew
              refine hK _ _ ⟨sA, ?_⟩
              clear hK K
              have HNA := Lib.hid (SlR.lit (enc := es) w2 [.string P] 9 [P] rfl).drew
              have OA := Lib.hid (HA3.out.alloc (.cells #[.string P] 9)).drew
              have OB := Lib.hid (HB2.out.alloc (.cells #[.string P] 9)).drew
              change Hid (SlR (w2.alloc (.cells #[.string P] 9)).drew es _ _) at HNA
              generalize (w2.alloc (.cells #[.string P] 9)).drew = wA at *
              apply seqP_two
              (focus (simp only [List.getElem?_toArray, List.getElem?_cons_succ, List.getElem?_cons_zero]; rfl))
              (focus (simp only [List.getElem?_toArray, List.getElem?_cons_succ, List.getElem?_cons_zero]; rfl))
              (focus rfl)
              (focus rfl)
              · intro K hK
                refine wp_append_owns (.tmp 49) (.tmp 51) _ rfl w.heap.size 9 (.string ByteArray.empty) 1 16 es Tryd.underlying23 stringInfo rfl (by decide) (fun _ => rfl) _ xs rfl OA.out _ [P] rfl HNA.out (es_one _) (by rw [HTL]; simp only [maxLen, List.length_cons, List.length_nil]; omega) (by rw [HTL]; simp only [List.length_cons, List.length_nil]; omega) sA.bel.size ?_
                intro v1 wB hoA2 hgA
                have sB := sA.grown hgA (fun k hk => (OA.out.lt k hk).1) (fun e => absurd (HAr.out.lt _ e.symm).2 (Nat.lt_irrefl _))
                have OB2 := Lib.hid (OB.out.grownOther hgA (OB.out.apart OA.out (by decide)))
                have OA2 := Lib.hid hoA2
                clear hoA2 hgA
                refine hK _ _ ⟨sB, ?_⟩
                clear hK K
                apply seqP_eff
                (focus (simp only [List.getElem?_toArray, List.getElem?_cons_succ, List.getElem?_cons_zero]; rfl))
                (focus rfl)
                intro K hK
                go_simp
                have sC := sB.alloc (.cells #[.bool wk, .string a] 26)
                refine hK _ _ ⟨sC, ?_⟩
                clear hK K
                apply seqP_eff
                (focus (simp only [List.getElem?_toArray, List.getElem?_cons_succ, List.getElem?_cons_zero]; rfl))
                (focus rfl)
                intro K hK
                refine wp_append_owns (.tmp 53) (.tmp 55) _ rfl w.heap.size 26 (.agg #[.bool false, .string ByteArray.empty]) 2 24 e_bs Tryd.underlying22 tagInfo rfl (by decide) (fun _ => rfl) _ ts rfl (OB2.out.alloc _) _ [(wk, a)] rfl (SlR.lit (enc := e_bs) wB [.bool wk, .string a] _ [(wk, a)] rfl) (bs_one _) (by simp only [maxLen, List.length_cons, List.length_nil]; omega) (by simp only [List.length_cons, List.length_nil]; omega) sC.bel.size ?_
                intro v2 wC hoB3 hgB
                have sD := sC.grown hgB (fun k hk => (OB2.out.lt k hk).1) (fun e => absurd (HBr.out.lt _ e.symm).2 (Nat.lt_irrefl _))
                have OA3 := Lib.hid ((OA2.out.alloc (.cells #[.bool wk, .string a] 26)).grownOther hgB ((OA2.out.alloc (.cells #[.bool wk, .string a] 26)).apart (OB2.out.alloc (.cells #[.bool wk, .string a] 26)) (by decide)))
                have OB3 := Lib.hid hoB3
                clear hoB3 hgB
                refine hK _ _ ⟨sD, ?_⟩
                clear hK K
                iterate 2 (first | (apply seqP_skip; (focus (simp only [List.getElem?_toArray, List.getElem?_cons_succ, List.getElem?_cons_zero]; rfl)); (focus rfl); simp only [Act.put, List.setIfInBounds_toArray, List.set_cons_zero, List.set_cons_succ]) | (apply seqP_take; (focus (simp only [List.getElem?_toArray, List.getElem?_cons_succ, List.getElem?_cons_zero]; rfl)); (focus rfl); (focus (intro w' hS; skip; first | (go_simp; rfl) | (go_simp; done))); simp only [Act.put, List.setIfInBounds_toArray, List.set_cons_zero, List.set_cons_succ]))
                refine seqP_nil ?_
                go_wp2_with fail
                go_roundw
                case rel => exact ⟨k + 1, by omega, by go_num, by rw [HS'.out, HST.out]; go_num, by rw [HS'.out, HST.out, HTX.out]; exact OA3.out, by rw [HS'.out, HST.out]; exact OB3.out, sD.bel⟩
                case measure => simp [intOf]; omega
              · intro K hK
                go_simp
                have sB := sA.alloc (.cells #[.bool wk, .string a] 26)
                refine hK _ _ ⟨sB, ?_⟩
                clear hK K
                apply seqP_eff
                (focus (simp only [List.getElem?_toArray, List.getElem?_cons_succ, List.getElem?_cons_zero]; rfl))
                (focus rfl)
                intro K hK
                refine wp_append_owns (.tmp 49) (.tmp 51) _ rfl w.heap.size 9 (.string ByteArray.empty) 1 16 es Tryd.underlying23 stringInfo rfl (by decide) (fun _ => rfl) _ xs rfl (OA.out.alloc _) _ [P] rfl (HNA.out.below ((Below.refl _ wA).alloc (Nat.le_refl _) (.cells #[.bool wk, .string a] 26))) (es_one _) (by rw [HTL]; simp only [maxLen, List.length_cons, List.length_nil]; omega) (by rw [HTL]; simp only [List.length_cons, List.length_nil]; omega) sB.bel.size ?_
                intro v1 wC hoA2 hgA
                have sC := sB.grown hgA (fun k hk => (OA.out.lt k hk).1) (fun e => absurd (HAr.out.lt _ e.symm).2 (Nat.lt_irrefl _))
                have OB2 := Lib.hid ((OB.out.alloc (.cells #[.bool wk, .string a] 26)).grownOther hgA ((OB.out.alloc (.cells #[.bool wk, .string a] 26)).apart (OA.out.alloc (.cells #[.bool wk, .string a] 26)) (by decide)))
                have HNB := Lib.hid ((SlR.lit (enc := e_bs) wA [.bool wk, .string a] 26 [(wk, a)] rfl).grown hgA (fun e => absurd (OA.out.lt _ e.symm).2 (Nat.lt_irrefl _)))
                have OA2 := Lib.hid hoA2
                clear hoA2 hgA
                refine hK _ _ ⟨sC, ?_⟩
                clear hK K
                apply seqP_eff
                (focus (simp only [List.getElem?_toArray, List.getElem?_cons_succ, List.getElem?_cons_zero]; rfl))
                (focus rfl)
                intro K hK
                refine wp_append_owns (.tmp 53) (.tmp 55) _ rfl w.heap.size 26 (.agg #[.bool false, .string ByteArray.empty]) 2 24 e_bs Tryd.underlying22 tagInfo rfl (by decide) (fun _ => rfl) _ ts rfl OB2.out _ [(wk, a)] rfl HNB.out (bs_one _) (by simp only [maxLen, List.length_cons, List.length_nil]; omega) (by simp only [List.length_cons, List.length_nil]; omega) sC.bel.size ?_
                intro v2 wD hoB3 hgB
                have sD := sC.grown hgB (fun k hk => (OB2.out.lt k hk).1) (fun e => absurd (HBr.out.lt _ e.symm).2 (Nat.lt_irrefl _))
                have OA3 := Lib.hid (OA2.out.grownOther hgB (OA2.out.apart OB2.out (by decide)))
                have OB3 := Lib.hid hoB3
                clear hoB3 hgB
                refine hK _ _ ⟨sD, ?_⟩
                clear hK K
                iterate 2 (first | (apply seqP_skip; (focus (simp only [List.getElem?_toArray, List.getElem?_cons_succ, List.getElem?_cons_zero]; rfl)); (focus rfl); simp only [Act.put, List.setIfInBounds_toArray, List.set_cons_zero, List.set_cons_succ]) | (apply seqP_take; (focus (simp only [List.getElem?_toArray, List.getElem?_cons_succ, List.getElem?_cons_zero]; rfl)); (focus rfl); (focus (intro w' hS; skip; first | (go_simp; rfl) | (go_simp; done))); simp only [Act.put, List.setIfInBounds_toArray, List.set_cons_zero, List.set_cons_succ]))
                refine seqP_nil ?_
                go_wp2_with fail
                go_roundw
                case rel => exact ⟨k + 1, by omega, by go_num, by rw [HS'.out, HST.out]; go_num, by rw [HS'.out, HST.out, HTX.out]; exact OA3.out, by rw [HS'.out, HST.out]; exact OB3.out, sD.bel⟩
                case measure => simp [intOf]; omega
            · intro K hK
              go_simp
              have sA : KS w wr.heap.size (.bool wk) (.string a) (w2.alloc (.cells #[.bool wk, .string a] 26)).drew := (kd.alloc _).drew
              refine hK _ _ ⟨sA, ?_⟩
              clear hK K
              have HNB := Lib.hid (SlR.lit (enc := e_bs) w2 [.bool wk, .string a] 26 [(wk, a)] rfl).drew
              have OA := Lib.hid (HA3.out.alloc (.cells #[.bool wk, .string a] 26)).drew
              have OB := Lib.hid (HB2.out.alloc (.cells #[.bool wk, .string a] 26)).drew
              change Hid (SlR (w2.alloc (.cells #[.bool wk, .string a] 26)).drew e_bs _ _) at HNB
              generalize (w2.alloc (.cells #[.bool wk, .string a] 26)).drew = wA at *
              apply seqP_eff
              (focus (simp only [List.getElem?_toArray, List.getElem?_cons_succ, List.getElem?_cons_zero]; rfl))
              (focus rfl)
              intro K hK
              go_simp
              have sB := sA.alloc (.cells #[.string P] 9)
              refine hK _ _ ⟨sB, ?_⟩
              clear hK K
              apply seqP_eff
              (focus (simp only [List.getElem?_toArray, List.getElem?_cons_succ, List.getElem?_cons_zero]; rfl))
              (focus rfl)
              intro K hK
              refine wp_append_owns (.tmp 49) (.tmp 51) _ rfl w.heap.size 9 (.string ByteArray.empty) 1 16 es Tryd.underlying23 stringInfo rfl (by decide) (fun _ => rfl) _ xs rfl (OA.out.alloc _) _ [P] rfl (SlR.lit (enc := es) wA [.string P] _ [P] rfl) (es_one _) (by rw [HTL]; simp only [maxLen, List.length_cons, List.length_nil]; omega) (by rw [HTL]; simp only [List.length_cons, List.length_nil]; omega) sB.bel.size ?_
              intro v1 wC hoA2 hgA
              have sC := sB.grown hgA (fun k hk => (OA.out.lt k hk).1) (fun e => absurd (HAr.out.lt _ e.symm).2 (Nat.lt_irrefl _))
              have OB2 := Lib.hid ((OB.out.alloc (.cells #[.string P] 9)).grownOther hgA ((OB.out.alloc (.cells #[.string P] 9)).apart (OA.out.alloc (.cells #[.string P] 9)) (by decide)))
              have HNB2 := Lib.hid ((HNB.out.below ((Below.refl _ wA).alloc (Nat.le_refl _) (.cells #[.string P] 9))).grown hgA (fun e => absurd (HA3.out.lt _ e.symm).2 (Nat.lt_irrefl _)))
              have OA2 := Lib.hid hoA2
              clear hoA2 hgA
              refine hK _ _ ⟨sC, ?_⟩
              clear hK K
              apply seqP_eff
              (focus (simp only [List.getElem?_toArray, List.getElem?_cons_succ, List.getElem?_cons_zero]; rfl))
              (focus rfl)
              intro K hK
              refine wp_append_owns (.tmp 53) (.tmp 55) _ rfl w.heap.size 26 (.agg #[.bool false, .string ByteArray.empty]) 2 24 e_bs Tryd.underlying22 tagInfo rfl (by decide) (fun _ => rfl) _ ts rfl OB2.out _ [(wk, a)] rfl HNB2.out (bs_one _) (by simp only [maxLen, List.length_cons, List.length_nil]; omega) (by simp only [List.length_cons, List.length_nil]; omega) sC.bel.size ?_
              intro v2 wD hoB3 hgB
              have sD := sC.grown hgB (fun k hk => (OB2.out.lt k hk).1) (fun e => absurd (HBr.out.lt _ e.symm).2 (Nat.lt_irrefl _))
              have OA3 := Lib.hid (OA2.out.grownOther hgB (OA2.out.apart OB2.out (by decide)))
              have OB3 := Lib.hid hoB3
              clear hoB3 hgB
              refine hK _ _ ⟨sD, ?_⟩
              clear hK K
              iterate 2 (first | (apply seqP_skip; (focus (simp only [List.getElem?_toArray, List.getElem?_cons_succ, List.getElem?_cons_zero]; rfl)); (focus rfl); simp only [Act.put, List.setIfInBounds_toArray, List.set_cons_zero, List.set_cons_succ]) | (apply seqP_take; (focus (simp only [List.getElem?_toArray, List.getElem?_cons_succ, List.getElem?_cons_zero]; rfl)); (focus rfl); (focus (intro w' hS; skip; first | (go_simp; rfl) | (go_simp; done))); simp only [Act.put, List.setIfInBounds_toArray, List.set_cons_zero, List.set_cons_succ]))
              refine seqP_nil ?_
              go_wp2_with fail
              go_roundw
              case rel => exact ⟨k + 1, by omega, by go_num, by rw [HS'.out, HST.out]; go_num, by rw [HS'.out, HST.out, HTX.out]; exact OA3.out, by rw [HS'.out, HST.out]; exact OB3.out, sD.bel⟩
              case measure => simp [intOf]; omega
          · have dt : decide ((tot : Int) + (P.size : Int) < 800) = false := decide_eq_false (by omega)
            have HST : Hid (Tg.takeS (ts, tot) (wk, a) = (ts, tot)) := by
              show _ = _; unfold Tg.takeS; rw [if_neg (fun hh => h8 (by have := hh.2.2; rw [← HPZ.out] at this; exact this))]
            go_wp2_with fail
            go_roundw
            case rel => exact ⟨k + 1, by omega, by go_num, by rw [HS'.out, HST.out], by rw [HS'.out, HST.out, HX.out]; have := HA2.out; rw [HTL] at this; exact this, by rw [HS'.out, HST.out]; exact HB2.out, hb2⟩
            case measure => simp [intOf]; omega
        · have dl : decide ((ts.length : Int) < 20) = false := decide_eq_false (by omega)
          have dl' : decide (ts.length < 20) = false := decide_eq_false (by omega)
          have HST : Hid (Tg.takeS (ts, tot) (wk, a) = (ts, tot)) := by
            show _ = _; unfold Tg.takeS; rw [if_neg (fun hh => h20 hh.2.1)]
          go_wp2_with fail
          go_roundw
          case rel => exact ⟨k + 1, by omega, by go_num, by rw [HS'.out, HST.out], by rw [HS'.out, HST.out, HX.out]; have := HA2.out; rw [HTL] at this; exact this, by rw [HS'.out, HST.out]; exact HB2.out, hb2⟩
          case measure => simp [intOf]; omega
      · have dc : (cc == 0) = false := by rw [beq_eq_false_iff_ne]; omega
        have HST : Hid (Tg.takeS (ts, tot) (wk, a) = (ts, tot)) := by
          show _ = _; unfold Tg.takeS; rw [if_neg (fun hh => hng hh.1)]
        clear hng
        go_wp2_with fail
        go_roundw
        case rel => exact ⟨k + 1, by omega, by go_num, by rw [HS'.out, HST.out], by rw [HS'.out, HST.out, HX.out]; have := HA2.out; rw [HTL] at this; exact this, by rw [HS'.out, HST.out]; exact HB2.out, hb2⟩
        case measure => simp [intOf]; omega
    · have hE : l.take k = l := List.take_of_length_le (by omega)
      rw [hE] at hoA hoB HT HTL
      rw [hE]
      obtain ⟨p, hp⟩ : ∃ p, Tg.takes l = p := ⟨_, rfl⟩
      rw [hp] at hoA hoB HT HTL ⊢
      clear hp HS hE
      obtain ⟨ts, tot⟩ := p
      dsimp only at hoA hoB HTL ⊢
      have hn20 : ts.length ≤ 20 := HT.n20
      have HA := Lib.hid hoA
      have HB := Lib.hid hoB
      obtain ⟨A1, c1, hv1⟩ := hoA.slice
      subst hv1
      obtain ⟨A2, c2, hv2⟩ := hoB.slice
      subst hv2
      clear hoA hoB
      by_cases h0 : ts = []
      · have hl0 : ((ts.length : Int) == 0) = true := by rw [h0]; rfl
        have hl1 : ts.length = 0 := by rw [h0]; rfl
        clear HT h0
        go_wp2_with fail
        refine (list_any ⟨#[42]⟩ _).mono ?_
        rintro e w2 ⟨ha, b2⟩
        have hb2 := hbel.trans (b2.mono hbel.size)
        have ha' : e = .returned (.tuple #[.slice none 0 0, .bool true, .int .i64 0]) := by
          rcases ha with ⟨c, hc, _⟩ | ⟨_, he⟩ | ⟨l', v', hc, _⟩
          · have := hc.symm.trans Tg.listF_star; cases this
          · exact he
          · have := hc.symm.trans Tg.listF_star; injection this with this; cases this
        subst ha'
        clear ha
        go_wp2_with fail
        go_ret
        exact ⟨rfl, hb2⟩
      · have hl0 : ((ts.length : Int) == 0) = false := by
          have : ts.length ≠ 0 := fun h => h0 (List.length_eq_zero_iff.1 h)
          rw [beq_eq_false_iff_ne]; omega
        have hjn : Hid (sl (joinS (tagTexts ts) G ++ G) = (ts.map (fun t => Tg.text t ++ sl G)).flatten) := by
          show _ = _
          rw [sl_append]
          unfold joinS joinL tagTexts
          rw [sl_mkS]
          have e : ((ts.map (fun t => mkS (Tg.text t))).map sl) = ts.map Tg.text := by
            rw [List.map_map]; exact List.map_congr_left (fun t _ => sl_mkS _)
          rw [e, Tok.joined (ts.map Tg.text) (by intro h; exact h0 (List.map_eq_nil_iff.1 h)), List.map_map]
          rfl
        have hjl : Hid (((ts.map (fun t => Tg.text t ++ sl G)).flatten).length ≤ 1000) := by
          show _ ≤ _
          have h1 := HT.sum
          have h2 := HT.lt
          have h3 : (sl G).length * ts.length ≤ 5 * 20 := Nat.mul_le_mul (by rw [sl_len]; exact hg5) hn20
          dsimp only at h1 h2
          rw [Tg.joined_len]; omega
        have HF : Hid (Tg.listF (sl (joinS (tagTexts ts) G ++ G)) = .ok (false, ts)) := by
          show _ = _
          rw [hjn.out]
          exact Tg.listF_joined HGAP.out ts HT.all h0 hn20 hjl.out
        have hjs : (joinS (tagTexts ts) G).size + G.size ≤ 1000 := by
          rw [← ByteArray.size_append, ← sl_len, hjn.out]; exact hjl.out
        have hjj : (joinL (tagTexts ts) G).length ≤ 140737488351232 := by
          have : (joinS (tagTexts ts) G).size = (joinL (tagTexts ts) G).length := by unfold joinS; exact mkS_size _
          omega
        clear HT h0 hjn hjl
        go_wp2_with fail
        refine (join_any _ (tagTexts ts) G _ (SlR.of_owns (by have := HA.out; rw [HTL] at this; exact this)) (by omega) hjj).mono ?_
        rintro e w2 ⟨rfl, b2⟩
        have hb2 := hbel.trans (b2.mono hbel.size)
        have HB2 := Lib.hid (HB.out.below b2)
        generalize joinS (tagTexts ts) G = J at *
        have hJ : J.size + G.size ≤ 9223372036854775807 := by omega
        go_wp2_with fail
        refine (list_any (J ++ G) _).mono ?_
        rintro e w3 ⟨ha, b3⟩
        have hb3 := hb2.trans (b3.mono hb2.size)
        have ha' : ∃ v', e = .returned (.tuple #[v', .bool false, .int .i64 0]) ∧ Owns w3 w2.heap.size 26 2 e_bs v' ts := by
          rcases ha with ⟨c, hc, _⟩ | ⟨hc, he⟩ | ⟨l', v', hc, he, ho⟩
          · have := hc.symm.trans HF.out; cases this
          · have := hc.symm.trans HF.out; injection this with this; injection this with this; cases this
          · have := hc.symm.trans HF.out
            injection this with this
            injection this with _ this
            subst this
            exact ⟨v', he, ho⟩
        obtain ⟨v', rfl, ho⟩ := ha'
        have HV := Lib.hid (SlR.of_owns ho)
        have HB3 := Lib.hid (SlR.of_owns (HB2.out.below b3))
        clear ha ho
        go_wp2_with fail
        refine (eqTag_any v' _ ts ts _ HV.out HB3.out (by omega) (by omega)).mono ?_
        rintro e w4 ⟨rfl, b4⟩
        rw [decide_eq_true rfl]
        go_wp2_with fail
        go_ret
        exact ⟨rfl, hb3.trans (b4.mono hb3.size)⟩
end Go.Proofs.YtpoaffhhkmochaaDoor
