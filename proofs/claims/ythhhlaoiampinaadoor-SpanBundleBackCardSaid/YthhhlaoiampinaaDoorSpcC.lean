/- What span's ParseContent answers. -/
import Derived.Test.YthhhlaoiampinaaDoorSpcB
import Derived.Test.YthhhlaoiampinaaDoorCut1
namespace Go.Proofs.YthhhlaoiampinaaDoor
open Go.RowKit
namespace Spc
def unitL : List UInt8 := [98, 121, 116, 101, 115, 32]
def CutS (c : UInt8) (r l a : ByteArray) (b : Bool) : Prop := (b = true ∧ cutC c (sl r) = some (sl l, sl a)) ∨ (b = false ∧ cutC c (sl r) = none)
theorem cutS_any (s : ByteArray) (c : UInt8) (w : World) (hs : s.size ≤ 140737488351232) :
    Calls Tryd.prog 21 #[.string s, .string ⟨#[c]⟩] w fun e w' => (∃ l a b, e = .returned (.tuple #[.string l, .string a, .bool b]) ∧ CutS c s l a b ∧ l.size ≤ s.size ∧ a.size ≤ s.size) ∧ Below w.heap.size w w' := by
  refine (cut_one s c w hs).mono fun e w' ⟨h, hb⟩ => ⟨?_, hb⟩
  rcases h with ⟨a, b, h1, h2, rfl⟩ | ⟨h1, rfl⟩
  · have := congrArg List.length h1
    rw [sl_len, List.length_append, List.length_cons] at this
    refine ⟨_, _, _, rfl, .inl ⟨rfl, ?_⟩, by rw [mkS_size]; omega, by rw [mkS_size]; omega⟩
    rw [sl_mkS, sl_mkS]
    exact cutC_some h1 h2
  · exact ⟨_, _, _, rfl, .inr ⟨rfl, cutC_none h1⟩, Nat.le_refl _, Nat.zero_le _⟩
def PreS (s r : ByteArray) (is : Bool) : Prop := (is = true ∧ sl s = [98, 121, 116, 101, 115, 32] ++ sl r) ∨ (is = false ∧ ∀ r', sl s ≠ [98, 121, 116, 101, 115, 32] ++ r')
theorem preS_any (s : ByteArray) (w : World) :
    Calls Tryd.prog 20 #[.string s, .string ⟨#[98, 121, 116, 101, 115, 32]⟩] w fun e w' => (∃ r is, e = .returned (.tuple #[.string r, .bool is]) ∧ PreS s r is ∧ r.size ≤ s.size) ∧ w' = w := by
  refine (Tryd.strings_CutPrefix s ⟨#[98, 121, 116, 101, 115, 32]⟩ w).mono fun e w' ⟨he, hw⟩ => ⟨⟨_, _, he, ?_⟩, hw⟩
  cases hp : Lib.hasPrefix s.data.toList [98, 121, 116, 101, 115, 32] with
  | true =>
    obtain ⟨t, ht⟩ := List.isPrefixOf_iff_prefix.1 hp
    have h1 : Lib.trimPrefix s.data.toList [98, 121, 116, 101, 115, 32] = t := by unfold Lib.trimPrefix; rw [if_pos hp, ← ht]; rfl
    refine ⟨.inl ⟨rfl, ?_⟩, ?_⟩
    · show sl s = _ ++ sl (mkS (Lib.trimPrefix s.data.toList [98, 121, 116, 101, 115, 32]))
      rw [h1, sl_mkS]; exact ht.symm
    · show (mkS (Lib.trimPrefix s.data.toList [98, 121, 116, 101, 115, 32])).size ≤ _
      rw [h1, mkS_size, ← sl_len]
      show _ ≤ s.data.toList.length
      rw [← ht, List.length_append]; omega
  | false =>
    have h1 : Lib.trimPrefix s.data.toList [98, 121, 116, 101, 115, 32] = s.data.toList := by unfold Lib.trimPrefix; rw [if_neg (by rw [hp]; simp)]
    refine ⟨.inr ⟨rfl, fun r' h => ?_⟩, ?_⟩
    · have : Lib.hasPrefix s.data.toList [98, 121, 116, 101, 115, 32] = true := List.isPrefixOf_iff_prefix.2 ⟨r', h.symm⟩
      rw [hp] at this; cases this
    · show (mkS (Lib.trimPrefix s.data.toList [98, 121, 116, 101, 115, 32])).size ≤ _
      rw [h1, mkS_size]; exact Nat.le_of_eq (sl_len s)
theorem below_setRowC {B : Nat} {a w : World} (h : Below B a w) {g : Nat} (hg : B ≤ g) (cs : Array Value) : Below B a (w.setRow g cs) :=
  h.trans ⟨rfl, rfl, rfl, by simp, fun k hk => setRow_other _ _ _ _ (by omega)⟩
theorem results_ctt {fn : Func} {p u v : Tmp} {ty : TypeId} (h : fn.results = #[.cell p ty, .tmp u, .tmp v]) (tmps : Array Value) (P : Program) (w : World) (g : Nat) (t : TypeId) (cs : Array Value) (fr : Nat × Nat) (fs : Array Field)
    (hp : tmps.getD p undef = .pointer (some ⟨g, 0, none⟩)) (hg : w.heap[g]? = some (.cells cs t fr))
    (hu : P.underlying ty = some (.struct fs)) (hi : (P.info? ty).map (·.size) = some cs.size) :
    (results fn tmps).run P w = .ok (.tuple #[.agg cs, tmps.getD u undef, tmps.getD v undef]) w := by
  have hp' : tmps[p]?.getD undef = .pointer (some ⟨g, 0, none⟩) := by simpa using hp
  simp [results, h, hp', asAddr, run_loadVar_row w g t ty cs fr (.struct fs) hg hu rfl hi]
set_option maxHeartbeats 2000000 in
theorem parseC_any (s : ByteArray) (w : World) (hs : s.size ≤ 140737488351232) (he : Bd.HasErr w) :
    Calls Tryd.prog 22 #[.string s] w fun e w' => (∃ x y n er, e = .returned (.tuple #[.agg #[.int .i64 x, .int .i64 y], .int .i64 n, .int .i64 er]) ∧ ParC (sl s) x y n er) ∧ Below w.heap.size w w' := by
  have HE := Lib.hid (fun w' (hb : Below w.heap.size w w') => he.below hb)
  have HS := Lib.hid hs
  have HPr := Lib.hid (fun w' => preS_any s w')
  clear he hs
  go_enter Tryd.func22, Tryd.ntmps22
  go_wp2_with fail
  refine (HPr.out _).mono ?_
  rintro e w1 ⟨⟨r, is, rfl, hpre, hr⟩, rfl⟩
  have b1 : Below w.heap.size w (w.alloc (.cells #[.int .i64 0, .int .i64 0] 31)) := (Below.refl _ w).alloc (Nat.le_refl _) _
  have HPre := Lib.hid hpre
  have HRz := Lib.hid hr
  have HC1 := Lib.hid (fun w' => cutS_any r 47 w' (by have := HS.out; have := HRz.out; omega))
  clear hpre hr HPr
  go_wp2_with fail
  refine (HC1.out _).mono ?_
  rintro e w2 ⟨⟨l, al, sl', rfl, hc1, hl, hal⟩, b2⟩
  have B2 := belT b1 b2
  have HCa := Lib.hid hc1
  have HLz := Lib.hid (And.intro hl hal)
  have HC2 := Lib.hid (fun w' => cutS_any l 45 w' (by have := HS.out; have := HRz.out; have := HLz.out.1; omega))
  clear hc1 hl hal HC1
  go_wp2_with fail
  refine (HC2.out _).mono ?_
  rintro e w3 ⟨⟨f, t, da, rfl, hc2, hf, ht⟩, b3⟩
  have B3 := belT B2 b3
  have HCb := Lib.hid hc2
  have HFz := Lib.hid (And.intro hf ht)
  have HN1 := Lib.hid (fun w' hb => numberC_any f w' (by have := HS.out; have := HRz.out; have := HLz.out.1; have := HFz.out.1; omega) (HE.out w' hb))
  have HN2 := Lib.hid (fun w' hb => numberC_any t w' (by have := HS.out; have := HRz.out; have := HLz.out.1; have := HFz.out.2; omega) (HE.out w' hb))
  have HN3 := Lib.hid (fun w' hb => numberC_any al w' (by have := HS.out; have := HRz.out; have := HLz.out.2; omega) (HE.out w' hb))
  clear hc2 hf ht HC2
  go_wp2_with fail
  refine (HN1.out _ B3).mono ?_
  rintro e w4 ⟨⟨x, a, rfl, ha⟩, b4⟩
  have B4 := belT B3 b4
  have HNa := Lib.hid ha
  clear ha HN1
  go_wp2_with fail
  refine (HN2.out _ B4).mono ?_
  rintro e w5 ⟨⟨y, b, rfl, hb⟩, b5⟩
  have B5 := belT B4 b5
  have HNb := Lib.hid hb
  clear hb HN2
  go_wp2_with fail
  refine (HN3.out _ B5).mono ?_
  rintro e w6 ⟨⟨n, c, rfl, hc⟩, b6⟩
  have B6 := belT B5 b6
  have HNc := Lib.hid hc
  clear hc HN3
  have hpar := par_of HPre.out HCa.out HCb.out HNa.out HNb.out HNc.out
  have HT : Hid (is = true → sl' = true → da = true → a = true → b = true → c = true → conB x (y + 1) n = true → ParC (sl s) x (y + 1) n 0) := fun h1 h2 h3 h4 h5 h6 h7 => .inl ⟨rfl, h7, hpar.1 h1 h2 h3 h4 h5 h6 h7⟩
  have HF : Hid ((is && sl' && da && a && b && c && conB x (y + 1) n) = false → ParC (sl s) 0 0 0 3) := fun h => .inr ⟨rfl, rfl, rfl, rfl, hpar.2 h⟩
  have bq : Below (w.alloc (.cells #[.int .i64 0, .int .i64 0] 31)).heap.size (w.alloc (.cells #[.int .i64 0, .int .i64 0] 31)) w6 := belT (belT (belT (belT b2 b3) b4) b5) b6
  have c0 : w6.cell? ⟨w.heap.size, 0, none⟩ = some (.int .i64 0) := (bq.cell (p := ⟨w.heap.size, 0, none⟩) (by simp)).trans (World.cell?_alloc_at _ _ _ _ rfl)
  have c1 : w6.cell? ⟨w.heap.size, 1, none⟩ = some (.int .i64 0) := (bq.cell (p := ⟨w.heap.size, 1, none⟩) (by simp)).trans (World.cell?_alloc_at _ _ _ _ rfl)
  have hlt : w.heap.size < w6.heap.size := by have := bq.size; simp at this; omega
  have hne : w.heap.size ≠ w6.heap.size := by omega
  have h6 : w6.heap[w.heap.size]? = some (.cells #[.int .i64 0, .int .i64 0] 31 (0, 0)) := (bq.block w.heap.size (by simp)).trans (heap_alloc_new w _)
  have HHn := Lib.hid HNb.out
  clear HPre HRz HCa HLz HCb HFz HNa HNb HNc HE HS hpar b1 b2 b3 b4 b5 b6 B2 B3 B4 B5 bq
  have hA := Lib.hid (fun o => (Below.heap_alloc w6 o _ hlt).trans h6)
  cases is
  · have hF := Lib.hid (HF.out (by simp))
    clear HT HF
    go_wp2_with (refine wpList_store_row rfl _ _ _ rfl w.heap.size #[.int .i64 0, .int .i64 0] rfl rfl 31 #[.int .i64 0, .int .i64 0] ?hr (by kernel_rfl) (by kernel_rfl) (by kernel_rfl) ?_)
    case hr => exact hA.out _
    exact bodyPost_ret (results_ctt rfl _ _ _ w.heap.size 31 #[.int .i64 0, .int .i64 0] (0, 0) _ rfl (setRow_heap _ _ _ _ _ _ (hA.out _)) Tryd.underlying31 (by kernel_rfl)) rfl ⟨⟨0, 0, 0, 3, rfl, hF.out⟩, below_setRowC (B6.alloc (by omega) _) (Nat.le_refl _) _⟩
  · have _u := trivial
    cases sl'
    · have hF := Lib.hid (HF.out (by simp))
      clear HT HF
      go_wp2_with (refine wpList_store_row rfl _ _ _ rfl w.heap.size #[.int .i64 0, .int .i64 0] rfl rfl 31 #[.int .i64 0, .int .i64 0] ?hr (by kernel_rfl) (by kernel_rfl) (by kernel_rfl) ?_)
      case hr => exact hA.out _
      exact bodyPost_ret (results_ctt rfl _ _ _ w.heap.size 31 #[.int .i64 0, .int .i64 0] (0, 0) _ rfl (setRow_heap _ _ _ _ _ _ (hA.out _)) Tryd.underlying31 (by kernel_rfl)) rfl ⟨⟨0, 0, 0, 3, rfl, hF.out⟩, below_setRowC (B6.alloc (by omega) _) (Nat.le_refl _) _⟩
    · have _u := trivial
      cases da
      · have hF := Lib.hid (HF.out (by simp))
        clear HT HF
        go_wp2_with (refine wpList_store_row rfl _ _ _ rfl w.heap.size #[.int .i64 0, .int .i64 0] rfl rfl 31 #[.int .i64 0, .int .i64 0] ?hr (by kernel_rfl) (by kernel_rfl) (by kernel_rfl) ?_)
        case hr => exact hA.out _
        exact bodyPost_ret (results_ctt rfl _ _ _ w.heap.size 31 #[.int .i64 0, .int .i64 0] (0, 0) _ rfl (setRow_heap _ _ _ _ _ _ (hA.out _)) Tryd.underlying31 (by kernel_rfl)) rfl ⟨⟨0, 0, 0, 3, rfl, hF.out⟩, below_setRowC (B6.alloc (by omega) _) (Nat.le_refl _) _⟩
      · have _u := trivial
        cases a
        · have hF := Lib.hid (HF.out (by simp))
          clear HT HF
          go_wp2_with (refine wpList_store_row rfl _ _ _ rfl w.heap.size #[.int .i64 0, .int .i64 0] rfl rfl 31 #[.int .i64 0, .int .i64 0] ?hr (by kernel_rfl) (by kernel_rfl) (by kernel_rfl) ?_)
          case hr => exact hA.out _
          exact bodyPost_ret (results_ctt rfl _ _ _ w.heap.size 31 #[.int .i64 0, .int .i64 0] (0, 0) _ rfl (setRow_heap _ _ _ _ _ _ (hA.out _)) Tryd.underlying31 (by kernel_rfl)) rfl ⟨⟨0, 0, 0, 3, rfl, hF.out⟩, below_setRowC (B6.alloc (by omega) _) (Nat.le_refl _) _⟩
        · have _u := trivial
          cases b
          · have hF := Lib.hid (HF.out (by simp))
            clear HT HF
            go_wp2_with (refine wpList_store_row rfl _ _ _ rfl w.heap.size #[.int .i64 0, .int .i64 0] rfl rfl 31 #[.int .i64 0, .int .i64 0] ?hr (by kernel_rfl) (by kernel_rfl) (by kernel_rfl) ?_)
            case hr => exact hA.out _
            exact bodyPost_ret (results_ctt rfl _ _ _ w.heap.size 31 #[.int .i64 0, .int .i64 0] (0, 0) _ rfl (setRow_heap _ _ _ _ _ _ (hA.out _)) Tryd.underlying31 (by kernel_rfl)) rfl ⟨⟨0, 0, 0, 3, rfl, hF.out⟩, below_setRowC (B6.alloc (by omega) _) (Nat.le_refl _) _⟩
          · have _u := trivial
            cases c
            · have hF := Lib.hid (HF.out (by simp))
              clear HT HF
              go_wp2_with (refine wpList_store_row rfl _ _ _ rfl w.heap.size #[.int .i64 0, .int .i64 0] rfl rfl 31 #[.int .i64 0, .int .i64 0] ?hr (by kernel_rfl) (by kernel_rfl) (by kernel_rfl) ?_)
              case hr => exact hA.out _
              exact bodyPost_ret (results_ctt rfl _ _ _ w.heap.size 31 #[.int .i64 0, .int .i64 0] (0, 0) _ rfl (setRow_heap _ _ _ _ _ _ (hA.out _)) Tryd.underlying31 (by kernel_rfl)) rfl ⟨⟨0, 0, 0, 3, rfl, hF.out⟩, below_setRowC (B6.alloc (by omega) _) (Nat.le_refl _) _⟩
            · have _u := trivial
              have hy := HHn.out.elim (fun h => nB_bounds h.2.1) (fun h => nomatch h.1)
              have hw := wrap_small (y + 1) (by omega) (by omega)
              have HIc := Lib.hid (fun w' => isContent_any x (y + 1) n w')
              clear HHn hy
              have hA7 := Lib.hid (fun (w7 : World) (b7 : Below (w6.alloc (.cells #[.int .i64 x, .int .i64 (y + 1)] 31)).heap.size (w6.alloc (.cells #[.int .i64 x, .int .i64 (y + 1)] 31)) w7) => (b7.block w.heap.size (by simp; omega)).trans (hA.out _))
              cases hcon : conB x (y + 1) n
              · rw [hcon] at HIc
                have hF := Lib.hid (HF.out (by rw [hcon]; rfl))
                clear HT HF hcon
                go_wp2_with fail
                refine (HIc.out _).mono ?_
                rintro e w7 ⟨rfl, b7⟩
                have h7 := hA7.out _ b7
                have B7 := belT (B6.alloc (Nat.le_of_lt hlt) (.cells #[.int .i64 x, .int .i64 (y + 1)] 31)) b7
                go_wp2_with (refine wpList_store_row rfl _ _ _ rfl w.heap.size #[.int .i64 0, .int .i64 0] rfl rfl 31 #[.int .i64 0, .int .i64 0] h7 (by kernel_rfl) (by kernel_rfl) (by kernel_rfl) ?_)
                exact bodyPost_ret (results_ctt rfl _ _ _ w.heap.size 31 #[.int .i64 0, .int .i64 0] (0, 0) _ rfl (setRow_heap _ _ _ _ _ _ h7) Tryd.underlying31 (by kernel_rfl)) rfl ⟨⟨0, 0, 0, 3, rfl, hF.out⟩, below_setRowC B7 (Nat.le_refl _) _⟩
              · rw [hcon] at HIc
                have hT := Lib.hid (HT.out rfl rfl rfl rfl rfl rfl hcon)
                clear HT HF hcon
                go_wp2_with fail
                refine (HIc.out _).mono ?_
                rintro e w7 ⟨rfl, b7⟩
                have h7 := hA7.out _ b7
                have B7 := belT (B6.alloc (Nat.le_of_lt hlt) (.cells #[.int .i64 x, .int .i64 (y + 1)] 31)) b7
                have q0 : w7.cell? ⟨w6.heap.size, 0, none⟩ = some (.int .i64 x) := (b7.cell (p := ⟨w6.heap.size, 0, none⟩) (by simp)).trans (World.cell?_alloc_at _ _ _ _ rfl)
                have q1 : w7.cell? ⟨w6.heap.size, 1, none⟩ = some (.int .i64 (y + 1)) := (b7.cell (p := ⟨w6.heap.size, 1, none⟩) (by simp)).trans (World.cell?_alloc_at _ _ _ _ rfl)
                go_wp2_with (refine wpList_store_row rfl _ _ _ rfl w.heap.size #[.int .i64 x, .int .i64 (y + 1)] rfl rfl 31 #[.int .i64 0, .int .i64 0] h7 (by kernel_rfl) (by kernel_rfl) (by kernel_rfl) ?_)
                exact bodyPost_ret (results_ctt rfl _ _ _ w.heap.size 31 #[.int .i64 x, .int .i64 (y + 1)] (0, 0) _ rfl (setRow_heap _ _ _ _ _ _ h7) Tryd.underlying31 (by kernel_rfl)) rfl ⟨⟨x, y + 1, n, 0, rfl, hT.out⟩, below_setRowC B7 (Nat.le_refl _) _⟩
end Spc
end Go.Proofs.YthhhlaoiampinaaDoor
