/- VaryNames: the law's walk. -/
import Derived.Test.YthocoplaehbncaaDoorVaryL
import Derived.Test.YthocoplaehbncaaDoorVaryQ
import Derived.Test.YthocoplaehbncaaDoorEqStr
import Derived.IntWalk
import Derived.Sort.Walk0
namespace Go.Proofs.YthocoplaehbncaaDoor
set_option maxRecDepth 20000
open Go.RowKit
namespace Vy
theorem sorted_unique {xs ys : List ByteArray} (hx : Sorted xs) (hy : Sorted ys) (h : ∀ x, x ∈ xs ↔ x ∈ ys) : xs = ys := by
  have irr : ∀ a : List UInt8, ¬ a < a := fun a => List.lt_irrefl a
  have nd : ∀ {zs : List ByteArray}, Sorted zs → zs.Nodup := fun {zs} hz =>
    (List.pairwise_map.1 hz).imp (fun {a b} hab (e : a = b) => irr (sl a) (by rw [← e] at hab; exact hab))
  have hp : xs.Perm ys := (List.perm_ext_iff_of_nodup (nd hx) (nd hy)).2 h
  refine hp.eq_of_pairwise (le := fun a b => sl a < sl b) (fun a b _ _ h1 h2 => absurd (List.lt_trans h1 h2) (irr _)) ?_ ?_
  · exact List.pairwise_map.1 hx
  · exact List.pairwise_map.1 hy
def nvary : ByteArray := ⟨#[118, 97, 114, 121]⟩
def nVARY : ByteArray := ⟨#[86, 65, 82, 89]⟩
def smp : ByteArray := ⟨#[66, 44, 32, 97, 44, 42]⟩
theorem smp_txt : txt [(nvary, smp)] nVary = smp := by kernel_rfl
theorem smp_nm : nmF smp = ([⟨#[98]⟩, ⟨#[97]⟩], true, 0) := by kernel_rfl
theorem smp_sorted : Sorted [⟨#[97]⟩, ⟨#[98]⟩] := by unfold Sorted; decide
theorem smp_mem {xs : List ByteArray} (hs : Sorted xs) (h : ∀ x, x ∈ xs ↔ x ∈ ([⟨#[98]⟩, ⟨#[97]⟩] : List ByteArray)) : xs = [⟨#[97]⟩, ⟨#[98]⟩] :=
  sorted_unique hs smp_sorted (fun x => by rw [h x]; simp only [List.mem_cons, List.not_mem_nil, or_false]; exact Or.comm)
theorem sorted_at {xs : List ByteArray} (hs : Sorted xs) {k : Nat} (h : k + 1 < xs.length) : sl xs[k] < sl xs[k + 1] := by
  have := List.pairwise_iff_getElem.1 (List.pairwise_map.1 hs) k (k + 1) (by omega) h (by omega)
  exact this
theorem low42 (c : UInt8) : (Tok.lowB c == 42) = (c == 42) := by
  have := u8_all (p := fun c => (Tok.lowB c == 42) == (c == 42)) (by kernel_rfl) c
  simpa using this
theorem star_low (s : ByteArray) : isStar (lowS s) = isStar s := by
  unfold isStar lowS
  rw [ba_toList, ba_toList, sl_mkS]
  generalize sl s = p
  match p with
  | [] => rfl
  | [c] => show ([Tok.lowB c] == [42]) = ([c] == [42]); have := low42 c; simpa [List.cons_beq_cons] using this
  | a :: b :: r =>
    have h1 : (Tok.low (a :: b :: r) == [42]) = false := by
      rw [beq_eq_false_iff_ne]; intro e; have := congrArg List.length e; simp [Tok.low] at this
    have h2 : ((a :: b :: r) == [42]) = false := by
      rw [beq_eq_false_iff_ne]; intro e; have := congrArg List.length e; simp at this
    rw [h1, h2]
theorem nmF_star {s x : ByteArray} (h : x ∈ (nmF s).1) : isStar x = false := by
  have key : ∀ ps : List ByteArray, x ∈ lowsOf ps → isStar x = false := by
    intro ps hx
    obtain ⟨p, hp, rfl⟩ := List.mem_map.1 hx
    rw [star_low]
    simpa using (List.mem_filter.1 hp).2
  unfold nmF at h
  split at h
  · cases h
  · split at h
    · exact key _ h
    · cases h
theorem smp_ok (w : World) : LOk (w.alloc (.cells #[.string nvary, .string smp] 28)) (.slice (some ⟨w.heap.size, 0, none⟩) 1 1) [(nvary, smp)] :=
  ⟨SlR.lit (enc := e_ss) w [.string nvary, .string smp] _ [(nvary, smp)] rfl, by decide⟩
theorem nil_of {xs : List ByteArray} (h : ∀ x, x ∈ xs ↔ x ∈ ([] : List ByteArray)) : xs = [] := by
  cases xs with
  | nil => rfl
  | cons x xs => exact absurd ((h x).1 (List.mem_cons_self ..)) (by simp)
theorem txt_VARY (l : List Fld) (X : ByteArray) : txt (setF l nVARY X) nVary = X := by
  unfold Vy.txt
  rw [selF_congr _ (show lowS nVary = lowS nVARY by kernel_rfl), selF_set_self, joinS_one]
end Vy
open Vy
set_option maxHeartbeats 6400000 in
theorem varyNames_walk (v0 : Value) (l : List Fld) (w : World) (h0 : SlR w e_ss v0 l) (s0 : (l.map (fun d => d.1.size + d.2.size + 2)).sum ≤ 1048576) :
    Calls Tryd.prog 3 #[v0] w fun e w' => e = .returned (.bool true) ∧ Below w.heap.size w w' := by
  have hL0 : LOk w v0 l := ⟨h0, Nat.le_trans s0 (by decide)⟩
  have HN := Lib.hid (names_all v0 l w hL0)
  have HS := Lib.hid (fun (w' : World) => names_all _ _ _ (smp_ok w'))
  rw [smp_txt, smp_nm] at HS
  unfold nvary smp at HS
  have HG := Lib.hid (fun w' (hb : Below w.heap.size w w') => getL_any v0 l nVary w' (hL0.below hb) (by decide))
  have HSet := Lib.hid (fun X w' (hb : Below w.heap.size w w') => set_any v0 l nVARY X w' (hL0.below hb).sl (by have := wt_len l; have : wt l ≤ 1048576 := s0; omega) (hL0.below hb).lims (by decide))
  have HN2 : Hid (∀ X : ByteArray, X.size ≤ 1000 → ∀ v w', SlR w' e_ss v (setF l nVARY X) → Calls Tryd.prog 12 #[v] w' fun e w2 => NamesR (nmF X).1 (nmF X).2.1 (nmF X).2.2 e w2 ∧ Below w'.heap.size w' w2) := fun X hX v w' hv => by
    have := names_all v (setF l nVARY X) w' ⟨hv, by have := wt_set l nVARY X; have : wt l ≤ 1048576 := s0; have e : nVARY.size = 4 := rfl; omega⟩
    rw [txt_VARY] at this; exact this
  have hTs : (txt l nVary).size ≤ 1048576 := Nat.le_trans (txt_wt l nVary) s0
  have HGood : Hid ((nmF (txt l nVary)).2.2 = 0 → ∀ (j : Nat) (b : UInt8), (txt l nVary).data.toList[j]? = some b → b.toNat < 128) := fun h j b hb => (nm_good h).2.1 b (List.mem_of_getElem? hb)
  have HUp : Hid ((nmF (txt l nVary)).2.2 = 0 → (nmF (twoS (txt l nVary))).2.2 = 0 → (nmF (twoS (txt l nVary))).2.1 = (nmF (txt l nVary)).2.1 ∧ ∀ x, x ∈ (nmF (twoS (txt l nVary))).1 ↔ x ∈ (nmF (txt l nVary)).1) := fun h h2 => names_up h h2
  have HLow : Hid (∀ x ∈ (nmF (txt l nVary)).1, lowS x = x ∧ x.size ≤ 1000 ∧ isStar x = false) := fun x hx => ⟨nmF_low hx, (nmF_small _).2 x hx, nmF_star hx⟩
  have HBad : Hid ((nmF (txt l nVary)).2.2 ≠ 0 → (nmF (txt l nVary)).1 = [] ∧ (nmF (txt l nVary)).2.1 = false) := fun h => nmF_bad h
  clear hL0 h0 s0
  generalize txt l nVary = T at *
  have HTW : Hid (∀ t, upS T ++ ⟨#[32, 44]⟩ ++ T = t → t = twoS T) := fun t h => h.symm
  generalize hR : nmF T = R at *
  clear hR
  obtain ⟨L, st, c⟩ := R
  dsimp only at *
  generalize isR l nVary = q at *
  go_enter Tryd.func3, Tryd.ntmps3
  go_wp2_with fail
  refine HN.out.mono ?_
  rintro e w1 ⟨⟨v, xs, rfl, hsl, hsort, hlen, hmem⟩, b1⟩
  have HSl := Lib.hid hsl
  have HSo := Lib.hid hsort
  have HMem := Lib.hid hmem
  obtain ⟨A, cp, rfl, -⟩ := hsl.form
  clear hsl hsort hmem HN
  go_wp2_with fail
  refine (HS.out _).mono ?_
  rintro e w2 ⟨⟨v2, ys, rfl, hsl2, hsort2, hlen2, hmem2⟩, b2⟩
  obtain rfl := smp_mem hsort2 hmem2
  have HSl2 := Lib.hid hsl2
  obtain ⟨A2, cp2, rfl, -⟩ := hsl2.form
  have B2 : Below w.heap.size w w2 := b1.trans (((Below.refl _ _).alloc (Nat.le_refl _) _ |>.trans (b2.mono (by simp))).mono b1.size)
  have b12 : Below w1.heap.size w1 w2 := ((Below.refl _ _).alloc (Nat.le_refl _) _).trans (b2.mono (by simp))
  clear hsl2 hsort2 hlen2 hmem2 HS b2
  go_wp2_with fail
  have HLit : SlR (w2.alloc (.cells #[.string ⟨#[97]⟩, .string ⟨#[98]⟩] 9)) es (.slice (some ⟨w2.heap.size, 0, none⟩) 2 2) [⟨#[97]⟩, ⟨#[98]⟩] := SlR.lit (enc := es) w2 [.string ⟨#[97]⟩, .string ⟨#[98]⟩] 9 [⟨#[97]⟩, ⟨#[98]⟩] rfl
  refine (eqStr_any _ _ [⟨#[97]⟩, ⟨#[98]⟩] [⟨#[97]⟩, ⟨#[98]⟩] _ (HSl2.out.alloc _) HLit (by decide) (by decide)).mono ?_
  rintro e w3 ⟨rfl, rfl⟩
  have hsame : SameTexts [⟨#[97]⟩, ⟨#[98]⟩] [⟨#[97]⟩, ⟨#[98]⟩] = true := by decide
  have hA2 : Below w2.heap.size w2 (w2.alloc (.cells #[.string ⟨#[97]⟩, .string ⟨#[98]⟩] 9)) := (Below.refl _ _).alloc (Nat.le_refl _) _
  have B3 := belT B2 hA2
  have b13 := belT b12 hA2
  rw [hsame]
  clear hsame HLit HSl2 hA2 B2 b12 b1
  by_cases hc : c = 0
  · subst hc
    generalize (w2.alloc (.cells #[.string ⟨#[97]⟩, .string ⟨#[98]⟩] 9)) = w4 at *
    go_wp2_with fail
    have H2 := Lib.hid (fun hn => HSl.out.texts hn)
    go_loopw [52] (fun i wr => ∃ k : Nat, k ≤ xs.length ∧ i = .int .i64 k ∧ Below w4.heap.size w4 wr) (fun i _ => xs.length - (intOf i).toNat)
    case atStart => exact ⟨0, by omega, rfl, Below.refl _ _⟩
    case round =>
      obtain ⟨k, hk, rfl, hbel⟩ := hrel
      by_cases hlt : k < xs.length
      · obtain ⟨b, off, c', he, _, hbb, hcell⟩ := H2.out (by omega)
        obtain ⟨rfl, rfl⟩ : A = some ⟨b, off, none⟩ ∧ cp = c' := by injection he with h1 h2 h3; exact ⟨h1, h3⟩
        have b1r := belT b13 hbel
        have c0 := (b1r.cell (p := ⟨b, off + k, none⟩) hbb).trans (hcell k hlt)
        obtain ⟨l1, l2, l3⟩ := HLow.out _ ((HMem.out _).1 (List.getElem_mem hlt))
        have HLo := Lib.hid (fun w => lower_any xs[k] w (by omega))
        rw [show mkS (Tok.low (sl xs[k])) = xs[k] from l1] at HLo
        have hst : (xs[k].toList == [42]) = false := l3
        by_cases hk0 : k = 0
        · subst hk0
          clear hcell he l1 l3
          generalize xs[0] = x at *
          simp only [Nat.add_zero] at c0
          go_wp2_with fail
          refine (HLo.out _).mono ?_
          rintro e w5 ⟨rfl, b5⟩
          go_wp2_with fail
          go_roundw
          case rel => exact ⟨1, by omega, by go_num, belT hbel b5⟩
          case measure => simp [intOf]; omega
        · obtain ⟨j, rfl⟩ : ∃ j, k = j + 1 := ⟨k - 1, by omega⟩
          have c1 := (b1r.cell (p := ⟨b, off + j, none⟩) hbb).trans (hcell j (by omega))
          have HSA := Lib.hid (sorted_at HSo.out hlt)
          clear hcell he l1 l3
          generalize xs[j + 1] = x at *
          generalize xs[j] = y at *
          have hw1 : IntKind.i64.wrap ((j : Int) + 1 - 1) = (j : Int) := by have := IntWalk.i64_in (j : Int) (by omega); rw [show (j : Int) + 1 - 1 = (j : Int) by omega]; exact this
          go_wp2_with fail
          refine (HLo.out _).mono ?_
          rintro e w5 ⟨rfl, b5⟩
          have c5 := (b5.cell (p := ⟨b, off + j, none⟩) (Nat.lt_of_lt_of_le hbb b1r.size)).trans c1
          have hbl : Op.bytesLess y.toList x.toList = true := by rw [ba_toList, ba_toList, bytesLess_eq]; exact decide_eq_true HSA.out
          go_wp2_with fail
          go_roundw
          case rel => exact ⟨j + 2, by omega, by go_num, belT hbel b5⟩
          case measure => simp [intOf]; omega
      · obtain rfl : k = xs.length := by omega
        have Br := belT B3 hbel
        have HTU : Hid (∀ w, Calls Tryd.prog 17 #[.string T] w fun e w' => e = .returned (.string (upS T)) ∧ Below w.heap.size w w') := fun w => Tryd.strings_ToUpper_ascii T w (by omega) (HGood.out (by trivial))
        clear HGood HLow HBad H2
        go_wp2_with fail
        refine (HG.out _ Br).mono ?_
        rintro e w5 ⟨rfl, b5⟩
        have B5 := belT Br b5
        by_cases hz : 490 < T.size
        · have dz : decide (490 < (T.size : Int)) = true := by rw [decide_eq_true_iff]; omega
          go_wp2_with fail
          go_ret
          exact ⟨rfl, B5⟩
        · have dz : decide (490 < (T.size : Int)) = false := by rw [decide_eq_false_iff_not]; omega
          cases q
          · go_wp2_with fail
            go_ret
            exact ⟨rfl, B5⟩
          · by_cases h9 : 9 < xs.length
            · have d9 : decide (9 < (xs.length : Int)) = true := by rw [decide_eq_true_iff]; omega
              go_wp2_with fail
              go_ret
              exact ⟨rfl, B5⟩
            · have d9 : decide (9 < (xs.length : Int)) = false := by rw [decide_eq_false_iff_not]; omega
              have hX : upS T ++ ⟨#[32, 44]⟩ ++ T = twoS T := rfl
              have hXz : (twoS T).size ≤ 1000 := by rw [twoS_size]; omega
              have hUz : (upS T).size ≤ 490 := by rw [upS_size]; omega
              have hPz : (upS T ++ ⟨#[32, 44]⟩).size ≤ 500 := by rw [ByteArray.size_append, show (⟨#[32, 44]⟩ : ByteArray).size = 2 from rfl]; omega
              have HSetX := Lib.hid (fun w' hb => HSet.out (twoS T) w' hb)
              have HN2X := Lib.hid (fun v w' hv => HN2.out (twoS T) hXz v w' hv)
              have HUpX : Hid ((nmF (twoS T)).2.2 = 0 → (nmF (twoS T)).2.1 = st ∧ ∀ x, x ∈ (nmF (twoS T)).1 ↔ x ∈ L) := fun h => HUp.out (by trivial) h
              clear HUp HN2 HSet HG HTW
              generalize setF l nVARY (twoS T) = LS at *
              generalize nmF (twoS T) = RX at *
              generalize twoS T = X at *
              generalize upS T = U at *
              generalize hP : U ++ ⟨#[32, 44]⟩ = P at *
              obtain ⟨LX, stX, cX⟩ := RX
              dsimp only at *
              go_wp2_with fail
              refine (HTU.out _).mono ?_
              rintro e w6 ⟨rfl, b6⟩
              have B6 := belT B5 b6
              go_wp2_with fail
              refine (HSetX.out _ B6).mono ?_
              rintro e w7 ⟨⟨v7, rfl, o7⟩, b7⟩
              have B7 := belT B6 b7
              have S7 := Lib.hid (SlR.of_owns o7)
              obtain ⟨A7, c7, rfl⟩ := o7.slice
              clear o7
              go_wp2_with fail
              refine (HN2X.out _ _ S7.out).mono ?_
              rintro e w8 ⟨⟨v8, zs, rfl, hsl8, hsort8, hlen8, hmem8⟩, b8⟩
              have B8 := belT B7 b8
              have b18 : Below w1.heap.size w1 w8 := belT (belT (belT (belT (belT b13 hbel) b5) b6) b7) b8
              have HS8 := Lib.hid hsl8
              by_cases hcx : cX = 0
              · subst hcx
                obtain ⟨rfl, hm⟩ := HUpX.out (by trivial)
                obtain rfl : zs = xs := sorted_unique hsort8 HSo.out (fun x => by rw [hmem8 x, hm x, HMem.out x])
                have HEq := Lib.hid (eqStr_any _ _ zs zs w8 HS8.out (HSl.out.below b18) (by omega) (by omega))
                have hst : SameTexts zs zs = true := by unfold SameTexts; simp
                rw [hst] at HEq
                obtain ⟨A8, c8, rfl, -⟩ := hsl8.form
                clear hsl8 hsort8 hmem8 hm HUpX HMem HSo hst
                go_wp2_with fail
                refine HEq.out.mono ?_
                rintro e w' ⟨rfl, rfl⟩
                go_wp2_with fail
                go_ret
                exact ⟨rfl, B8⟩
              · have dcx : (cX != 0) = true := by simpa using hcx
                obtain ⟨A8, c8, rfl, -⟩ := hsl8.form
                clear hsl8 hsort8 hmem8 HUpX HMem HSo
                go_wp2_with fail
                go_ret
                exact ⟨rfl, B8⟩
  · have hne : (c != 0) = true := by simpa using hc
    obtain ⟨rfl, rfl⟩ := HBad.out hc
    obtain rfl := nil_of HMem.out
    clear hc
    go_wp2_with fail
    go_ret
    exact ⟨rfl, B3⟩
end Go.Proofs.YthocoplaehbncaaDoor
