/- Compact; the laws' helpers: booked, sameBook. -/
import Derived.Test.YtemknajlmocfeaaY7
import Derived.Test.YtemknajlmocfeaaRows
import Derived.ProofKit
import Derived.OpenShut
import Derived.ShutString
import Derived.ChangeOld
import Derived.Below
import Derived.Carry
import Derived.SizedLaws
import Derived.Test.YtemknajlmocfeaaY4
import Derived.Deep.CondSized
namespace Go.Proofs.Ytemknajlmocfeaa
set_option maxRecDepth 20000
open Go.RowKit Go.Shelf
namespace Bk
theorem enc_cl {s : St} (hi : Inv s) {ks : List ByteArray} (hm : ∀ k ∈ ks, (s.1 k).isSome = true) : ∀ q ∈ cl s.1 ks, (enc q).length ≤ 1000 := by
  intro q hq
  obtain ⟨k, hk, rfl⟩ := List.mem_map.1 hq
  obtain ⟨v, hv⟩ := Option.isSome_iff_exists.1 (hm k hk)
  have := hi.key k v hv
  rw [hv, Option.getD_some, enc_len_set]
  omega
set_option maxHeartbeats 2000000 in
theorem compact_any (n0 p mb : Nat) (g : Option Nat) (rs : List Rec) (s : St) (w : World) (h : BkS w n0 p mb g rs s) :
    Calls Try.prog 42 #[ptr p] w fun e w' => e = .returned (.tuple #[]) ∧ ∃ g' ks, GS w w' (foot p mb g) ∧ GN w g g' ∧ Ky.Sorted ks ∧ ks.length = s.2 ∧ (∀ k, k ∈ ks ↔ (s.1 k).isSome = true) ∧ BkS w' n0 p mb g' (cl s.1 ks) s := by
  obtain ⟨a, u, hb, ha, ho, hv, hn⟩ := h.t.blk
  have H := Lib.hid h
  have hi := inv_play h.pl
  have HI := Lib.hid hi
  have hc := hi.many
  have HB := Lib.hid hb
  clear ho h hb
  go_enter Try.func42, Try.ntmps42
  go_wp2_with fail
  refine (reset_any p _ _ a u _ HB.out).mono ?_
  rintro e w1 ⟨rfl, hb1, g1⟩
  have hap := H.out.t.apart
  have p1 := hb1.cell 1
  have f1 := hb1.frozen 1
  have hb2 : Blk (w1.setCell ⟨p, 1, none⟩ (.int .i64 0)) p 130 #[.map (some mb), .int .i64 0, .pointer none, .slice none 0 0] := hb1.set_ 1 (.int .i64 0)
  have gs2 : GS w (w1.setCell ⟨p, 1, none⟩ (.int .i64 0)) [p] := g1.same (GS.cell_ w1 ⟨p, 1, none⟩ _ (by simp))
  have HT2 : Hid (BkT (w1.setCell ⟨p, 1, none⟩ (.int .i64 0)) n0 p mb none [] s) := ⟨⟨_, _, hb2, .inl rfl, World.ownsRowF_nil _ _ _ _, rfl, fun _ => rfl⟩, MapS.gs H.out.t.mp gs2 (by simp; exact fun e => hap.1 e.symm), H.out.t.b0⟩
  have HG2 : Hid (GS w (w1.setCell ⟨p, 1, none⟩ (.int .i64 0)) (foot p mb g)) := gs2.mono (by simp [foot])
  clear hb1 g1 hb2 gs2 hi
  go_wp2_with fail
  generalize w1.setCell ⟨p, 1, none⟩ (.int .i64 0) = w2 at *
  refine (keysB_any n0 p mb none [] s _ HT2.out hc).mono ?_
  rintro e w3 ⟨vk, ks, rfl, ok, hso, hkl, hkm, b3⟩
  have HT3 := Lib.hid (HT2.out.below b3)
  have HG3 := Lib.hid (HG2.out.same (GS.of_below b3 _))
  have HO3 := Lib.hid ok
  have HKM := Lib.hid hkm
  have HSO := Lib.hid hso
  have HKL := Lib.hid hkl
  have hkl' : ks.length ≤ 100 := by omega
  obtain ⟨Ak, ck, rfl⟩ := ok.slice
  clear b3 ok hkm hso hkl p1 f1
  go_wp2_with fail
  go_loopw [14] (fun iv wr => ∃ (k : Nat) (g' : Option Nat), iv = .int .i64 (k : Int) ∧ k ≤ ks.length ∧ BkT wr n0 p mb g' (cl s.1 (ks.take k)) s ∧ Owns wr w2.heap.size 9 1 Go.Proofs.Ytemknajlmocfeaa.es (.slice Ak ks.length ck) ks ∧ GS w wr (foot p mb g) ∧ GN w g g') (fun iv _ => ks.length - (intOf iv).toNat)
  case atStart => exact ⟨0, none, rfl, Nat.zero_le _, by rw [List.take_zero]; exact HT3.out, HO3.out, HG3.out, fun j hj => by cases hj⟩
  case round =>
    obtain ⟨k, g', rfl, hk, ht, how, hgs, hgn⟩ := hrel
    have HT := Lib.hid ht
    have HO := Lib.hid how
    have HG := Lib.hid hgs
    have HN := Lib.hid hgn
    clear ht how hgs hgn
    by_cases hlt : k < ks.length
    · obtain ⟨bb, off, c3, hv2, hc3, hbb, hcell⟩ := SlR.texts (xs := ks) (SlR.of_owns HO.out) (by omega)
      injection hv2 with g1 g2 g3
      subst g1 g3
      have c0 := hcell k hlt
      have HTK : Hid (ks.take (k + 1) = ks.take k ++ [ks[k]]) := by show _ = _; rw [List.take_add_one, List.getElem?_eq_getElem hlt]; rfl
      have hkm1 := (HKM.out ks[k]).1 (List.getElem_mem hlt)
      clear hcell g2
      generalize ks[k] = x at *
      obtain ⟨v, hv⟩ := Option.isSome_iff_exists.1 hkm1
      obtain ⟨hx1, hx2, hx3⟩ := HI.out.key x v hv
      obtain ⟨a4, u4, hb4, _⟩ := HT.out.blk
      have p0 := hb4.cell 0
      have hlk := HT.out.mp.look (t := 112) (e := 9) (k := x) Try.underlying9 Try.underlying112 (z := .string ByteArray.empty) rfl (by simp only [maxLen]; omega)
      have e1 : (vF s.1 x).getD (.string ByteArray.empty) = .string v := by unfold vF; rw [hv]; rfl
      rw [e1] at hlk
      have HCL : Hid (cl s.1 (ks.take (k + 1)) = cl s.1 (ks.take k) ++ [.set x v]) := by show _ = _; rw [HTK.out, cl_app]; simp [cl, hv]
      have hall := enc_cl HI.out (ks := ks.take k) (fun y hy => (HKM.out y).1 (List.take_subset _ _ hy))
      have HALL := Lib.hid hall
      have hcl : (cl s.1 (ks.take k)).length ≤ 2097152 := by unfold cl; rw [List.length_map, List.length_take]; omega
      clear hkm1 hv hb4 e1 hall
      go_wp2_with fail
      refine (record_any 1 x v _ (by decide) hx2 hx3).mono ?_
      rintro e w5 ⟨rfl, b5⟩
      have HT5 := Lib.hid (HT.out.below b5)
      have HO5 := Lib.hid (HO.out.below b5)
      have HG5 := Lib.hid (HG.out.same (GS.of_below b5 _))
      have hs5 := b5.size
      clear b5 p0 hlk
      go_wp2_with fail
      refine (addB_any n0 p mb g' (cl s.1 (ks.take k)) s (.set x v) _ HT5.out hcl HALL.out (by rw [enc_len_set]; omega)).mono ?_
      rintro e w6 ⟨rfl, g6, ht6, gs6, gn6⟩
      have HT6 : Hid (BkT w6 n0 p mb g6 (cl s.1 (ks.take (k + 1))) s) := by rw [HCL.out]; exact ht6
      have HO6 := Lib.hid (Owns.keepB HO5.out HT5.out gs6 (by decide) (by decide))
      have HG6 := Lib.hid (foot_gn HG5.out (fun j hj => hj) (g := g) (p := p) (mb := mb) (g1 := g') HN.out gs6)
      have HN6 := Lib.hid (HN.out.trans gn6 HG5.out.size)
      clear ht6 gs6 gn6
      go_wp2_with fail
      exact ⟨⟨k + 1, g6, by simp, by omega, HT6.out, HO6.out, HG6.out, HN6.out⟩, by simp only [intOf]; omega⟩
    · obtain rfl : k = ks.length := by omega
      have ht := HT.out
      rw [List.take_of_length_le (Nat.le_refl _)] at ht
      have HF := Lib.hid ht
      clear ht
      go_wp2_with fail
      go_end0
      exact ⟨rfl, g', ks, HG.out, HN.out, HSO.out, HKL.out, HKM.out, HF.out, play_compact HI.out (Ky.sorted_nodup HSO.out) HKM.out HKL.out⟩
theorem getB_T (n0 p mb : Nat) (g : Option Nat) (rs : List Rec) (s : St) (k : ByteArray) (w : World) (h : BkT w n0 p mb g rs s) (hk : k.size ≤ maxLen) :
    Calls Try.prog 34 #[ptr p, .string k] w fun e w' => e = .returned (.tuple #[.string ((s.1 k).getD ByteArray.empty), .bool (s.1 k).isSome]) ∧ w = w' := by
  obtain ⟨a, u, hb, _⟩ := h.blk
  have p0 := hb.cell 0
  have hlk := h.mp.look_ok (t := 112) (e := 9) (k := k) Try.underlying9 Try.underlying112 (z := .string ByteArray.empty) rfl hk
  have e1 : (vF s.1 k).getD (.string ByteArray.empty) = .string ((s.1 k).getD ByteArray.empty) := by unfold vF; cases s.1 k <;> rfl
  rw [e1, vF_some] at hlk
  clear h hb e1
  go_enter Try.func34, Try.ntmps34
  go_wp2_with fail
  go_ret2
  exact ⟨rfl, rfl⟩
set_option maxHeartbeats 2000000 in
theorem sameBook_any (n0 n1 pa ma pb mb' : Nat) (ga gb : Option Nat) (ra rb : List Rec) (sa sb : St) (w : World) (ha : BkT w n0 pa ma ga ra sa) (hb : BkT w n1 pb mb' gb rb sb) (hca : sa.2 ≤ 100) (hcb : sb.2 ≤ 100) (hs : sa.1 = sb.1) (hk : ∀ k v, sa.1 k = some v → k.size ≤ 50) :
    Calls Try.prog 39 #[ptr pa, ptr pb] w fun e w' => e = .returned (.bool true) ∧ Below w.heap.size w w' := by
  have HA := Lib.hid ha
  have HB := Lib.hid hb
  have HK := Lib.hid hk
  have HS := Lib.hid hs
  clear ha hb hk hs
  go_enter Try.func39, Try.ntmps39
  go_wp2_with fail
  refine (keysB_any n0 pa ma ga ra sa _ HA.out hca).mono ?_
  rintro e w1 ⟨v1, k1, rfl, o1, so1, kl1, km1, b1⟩
  have HO1 := Lib.hid o1
  have HB1 := Lib.hid b1
  have HSO1 := Lib.hid so1
  have HKM1 := Lib.hid km1
  have hl1 : k1.length ≤ 100 := by omega
  clear o1 b1 so1 km1
  go_wp2_with fail
  refine (keysB_any n1 pb mb' gb rb sb _ (HB.out.below HB1.out) hcb).mono ?_
  rintro e w2 ⟨v2, k2, rfl, o2, so2, kl2, km2, b2⟩
  have hke : k2 = k1 := Ky.sorted_eq so2 HSO1.out (fun k => by rw [km2, HKM1.out, HS.out])
  subst hke
  have HO1' := Lib.hid (SlR.of_owns (HO1.out.below b2))
  have HO2 := Lib.hid (SlR.of_owns o2)
  have HB2 := Lib.hid (HB1.out.trans (b2.mono HB1.out.size))
  clear o2 b2 so2 km2 kl1 kl2
  go_wp2_with fail
  refine (eqStr_any _ _ k2 k2 _ HO1'.out HO2.out (by omega) (by omega)).mono ?_
  rintro e w3 ⟨rfl, rfl⟩
  have hst : SameTexts k2 k2 = true := by simp [SameTexts]
  rw [hst]
  clear hst HO1' HO2
  go_wp2_with fail
  refine (keysB_any n0 pa ma ga ra sa _ (HA.out.below HB2.out) hca).mono ?_
  rintro e w4 ⟨v4, k4, rfl, o4, so4, kl4, km4, b4⟩
  have HO4 := Lib.hid o4
  have HB4 := Lib.hid (HB2.out.trans (b4.mono HB2.out.size))
  have HKM4 := Lib.hid km4
  have hl4 : k4.length ≤ 100 := by omega
  obtain ⟨A4, c4, rfl⟩ := o4.slice
  clear o4 so4 km4 b4 kl4
  go_wp2_with fail
  go_loopw [28] (fun iv wr => ∃ (k : Nat), iv = .int .i64 (k : Int) ∧ k ≤ k4.length ∧ wr = w4) (fun iv _ => k4.length - (intOf iv).toNat)
  case atStart => exact ⟨0, rfl, Nat.zero_le _, rfl⟩
  case round =>
    obtain ⟨k, rfl, hk, rfl⟩ := hrel
    by_cases hlt : k < k4.length
    · obtain ⟨bb, off, c3, hv2, hc3, hbb, hcell⟩ := SlR.texts (xs := k4) (SlR.of_owns HO4.out) (by omega)
      injection hv2 with g1 g2 g3
      subst g1 g3
      have c0 := hcell k hlt
      have hkm := (HKM4.out k4[k]).1 (List.getElem_mem hlt)
      clear hcell g2
      generalize k4[k] = x at *
      obtain ⟨v, hv⟩ := Option.isSome_iff_exists.1 hkm
      have hxz := HK.out x v hv
      have hvb : sb.1 x = some v := by rw [← HS.out]; exact hv
      have hxm : x.size ≤ maxLen := by simp only [maxLen]; omega
      have HGA := Lib.hid (getB_T n0 pa ma ga ra sa x _ (HA.out.below HB4.out) hxm)
      have HGB := Lib.hid (getB_T n1 pb mb' gb rb sb x _ (HB.out.below HB4.out) hxm)
      rw [hv] at HGA
      rw [hvb] at HGB
      have hvv : (v.toList == v.toList) = true := by simp
      clear hkm hv hvb hxz
      go_wp2_with fail
      refine HGA.out.mono ?_
      rintro e w5 ⟨rfl, rfl⟩
      go_wp2_with fail
      refine HGB.out.mono ?_
      rintro e w5 ⟨rfl, rfl⟩
      go_wp2_with fail
      exact ⟨⟨k + 1, by simp, by omega, by simp⟩, by simp only [intOf]; omega⟩
    · obtain rfl : k = k4.length := by omega
      go_wp2_with fail
      go_ret
      exact ⟨rfl, HB4.out⟩
end Bk
end Go.Proofs.Ytemknajlmocfeaa
namespace Go.Proofs.Ytemknajlmocfeaa
set_option maxRecDepth 20000
open Go.RowKit Go.Shelf
namespace Bk
def recOf (x : Stp) : Rec := if 0 < x.k % 3 then .set x.s x.t else .del x.s
abbrev Run := List Rec × St
def runS (a : Run) (x : Stp) : Run := match doR a.2 (recOf x) with | none => a | some s' => (a.1 ++ [recOf x], s')
def runF (a : Run) (xs : List Stp) : Run := xs.foldl runS a
def run (xs : List Stp) : Run := runF ([], s0) xs
theorem runS_set {a : Run} {x : Stp} (h : 0 < x.k % 3) : runS a x = ((if setE a.2 x.s x.t = 0 then a.1 ++ [.set x.s x.t] else a.1), (if setE a.2 x.s x.t = 0 then setS a.2 x.s x.t else a.2)) := by
  unfold runS recOf
  rw [if_pos h]
  by_cases hq : setE a.2 x.s x.t = 0
  · rw [doR_set_of hq, if_pos hq, if_pos hq]
  · have : doR a.2 (.set x.s x.t) = none := by show (if _ then _ else _) = _; rw [if_neg hq]
    rw [this, if_neg hq, if_neg hq]
theorem runS_del {a : Run} {x : Stp} (h : ¬ 0 < x.k % 3) : runS a x = ((if delE a.2 x.s = 0 then a.1 ++ [.del x.s] else a.1), (if delE a.2 x.s = 0 then delS a.2 x.s else a.2)) := by
  unfold runS recOf
  rw [if_neg h]
  by_cases hq : delE a.2 x.s = 0
  · rw [doR_del_of hq, if_pos hq, if_pos hq]
  · have : doR a.2 (.del x.s) = none := by show (if _ then _ else _) = _; rw [if_neg hq]
    rw [this, if_neg hq, if_neg hq]
theorem run_snoc (xs : List Stp) (x : Stp) : run (xs ++ [x]) = runS (run xs) x := by unfold run runF; rw [List.foldl_append]; rfl
theorem runF_len : ∀ (xs : List Stp) (a : Run), (runF a xs).1.length ≤ a.1.length + xs.length
  | [], a => Nat.le_refl _
  | x :: xs, a => by
    have h := runF_len xs (runS a x)
    have h2 : (runS a x).1.length ≤ a.1.length + 1 := by
      unfold runS
      cases doR a.2 (recOf x) <;> simp
    show (runF (runS a x) xs).1.length ≤ _
    rw [List.length_cons]
    omega
theorem run_len (xs : List Stp) : (run xs).1.length ≤ xs.length := by have := runF_len xs ([], s0); unfold run; simpa using this
def imgs (rs : List Rec) : List ByteArray := (List.range (rs.length + 1)).map fun j => mkS (imgL (rs.take j))
theorem imgs_nil : imgs [] = [ByteArray.empty] := rfl
theorem imgs_snoc (rs : List Rec) (r : Rec) : imgs (rs ++ [r]) = imgs rs ++ [mkS (imgL (rs ++ [r]))] := by
  unfold imgs
  rw [List.length_append, List.length_singleton, List.range_succ, List.map_append]
  congr 1
  · refine List.map_congr_left fun j hj => ?_
    have := List.mem_range.1 hj
    rw [List.take_append_of_le_length (by omega)]
  · rw [List.map_singleton, List.take_of_length_le (by simp)]
theorem imgs_len (rs : List Rec) : (imgs rs).length = rs.length + 1 := by unfold imgs; rw [List.length_map, List.length_range]
theorem BkS.grown {w w' : World} {n0 p mb base size : Nat} {g : Option Nat} {rs : List Rec} {s : St} {α : Type} {en : α → List Value} {v : Value} {xs : List α} (h : BkS w n0 p mb g rs s) (ho : Owns w base 9 size en v xs) (hg : w.grownBy w' v.ownBlock) : BkS w' n0 p mb g rs s := by
  refine h.gs (GS.of_grown (S := v.ownBlock.toList) hg (fun j hj => .inl (by simp [hj]))) fun j hj hm => ?_
  rw [Option.mem_toList] at hm
  rcases ho.2 with ⟨rfl, _⟩ | ⟨g', cap, cur, rfl, _, hh, _⟩
  · cases hm
  · have : g' = j := by simpa [Value.ownBlock] using hm
    subst this
    exact not_foot h.t hh (by decide) (by decide) hj
set_option maxHeartbeats 4000000 in
theorem booked_any (v : Value) (xs : List Stp) (w : World) (h : SlR w e_st v xs) (hl : xs.length ≤ 1048576) (hx : ∀ x ∈ xs, Wide x.k ∧ Wide x.a ∧ Wide x.b ∧ x.s.size ≤ maxLen ∧ x.t.size ≤ maxLen) :
    Calls Try.prog 28 #[v] w fun e w' => ∃ p mb g vi, e = .returned (.tuple #[ptr p, vi]) ∧ BkS w' w.heap.size p mb g (run xs).1 (run xs).2 ∧ Owns w' w.heap.size 9 1 Go.Proofs.Ytemknajlmocfeaa.es vi (imgs (run xs).1) ∧ Below w.heap.size w w' := by
  have HV := Lib.hid (fun hn => h.rowN (size := 22) (fun _ => rfl) hn)
  have HX := Lib.hid hx
  obtain ⟨A, cp, rfl, hc⟩ := h.form
  clear h hx
  go_enter Try.func28, Try.ntmps28
  go_wp2_with fail
  refine (newB_any _).mono ?_
  rintro e w1 ⟨p, mb, rfl, h1, b1⟩
  have H1 := Lib.hid h1
  have HB1 := Lib.hid b1
  clear h1 b1
  go_wp2_with fail
  refine (setB_any _ p mb none [] s0 ByteArray.empty ByteArray.empty _ H1.out (by decide) (by simp)).mono ?_
  rintro e w2 ⟨rfl, g2, gs2, gn2, h2⟩
  have hse : setE s0 ByteArray.empty ByteArray.empty = 1 := by decide
  rw [hse] at h2 ⊢
  rw [if_neg (by decide), if_neg (by decide)] at h2
  have HB2 := Lib.hid (HB1.out.trans (gs2.bel HB1.out.size (fun j hj => (H1.out.t.gle j hj).1)))
  have H2 := Lib.hid h2
  clear gs2 gn2 h2 hse
  have HOI := Lib.hid (Owns.lit (enc := Go.Proofs.Ytemknajlmocfeaa.es) (size := 1) (e := 9) w2 w.heap.size #[.string ByteArray.empty] [ByteArray.empty] HB2.out.size (by simp [maxLen]) (by rfl) (by rfl))
  have HI2 := Lib.hid (H2.out.alloc (.cells #[.string ByteArray.empty] 9))
  have HBI := Lib.hid (HB2.out.alloc HB2.out.size (.cells #[.string ByteArray.empty] 9))
  go_wp2_with fail
  go_loopw [5, 20] (fun av iv wr => ∃ (k : Nat) (g : Option Nat), iv = .int .i64 (k : Int) ∧ k ≤ xs.length ∧ BkS wr w.heap.size p mb g (run (xs.take k)).1 (run (xs.take k)).2 ∧ Owns wr w.heap.size 9 1 Go.Proofs.Ytemknajlmocfeaa.es av (imgs (run (xs.take k)).1) ∧ Below w.heap.size w wr) (fun _ iv _ => xs.length - (intOf iv).toNat)
  case atStart => exact ⟨0, g2, rfl, Nat.zero_le _, HI2.out, HOI.out, HBI.out⟩
  case round =>
    obtain ⟨k, g, rfl, hk, hbk, how, hbel⟩ := hrel
    have HO := Lib.hid how
    have HBK := Lib.hid hbk
    have HBE := Lib.hid hbel
    clear hbk
    by_cases hlt : k < xs.length
    · obtain ⟨bb, off, c3, hv2, hc3, hbb, hcell⟩ := HV.out (by omega)
      injection hv2 with g1 g2' g3
      subst g1 g3
      have hC : wr.rangeAt bb (off + k * 22) (e_st xs[k]) := fun j v hv => (hbel.cell (p := ⟨bb, off + (k * 22) + j, none⟩) hbb).trans (by rw [Nat.add_assoc]; exact hcell k hlt j v hv)
      have hxk := HX.out xs[k] (List.getElem_mem hlt)
      have HRN : Hid (run (xs.take (k + 1)) = runS (run (xs.take k)) xs[k]) := by show _ = _; rw [List.take_add_one, List.getElem?_eq_getElem hlt]; exact run_snoc _ _
      have hrl := run_len (xs.take k)
      rw [List.length_take] at hrl
      clear hcell g2' HOI HI2 HBI
      generalize run (xs.take k) = rr at *
      generalize xs[k] = x at *
      obtain ⟨hx1, hx2, hx3, hx4, hx5⟩ := hxk
      have hO := Lib.hid (fun (W : World) => of_any x 3 W hx1 (by decide))
      have hB := Blk.new wr 63 (e_st x).toArray
      have hst : (storeCells ⟨wr.heap.size, 0, none⟩ (e_st x)).run Try.prog (wr.alloc (.cells stZ 63)) = .ok () (wr.alloc (.cells (e_st x).toArray 63)) :=
        run_storeCells_new (P := Try.prog) wr 63 stZ (e_st x).toArray (by kernel_rfl) (by simp [stZ, e_st]) (by simp [e_st, Value.oneCell'])
      unfold stZ at hst
      have H5 := Lib.hid (HBK.out.alloc (.cells (e_st x).toArray 63))
      have HO5 := Lib.hid (HO.out.alloc (.cells (e_st x).toArray 63))
      have HB5 := Lib.hid (HBE.out.alloc HBE.out.size (.cells (e_st x).toArray 63))
      clear how hbel
      go_wp2_with (first
        | refine wpList_load_mid rfl 63 (.tmp 22) rfl bb (off + k * 22) rfl (e_st x) _ hC Try.underlying63 rfl (by kernel_rfl) ?_
        | refine wpList_load_row rfl 63 (.tmp 7) rfl wr.heap.size rfl 63 (e_st x).toArray (0, 0) _ (heap_alloc_last wr _) Try.underlying63 rfl (by kernel_rfl) ?_)
      clear hst hC
      generalize wr.alloc _ = w5 at *
      refine (hO.out _).mono ?_
      rintro e w6 ⟨rfl, g6⟩
      have hB6 := hB.below g6 hB.lt
      have e3 : w6.cell? ⟨wr.heap.size, 3, none⟩ = some (.string x.s) := hB6.cell 3
      have e4 : w6.cell? ⟨wr.heap.size, 4, none⟩ = some (.string x.t) := hB6.cell 4
      have H6 := Lib.hid (H5.out.below g6)
      have HO6 := Lib.hid (HO5.out.below g6)
      have HB6 := Lib.hid (HB5.out.trans (g6.mono HB5.out.size))
      obtain ⟨xk, xa, xb, xS, xT, og, ou, oi⟩ := x
      dsimp only at hx1 hx2 hx3 hx4 hx5 e3 e4 ⊢
      clear hB hB6 g6 H5 HO5 HB5 HBK HO HBE hO hx1 hx2 hx3
      generalize hXX : (e_st _).toArray = X at *
      clear hXX
      generalize wr.heap.size = bx at *
      by_cases hmp : 0 < xk % 3
      · have hd : decide (0 < xk % 3) = true := by rw [decide_eq_true_iff]; exact hmp
        have HMP : Hid (0 < xk % 3) := hmp
        clear hmp
        · skip
          go_wp2_with fail
          refine (setB_any _ p mb g rr.1 rr.2 xS xT _ H6.out hx4 (by omega)).mono ?_
          rintro e w7 ⟨rfl, g7, gs7, gn7, h7⟩
          have HO7 := Lib.hid (Owns.keepB HO6.out H6.out.t gs7 (by decide) (by decide))
          have HB7 := Lib.hid (HB6.out.trans (gs7.bel HB6.out.size (fun j hj => (H6.out.t.gle j hj).1)))
          have HR7 := Lib.hid (runS_set (a := rr) (x := ⟨xk, xa, xb, xS, xT, og, ou, oi⟩) HMP.out)
          clear gs7 gn7 e3 e4
          by_cases hq : setE rr.2 xS xT = 0
          · rw [if_pos hq, if_pos hq] at h7
            have HF : Hid (run (xs.take (k + 1)) = (rr.1 ++ [Rec.set xS xT], (setS rr.2 xS xT))) := by show _ = _; rw [HRN.out, HR7.out, if_pos hq, if_pos hq]
            have H7 := Lib.hid h7
            rw [hq]
            clear h7 hq HR7
            go_wp2_with fail
            refine (imageB_any _ p mb g7 _ _ _ H7.out.t).mono ?_
            rintro e w8 ⟨rfl, h8, gs8⟩
            have gf8 : GS w7 w8 (foot p mb g7) := gs8.mono (by simp [foot]; exact fun j hj => .inr (.inr hj))
            have HO8 := Lib.hid (Owns.keepB HO7.out H7.out.t gf8 (by decide) (by decide))
            have HB8 := Lib.hid (HB7.out.trans (gf8.bel HB7.out.size (fun j hj => (H7.out.t.gle j hj).1)))
            have H8 : Hid (BkS w8 w.heap.size p mb g7 (rr.1 ++ [Rec.set xS xT]) (setS rr.2 xS xT)) := ⟨h8, H7.out.pl⟩
            have hn8 : w.heap.size ≤ w8.heap.size := HB8.out.size
            clear h8 gs8 gf8 H7 HO7 HB7
            go_wp2_with (at_builtin; go_must (refine wpList_append_slr rfl (.tmp 39) (.tmp 42) _ rfl w.heap.size 9 (.string ByteArray.empty) 1 16 Go.Proofs.Ytemknajlmocfeaa.es Try.underlying42 stringInfo rfl (by decide) (fun _ => rfl) _ (imgs rr.1) rfl (HO8.out.alloc _) _ [mkS (imgL (rr.1 ++ [Rec.set xS xT]))] rfl (SlR.lit w8 [.string (mkS (imgL (rr.1 ++ [Rec.set xS xT])))] _ [mkS (imgL (rr.1 ++ [Rec.set xS xT]))] rfl) (es_one _) (by rw [imgs_len]; simp only [maxLen, List.length_cons, List.length_nil]; omega) (by rw [imgs_len]; simp only [List.length_cons, List.length_nil]; omega) (by simp; omega) ?_); intro v9 w9 ho9 hg9)
            have hoa := HO8.out.alloc (.cells #[.string (mkS (imgL (rr.1 ++ [Rec.set xS xT])))] 9)
            have h9 := (H8.out.alloc (.cells #[.string (mkS (imgL (rr.1 ++ [Rec.set xS xT])))] 9)).grown hoa hg9
            have hb9 := (HB8.out.alloc hn8 (.cells #[.string (mkS (imgL (rr.1 ++ [Rec.set xS xT])))] 9)).grown hg9 (by simp; omega) (fun j hj => (HO8.out.lt j hj).1)
            exact ⟨⟨k + 1, g7, by simp, by omega, by rw [HF.out]; exact h9, by rw [HF.out, imgs_snoc]; exact ho9, hb9⟩, by simp only [intOf]; omega⟩
          · rw [if_neg hq, if_neg hq] at h7
            have HF : Hid (run (xs.take (k + 1)) = rr) := by show _ = _; rw [HRN.out, HR7.out, if_neg hq, if_neg hq]
            have hqb : (setE rr.2 xS xT == 0) = false := by rw [beq_eq_false_iff_ne]; exact hq
            have H7 := Lib.hid h7
            clear h7 hq HR7
            go_wp2_with fail
            exact ⟨⟨k + 1, g7, by simp, by omega, by rw [HF.out]; exact H7.out, by rw [HF.out]; exact HO7.out, HB7.out⟩, by simp only [intOf]; omega⟩
      · have hd : decide (0 < xk % 3) = false := by rw [decide_eq_false_iff_not]; exact hmp
        have HMP : Hid (xk % 3 ≤ 0) := Int.not_lt.1 hmp
        clear hmp
        · skip
          go_wp2_with fail
          refine (delB_any _ p mb g rr.1 rr.2 xS _ H6.out hx4 (by omega)).mono ?_
          rintro e w7 ⟨rfl, g7, gs7, gn7, h7⟩
          have HO7 := Lib.hid (Owns.keepB HO6.out H6.out.t gs7 (by decide) (by decide))
          have HB7 := Lib.hid (HB6.out.trans (gs7.bel HB6.out.size (fun j hj => (H6.out.t.gle j hj).1)))
          have HR7 := Lib.hid (runS_del (a := rr) (x := ⟨xk, xa, xb, xS, xT, og, ou, oi⟩) (Int.not_lt.2 HMP.out))
          clear gs7 gn7 e3 e4
          by_cases hq : delE rr.2 xS = 0
          · rw [if_pos hq, if_pos hq] at h7
            have HF : Hid (run (xs.take (k + 1)) = (rr.1 ++ [Rec.del xS], (delS rr.2 xS))) := by show _ = _; rw [HRN.out, HR7.out, if_pos hq, if_pos hq]
            have H7 := Lib.hid h7
            rw [hq]
            clear h7 hq HR7
            go_wp2_with fail
            refine (imageB_any _ p mb g7 _ _ _ H7.out.t).mono ?_
            rintro e w8 ⟨rfl, h8, gs8⟩
            have gf8 : GS w7 w8 (foot p mb g7) := gs8.mono (by simp [foot]; exact fun j hj => .inr (.inr hj))
            have HO8 := Lib.hid (Owns.keepB HO7.out H7.out.t gf8 (by decide) (by decide))
            have HB8 := Lib.hid (HB7.out.trans (gf8.bel HB7.out.size (fun j hj => (H7.out.t.gle j hj).1)))
            have H8 : Hid (BkS w8 w.heap.size p mb g7 (rr.1 ++ [Rec.del xS]) (delS rr.2 xS)) := ⟨h8, H7.out.pl⟩
            have hn8 : w.heap.size ≤ w8.heap.size := HB8.out.size
            clear h8 gs8 gf8 H7 HO7 HB7
            go_wp2_with (at_builtin; go_must (refine wpList_append_slr rfl (.tmp 39) (.tmp 42) _ rfl w.heap.size 9 (.string ByteArray.empty) 1 16 Go.Proofs.Ytemknajlmocfeaa.es Try.underlying42 stringInfo rfl (by decide) (fun _ => rfl) _ (imgs rr.1) rfl (HO8.out.alloc _) _ [mkS (imgL (rr.1 ++ [Rec.del xS]))] rfl (SlR.lit w8 [.string (mkS (imgL (rr.1 ++ [Rec.del xS])))] _ [mkS (imgL (rr.1 ++ [Rec.del xS]))] rfl) (es_one _) (by rw [imgs_len]; simp only [maxLen, List.length_cons, List.length_nil]; omega) (by rw [imgs_len]; simp only [List.length_cons, List.length_nil]; omega) (by simp; omega) ?_); intro v9 w9 ho9 hg9)
            have hoa := HO8.out.alloc (.cells #[.string (mkS (imgL (rr.1 ++ [Rec.del xS])))] 9)
            have h9 := (H8.out.alloc (.cells #[.string (mkS (imgL (rr.1 ++ [Rec.del xS])))] 9)).grown hoa hg9
            have hb9 := (HB8.out.alloc hn8 (.cells #[.string (mkS (imgL (rr.1 ++ [Rec.del xS])))] 9)).grown hg9 (by simp; omega) (fun j hj => (HO8.out.lt j hj).1)
            exact ⟨⟨k + 1, g7, by simp, by omega, by rw [HF.out]; exact h9, by rw [HF.out, imgs_snoc]; exact ho9, hb9⟩, by simp only [intOf]; omega⟩
          · rw [if_neg hq, if_neg hq] at h7
            have HF : Hid (run (xs.take (k + 1)) = rr) := by show _ = _; rw [HRN.out, HR7.out, if_neg hq, if_neg hq]
            have hqb : (delE rr.2 xS == 0) = false := by rw [beq_eq_false_iff_ne]; exact hq
            have H7 := Lib.hid h7
            clear h7 hq HR7
            go_wp2_with fail
            exact ⟨⟨k + 1, g7, by simp, by omega, by rw [HF.out]; exact H7.out, by rw [HF.out]; exact HO7.out, HB7.out⟩, by simp only [intOf]; omega⟩
    · obtain rfl : k = xs.length := by omega
      have htk : xs.take xs.length = xs := List.take_of_length_le (Nat.le_refl _)
      rw [htk] at HBK HO
      clear how hbel htk
      go_wp2_with fail
      go_ret2
      exact ⟨p, mb, g, _, rfl, HBK.out, HO.out, HBE.out⟩
end Bk
end Go.Proofs.Ytemknajlmocfeaa
namespace Go.Proofs.Ytemknajlmocfeaa
set_option maxRecDepth 20000
open Go.RowKit Go.Shelf
namespace Bk
theorem setE_cases (s : St) (k v : ByteArray) : setE s k v = 0 ∨ setE s k v = 1 ∨ setE s k v = 2 ∨ setE s k v = 6 := by
  unfold setE
  split
  · simp
  · split
    · simp
    · split <;> simp
set_option maxHeartbeats 4000000 in
theorem bookLast_walk (v : Value) (xs : List Stp) (key val other : ByteArray) (w : World) (h : SlR w e_st v xs) (hl : xs.length ≤ 1048576) (hx : ∀ x ∈ xs, Wide x.k ∧ Wide x.a ∧ Wide x.b ∧ x.s.size ≤ maxLen ∧ x.t.size ≤ maxLen) (hk : key.size ≤ 1048576) (hv : val.size ≤ 1048576) (ho : other.size ≤ 1048576) :
    Calls Try.prog 7 #[v, .string key, .string val, .string other] w fun e w' => e = .returned (.bool true) ∧ Below w.heap.size w w' := by
  have HR0 := Lib.hid (booked_any v xs w h hl hx)
  have hrl := run_len xs
  have hkm : key.size ≤ maxLen := by simp only [maxLen]; omega
  have hom : other.size ≤ maxLen := by simp only [maxLen]; omega
  obtain ⟨A, cp, rfl, hc⟩ := h.form
  clear h hx
  generalize run xs = rr at *
  obtain ⟨rs, s⟩ := rr
  dsimp only at HR0 hrl
  go_enter Try.func7, Try.ntmps7
  go_wp2_with fail
  refine HR0.out.mono ?_
  rintro e w1 ⟨p, mb, g, vi, rfl, h1, _, b1⟩
  have H1 := Lib.hid h1
  have HB1 := Lib.hid b1
  clear HR0 h1 b1
  go_wp2_with fail
  refine (getB_any _ p mb g rs s other _ H1.out hom).mono ?_
  rintro e w2 ⟨rfl, rfl⟩
  go_wp2_with fail
  refine (setB_any _ p mb g rs s key val _ H1.out hkm (by omega)).mono ?_
  rintro e w2 ⟨rfl, g2, gs2, gn2, h2⟩
  have HB2 := Lib.hid (HB1.out.trans (gs2.bel HB1.out.size (fun j hj => (H1.out.t.gle j hj).1)))
  clear gs2 gn2
  by_cases hq : setE s key val = 0
  · rw [if_pos hq, if_pos hq] at h2
    rw [hq]
    have H2 := Lib.hid h2
    have hgk : (setS s key val).1 key = some val := by simp [setS, vput]
    have hgo : other ≠ key → (setS s key val).1 other = s.1 other := fun h => by simp [setS, vput, h]
    have hde : delE (setS s key val) key = 0 := by unfold delE; rw [hgk]; rfl
    have hde2 : delE (delS (setS s key val) key) key = 4 := by unfold delE delS vdel; simp
    have hgd : (delS (setS s key val) key).1 key = none := by simp [delS, vdel]
    have HGK := Lib.hid hgk
    have HGO := Lib.hid hgo
    have HDE := Lib.hid hde
    have HDE2 := Lib.hid hde2
    have HGD := Lib.hid hgd
    have hvv : (val.toList == val.toList) = true := by simp
    clear hq h2 hgk hgo hde hde2 hgd
    go_wp2_with fail
    refine (getB_any _ p mb g2 _ _ key _ H2.out hkm).mono ?_
    rintro e w3 ⟨rfl, rfl⟩
    rw [HGK.out]
    go_wp2_with fail
    refine (getB_any _ p mb g2 _ _ other _ H2.out hom).mono ?_
    rintro e w3 ⟨rfl, rfl⟩
    by_cases hok : other = key
    · have hb := beqL_true hok
      clear hok
      go_wp2_with fail
      refine (delB_any _ p mb g2 _ _ key _ H2.out hkm (by simp; omega)).mono ?_
      rintro e w4 ⟨rfl, g4, gs4, gn4, h4⟩
      rw [HDE.out] at h4 ⊢
      rw [if_pos rfl, if_pos rfl] at h4
      have H4 := Lib.hid h4
      have HB4 := Lib.hid (HB2.out.trans (gs4.bel HB2.out.size (fun j hj => (H2.out.t.gle j hj).1)))
      clear gs4 gn4 h4
      go_wp2_with fail
      refine (delB_any _ p mb g4 _ _ key _ H4.out hkm (by simp; omega)).mono ?_
      rintro e w5 ⟨rfl, g5, gs5, gn5, h5⟩
      rw [HDE2.out] at h5 ⊢
      rw [if_neg (by decide), if_neg (by decide)] at h5
      have H5 := Lib.hid h5
      have HB5 := Lib.hid (HB4.out.trans (gs5.bel HB4.out.size (fun j hj => (H4.out.t.gle j hj).1)))
      clear gs5 gn5 h5
      go_wp2_with fail
      refine (getB_any _ p mb g5 _ _ key _ H5.out hkm).mono ?_
      rintro e w6 ⟨rfl, rfl⟩
      rw [HGD.out]
      have hc5 := (inv_play H5.out.pl).many
      go_wp2_with fail
      refine (keysB_any _ p mb g5 _ _ _ H5.out.t hc5).mono ?_
      rintro e w6 ⟨vk, ks, rfl, ok, _, hkl, _, b6⟩
      have hd6 : decide ((ks.length : Int) ≤ 100) = true := by rw [decide_eq_true_iff]; omega
      obtain ⟨Ak, ck, rfl⟩ := ok.slice
      have HB6 := Lib.hid (HB5.out.trans (b6.mono HB5.out.size))
      clear b6 ok hkl hc5
      go_wp2_with fail
      go_ret
      exact ⟨rfl, HB6.out⟩
    · have hb := beqL_false hok
      have hgo := HGO.out hok
      rw [hgo]
      clear hok hgo
      go_wp2_with fail
      refine (delB_any _ p mb g2 _ _ key _ H2.out hkm (by simp; omega)).mono ?_
      rintro e w4 ⟨rfl, g4, gs4, gn4, h4⟩
      rw [HDE.out] at h4 ⊢
      rw [if_pos rfl, if_pos rfl] at h4
      have H4 := Lib.hid h4
      have HB4 := Lib.hid (HB2.out.trans (gs4.bel HB2.out.size (fun j hj => (H2.out.t.gle j hj).1)))
      clear gs4 gn4 h4
      go_wp2_with fail
      refine (delB_any _ p mb g4 _ _ key _ H4.out hkm (by simp; omega)).mono ?_
      rintro e w5 ⟨rfl, g5, gs5, gn5, h5⟩
      rw [HDE2.out] at h5 ⊢
      rw [if_neg (by decide), if_neg (by decide)] at h5
      have H5 := Lib.hid h5
      have HB5 := Lib.hid (HB4.out.trans (gs5.bel HB4.out.size (fun j hj => (H4.out.t.gle j hj).1)))
      clear gs5 gn5 h5
      go_wp2_with fail
      refine (getB_any _ p mb g5 _ _ key _ H5.out hkm).mono ?_
      rintro e w6 ⟨rfl, rfl⟩
      rw [HGD.out]
      have hc5 := (inv_play H5.out.pl).many
      go_wp2_with fail
      refine (keysB_any _ p mb g5 _ _ _ H5.out.t hc5).mono ?_
      rintro e w6 ⟨vk, ks, rfl, ok, _, hkl, _, b6⟩
      have hd6 : decide ((ks.length : Int) ≤ 100) = true := by rw [decide_eq_true_iff]; omega
      obtain ⟨Ak, ck, rfl⟩ := ok.slice
      have HB6 := Lib.hid (HB5.out.trans (b6.mono HB5.out.size))
      clear b6 ok hkl hc5
      go_wp2_with fail
      go_ret
      exact ⟨rfl, HB6.out⟩
  · rw [if_neg hq, if_neg hq] at h2
    have H2 := Lib.hid h2
    have hqc := setE_cases s key val
    clear h2
    obtain ⟨q, hqq⟩ : ∃ q, setE s key val = q := ⟨_, rfl⟩
    rw [hqq] at hq hqc ⊢
    clear hqq
    have hfin : q = 1 ∨ q = 2 ∨ q = 6 := hqc.resolve_left hq
    clear hqc hq
    rcases hfin with rfl | rfl | rfl
    · go_wp2_with fail
      refine (getB_any _ p mb g2 _ _ key _ H2.out hkm).mono ?_
      rintro e w3 ⟨rfl, rfl⟩
      go_wp2_with fail
      refine (getB_any _ p mb g2 _ _ other _ H2.out hom).mono ?_
      rintro e w3 ⟨rfl, rfl⟩
      cases hok : (other.toList == key.toList) <;>
      · go_wp2_with fail
        go_ret
        exact ⟨rfl, HB2.out⟩
    · go_wp2_with fail
      refine (getB_any _ p mb g2 _ _ key _ H2.out hkm).mono ?_
      rintro e w3 ⟨rfl, rfl⟩
      go_wp2_with fail
      refine (getB_any _ p mb g2 _ _ other _ H2.out hom).mono ?_
      rintro e w3 ⟨rfl, rfl⟩
      cases hok : (other.toList == key.toList) <;>
      · go_wp2_with fail
        go_ret
        exact ⟨rfl, HB2.out⟩
    · go_wp2_with fail
      refine (getB_any _ p mb g2 _ _ key _ H2.out hkm).mono ?_
      rintro e w3 ⟨rfl, rfl⟩
      go_wp2_with fail
      refine (getB_any _ p mb g2 _ _ other _ H2.out hom).mono ?_
      rintro e w3 ⟨rfl, rfl⟩
      cases hok : (other.toList == key.toList) <;>
      · go_wp2_with fail
        go_ret
        exact ⟨rfl, HB2.out⟩
end Bk
end Go.Proofs.Ytemknajlmocfeaa
namespace Go.Proofs.Ytemknajlmocfeaa.Frame
open Go.ChangeShapes Go.WideShapes Go.ChangeAt Go.RowKit
open Go.ChangeMaps (open_string shut_string)

theorem own : ownKnob Try.prog.godebug = none := by kernel_rfl
theorem laidOut : laidOutB Try.prog = true := by kernel_rfl

section
variable {H : Type} {enc : TypeId × Value → H} {P : Program}

theorem trodAll_below (hl : laidOutB P = true) {W W' : World} (bel : Below W.heap.size W W') :
    ∀ (ts : List TypeId) (vs : List Value) (ds : List (DataW H)) (ps : List MemPlace), (∀ t ∈ ts, P.readableRec t = true ∧ t < P.types.size) →
      DataW.TrodAll enc P W 0 (fun _ => true) true ts vs ds ps → (∀ x ∈ ps, x.block < W.heap.size) → DataW.TrodAll enc P W' 0 (fun b => decide (b < W.heap.size)) true ts vs ds ps
  | [], vs, ds, ps, _, h, _ => by
    obtain ⟨rfl, rfl, rfl⟩ := trodAll_nil h
    exact trodAll_mk0
  | t :: ts, vs, ds, ps, ht, h, hlt => by
    obtain ⟨v, vs', d, ds', p, q, rfl, rfl, rfl, h0, r0⟩ := trodAll_cons h
    have a := ht t (by simp)
    exact trodAll_cons_mk (Below.trod hl a.1 a.2 h0 bel (fun x hx => hlt x (List.mem_append_left _ hx)))
      (trodAll_below hl bel ts vs' ds' q (fun t' h' => ht t' (by simp [h'])) r0 (fun x hx => hlt x (List.mem_append_right _ hx)))

/-- THE CLOSE. -/
theorem close {f : Func} {s : ChangeSpec} {W W' : World} {args : Array Value} {ds : List (DataW H)} {before : List MemPlace} {tb : TypeId} (hl : laidOutB P = true)
    (hub : P.underlying tb = some .bool) (hr : f.resultTypes = #[tb]) (hro : ∀ t ∈ f.params.toList, P.readableRec t = true ∧ t < P.types.size)
    (hvs : s.vars = []) (hW : DataW.Whole enc P f.params.toList s.vars false W args.toList ds [] before)
    (h1 : (s.fn H (ds ++ [])).results = [.lit (.bool true)]) (h2 : (s.fn H (ds ++ [])).args = ds) (h3 : (s.fn H (ds ++ [])).vars = []) (bel : Below W.heap.size W W') :
    ∃ v, Ending.returned (.bool true) = .returned v ∧ s.post enc P f false true false false W args v W' := by
  have hlt : ∀ x ∈ before, x.block < W.heap.size := fun x hx => hW.lt x hx
  have hW2 := hW
  obtain ⟨p, q, hA, hV, hb, _, _⟩ := hW
  rw [hvs] at hV
  obtain ⟨_, rfl⟩ := trodVars_none hV
  have hA' := trodAll_below hl bel _ _ _ _ hro hA (fun x hx => hlt x (by rw [hb]; exact List.mem_append_left _ hx))
  refine ⟨_, rfl, ds, [], before, [], p, [], hW2, ?_, ?_, ?_, ?_, fun h => by cases h⟩
  · rw [hr, h1]
    exact trodAll_mk1 (shut_bool hub _)
  · rw [h2]; exact hA'
  · rw [hvs, h3]; rfl
  · exact bel.frame _
end
end Go.Proofs.Ytemknajlmocfeaa.Frame
namespace Go.Proofs.Ytemknajlmocfeaa
open Go.ChangeShapes Go.WideShapes Go.Deep Go.RowKit Go.Joins
namespace Bulk
variable {H : Type}
theorem pos (d : DataW H) : 1 ≤ Rows.uptoBulk d := by
  cases d with
  | lit l => cases l <;> simp [Rows.uptoBulk]
  | _ => simp [Rows.uptoBulk]
theorem mem_le {d : DataW H} : ∀ {l : List (DataW H)}, d ∈ l → Rows.uptoBulk d ≤ Rows.uptoBulkAll l
  | x :: r, h => by
    simp only [Rows.uptoBulkAll]
    rcases List.mem_cons.1 h with rfl | h
    · omega
    · have := mem_le h; omega
theorem len_le : ∀ (l : List (DataW H)), l.length ≤ Rows.uptoBulkAll l
  | [] => by simp
  | x :: r => by have := len_le r; have := pos x; simp only [Rows.uptoBulkAll, List.length_cons]; omega
theorem small {l : List (DataW H)} (h : Rows.uptoSmall H l = true) : Rows.uptoBulkAll l ≤ 1048576 := of_decide_eq_true h
theorem of_mem {d : DataW H} {l : List (DataW H)} (h : Rows.uptoSmall H l = true) (hm : d ∈ l) : Rows.uptoBulk d ≤ 1048576 := Nat.le_trans (mem_le hm) (small h)
theorem str (l : List UInt8) : Rows.uptoBulk (DataW.lit (H := H) (.string l)) = l.length + 1 := by simp [Rows.uptoBulk]
theorem slice_le (a b : List (DataW H)) : Rows.uptoBulkAll a ≤ Rows.uptoBulk (.slice a b) := by simp only [Rows.uptoBulk]; omega
theorem agg_eq (a : List (DataW H)) : Rows.uptoBulk (.agg a) = Rows.uptoBulkAll a + 1 := by simp only [Rows.uptoBulk]
theorem all_append (a b : List (DataW H)) : Rows.uptoBulkAll (a ++ b) = Rows.uptoBulkAll a + Rows.uptoBulkAll b := by
  induction a with
  | nil => simp [Rows.uptoBulkAll]
  | cons x a ih => simp only [List.cons_append, Rows.uptoBulkAll, ih]; omega
/-- The weights of a list's elements, together. -/
theorem sum_le {α : Type} (wt : α → Nat) (D : Nat → DataW H) (xs : List α) (h : ∀ i (hi : i < xs.length), wt xs[i] ≤ Rows.uptoBulk (D i)) : (xs.map wt).sum ≤ Rows.uptoBulkAll ((List.range xs.length).map D) := by
  have : ∀ n, n ≤ xs.length → ((xs.take n).map wt).sum ≤ Rows.uptoBulkAll ((List.range n).map D) := by
    intro n
    induction n with
    | zero => intro _; simp
    | succ n ih =>
      intro hn
      have i := ih (by omega)
      have e : xs.take (n + 1) = xs.take n ++ [xs[n]] := by rw [List.take_add_one, List.getElem?_eq_getElem (by omega)]; rfl
      rw [e, List.range_succ, List.map_append, List.map_append, List.sum_append, all_append]
      have := h n (by omega)
      simp only [List.map_cons, List.map_nil, List.sum_cons, List.sum_nil, Rows.uptoBulkAll]
      omega
  have := this xs.length (Nat.le_refl _)
  rwa [List.take_of_length_le (Nat.le_refl _)] at this
end Bulk

section
variable {H : Type} {enc : TypeId × Value → H} {P : Program} {w : World} {base : Nat} {spare : Nat → Bool} {held : Bool}
/-- A slice of texts. -/
theorem open_texts {r : Reach} {b0 : Nat} {t e : TypeId} {v : Value} {d : DataW H} {p : List MemPlace} (ht : P.underlying t = some (.slice e)) (he : P.underlying e = some .string) (hC : P.cellsOf e = 1)
    (hv : Value.okWide P w r b0 t v) (h : DataW.Trod enc P w base spare held t v d p) (hb : Rows.uptoBulk d ≤ 1048576) : ∃ xs : List ByteArray, SlR w es v xs ∧ (xs.map (fun x => x.size + 1)).sum ≤ 1048576 := by
  obtain ⟨A, len, cap, rfl⟩ := okWide_slice ht hv
  obtain ⟨fuel, hf⟩ := h
  rcases open_slice ht hf with ⟨hcs, _⟩ | ⟨a, len', cap', m, n, D, Pl, hcs, _, hl, hm, hmm, hx, hi⟩
  · simp [Value.cells] at hcs
    obtain ⟨rfl, rfl, rfl⟩ := hcs
    exact ⟨[], SlR.nil _ _, by simp⟩
  · simp [Value.cells] at hcs
    obtain ⟨rfl, rfl, rfl⟩ := hcs
    have hlm : len ≤ m := by rw [hmm]; split <;> omega
    obtain ⟨xs, hxl, hs, hR⟩ := slr_of (w := w) (en := es) (size := 1) (a := a) (len := len) (cap := cap) (fun i x => x.size + 1 ≤ Rows.uptoBulk (D i)) (fun _ => rfl) hl (by omega) (fun i hi' => by
      obtain ⟨cs', hc, ht'⟩ := hi i (by omega)
      rw [hC] at hc
      obtain ⟨_, hcl, hat⟩ := World.cells?_some hc
      obtain ⟨s, e0, hy, hz⟩ := DataW.trod_string he ht'
      refine ⟨s, fun j u hu => ?_, ?_⟩
      · have hj : j = 0 := by
          rcases Nat.eq_zero_or_pos j with h0 | h0
          · exact h0
          · rw [List.getElem?_eq_none (by simp [es]; omega)] at hu; cases hu
        subst hj
        have hu' : u = .string s := by simpa [es] using hu.symm
        subst hu'
        have := hat 0 (by omega)
        rw [e0] at this
        rw [← Go.Deep.add_add, hC] at *
        simpa using this
      · simp only [Prod.mk.injEq] at hy
        rw [hy.1, Bulk.str]
        exact Nat.le_refl _)
    refine ⟨xs, hs, ?_⟩
    subst hxl
    have h1 := Bulk.sum_le (fun x => x.size + 1) D xs hR
    have hxx := congrArg Prod.fst hx
    simp only at hxx
    rw [hxx] at hb
    exact Nat.le_trans h1 (Nat.le_trans (Bulk.slice_le _ _) hb)
/-- A slice of structs of the make 'ss'. -/
theorem open_sss {r : Reach} {b0 : Nat} {t e : TypeId} {f0 f1 : Field} {v : Value} {d : DataW H} {p : List MemPlace} (ht : P.underlying t = some (.slice e)) (he : P.underlying e = some (.struct #[f0, f1])) (hone : oneCellFields P #[f0, f1] = true) (hC : P.cellsOf e = 2)
    (h0 : P.underlying f0.type = some .string) (h1 : P.underlying f1.type = some .string) (hv : Value.okWide P w r b0 t v) (h : DataW.Trod enc P w base spare held t v d p) (hb : Rows.uptoBulk d ≤ 1048576) : ∃ xs : List (ByteArray × ByteArray), SlR w e_ss v xs ∧ (xs.map (fun d => d.1.size + d.2.size + 2)).sum ≤ 1048576 := by
  obtain ⟨A, len, cap, rfl⟩ := okWide_slice ht hv
  obtain ⟨fuel, hf⟩ := h
  rcases open_slice_fields ht he hone hC hf with ⟨hcs, _⟩ | ⟨a, len', cap', m, D, Pl, hcs, _, hl, hm, hmm, hx, hi⟩
  · simp [Value.cells] at hcs
    obtain ⟨rfl, rfl, rfl⟩ := hcs
    exact ⟨[], SlR.nil _ _, by simp⟩
  · simp [Value.cells] at hcs
    obtain ⟨rfl, rfl, rfl⟩ := hcs
    have hlm : len ≤ m := by rw [hmm]; split <;> omega
    obtain ⟨xs, hxl, hs, hR⟩ := slr_of (w := w) (en := e_ss) (size := 2) (a := a) (len := len) (cap := cap) (fun i d => d.1.size + d.2.size + 2 ≤ Rows.uptoBulk (D i)) (fun _ => rfl) hl (by omega) (fun i hi' => by
      obtain ⟨ys, n', hD, _, hyl, hfl⟩ := hi i (by omega)
      obtain ⟨v0, y0, c0, g0, t0⟩ := hfl 0 f0 rfl
      obtain ⟨v1, y1, c1, g1, t1⟩ := hfl 1 f1 rfl
      obtain ⟨x0, e0, z0, _⟩ := DataW.trod_string h0 t0
      obtain ⟨x1, e1, z1, _⟩ := DataW.trod_string h1 t1
      simp only [List.cons.injEq, and_true] at e0 e1
      subst e0 e1 z0 z1
      have hys : ys = [_, _] := List.ext_getElem? (l₂ := [(DataW.lit (.string x0.data.toList), []), (DataW.lit (.string x1.data.toList), [])]) (fun j => by
        match j with
        | 0 => exact g0
        | 1 => exact g1
        | j + 2 => rw [List.getElem?_eq_none (by rw [hyl]; simp), List.getElem?_eq_none (by simp)])
      refine ⟨(x0, x1), fun j u hu => ?_, ?_⟩
      · match j, hu with
        | 0, hu => simp only [e_ss, List.getElem?_cons_zero, List.getElem?_cons_succ, Option.some.injEq] at hu; subst hu; exact c0
        | 1, hu => simp only [e_ss, List.getElem?_cons_zero, List.getElem?_cons_succ, Option.some.injEq] at hu; subst hu; exact c1
        | j + 2, hu => simp [e_ss] at hu
      · rw [hD, hys]; simp only [List.map_cons, List.map_nil, Rows.uptoBulk, Rows.uptoBulkAll, ByteArray.size, Array.length_toList]; omega)
    refine ⟨xs, hs, ?_⟩
    · subst hxl
      have h1 := Bulk.sum_le (fun (d : ByteArray × ByteArray) => d.1.size + d.2.size + 2) D xs (fun i hi => hR i hi)
      have hxx := congrArg Prod.fst hx
      simp only at hxx
      rw [hxx] at hb
      exact Nat.le_trans h1 (Nat.le_trans (Bulk.slice_le _ _) hb)
/-- A slice of structs of the make 'sbs'. -/
theorem open_sbss {r : Reach} {b0 : Nat} {t e : TypeId} {f0 f1 f2 : Field} {v : Value} {d : DataW H} {p : List MemPlace} (ht : P.underlying t = some (.slice e)) (he : P.underlying e = some (.struct #[f0, f1, f2])) (hone : oneCellFields P #[f0, f1, f2] = true) (hC : P.cellsOf e = 3)
    (h0 : P.underlying f0.type = some .string) (h1 : P.underlying f1.type = some .bool) (h2 : P.underlying f2.type = some .string) (hv : Value.okWide P w r b0 t v) (h : DataW.Trod enc P w base spare held t v d p) (hb : Rows.uptoBulk d ≤ 1048576) : ∃ xs : List (ByteArray × Bool × ByteArray), SlR w e_sbs v xs ∧ (xs.map (fun d => d.1.size + d.2.2.size + 3)).sum ≤ 1048576 := by
  obtain ⟨A, len, cap, rfl⟩ := okWide_slice ht hv
  obtain ⟨fuel, hf⟩ := h
  rcases open_slice_fields ht he hone hC hf with ⟨hcs, _⟩ | ⟨a, len', cap', m, D, Pl, hcs, _, hl, hm, hmm, hx, hi⟩
  · simp [Value.cells] at hcs
    obtain ⟨rfl, rfl, rfl⟩ := hcs
    exact ⟨[], SlR.nil _ _, by simp⟩
  · simp [Value.cells] at hcs
    obtain ⟨rfl, rfl, rfl⟩ := hcs
    have hlm : len ≤ m := by rw [hmm]; split <;> omega
    obtain ⟨xs, hxl, hs, hR⟩ := slr_of (w := w) (en := e_sbs) (size := 3) (a := a) (len := len) (cap := cap) (fun i d => d.1.size + d.2.2.size + 3 ≤ Rows.uptoBulk (D i)) (fun _ => rfl) hl (by omega) (fun i hi' => by
      obtain ⟨ys, n', hD, _, hyl, hfl⟩ := hi i (by omega)
      obtain ⟨v0, y0, c0, g0, t0⟩ := hfl 0 f0 rfl
      obtain ⟨v1, y1, c1, g1, t1⟩ := hfl 1 f1 rfl
      obtain ⟨v2, y2, c2, g2, t2⟩ := hfl 2 f2 rfl
      obtain ⟨x0, e0, z0, _⟩ := DataW.trod_string h0 t0
      obtain ⟨x1, e1, z1⟩ := DataW.trod_bool h1 t1
      obtain ⟨x2, e2, z2, _⟩ := DataW.trod_string h2 t2
      simp only [List.cons.injEq, and_true] at e0 e1 e2
      subst e0 e1 e2 z0 z1 z2
      have hys : ys = [_, _, _] := List.ext_getElem? (l₂ := [(DataW.lit (.string x0.data.toList), []), (DataW.lit (.bool x1), []), (DataW.lit (.string x2.data.toList), [])]) (fun j => by
        match j with
        | 0 => exact g0
        | 1 => exact g1
        | 2 => exact g2
        | j + 3 => rw [List.getElem?_eq_none (by rw [hyl]; simp), List.getElem?_eq_none (by simp)])
      refine ⟨(x0, x1, x2), fun j u hu => ?_, ?_⟩
      · match j, hu with
        | 0, hu => simp only [e_sbs, List.getElem?_cons_zero, List.getElem?_cons_succ, Option.some.injEq] at hu; subst hu; exact c0
        | 1, hu => simp only [e_sbs, List.getElem?_cons_zero, List.getElem?_cons_succ, Option.some.injEq] at hu; subst hu; exact c1
        | 2, hu => simp only [e_sbs, List.getElem?_cons_zero, List.getElem?_cons_succ, Option.some.injEq] at hu; subst hu; exact c2
        | j + 3, hu => simp [e_sbs] at hu
      · rw [hD, hys]; simp only [List.map_cons, List.map_nil, Rows.uptoBulk, Rows.uptoBulkAll, ByteArray.size, Array.length_toList]; omega)
    refine ⟨xs, hs, ?_⟩
    · subst hxl
      have h1 := Bulk.sum_le (fun (d : ByteArray × Bool × ByteArray) => d.1.size + d.2.2.size + 3) D xs (fun i hi => hR i hi)
      have hxx := congrArg Prod.fst hx
      simp only at hxx
      rw [hxx] at hb
      exact Nat.le_trans h1 (Nat.le_trans (Bulk.slice_le _ _) hb)
/-- A slice of structs of the make 'bs'. -/
theorem open_bss {r : Reach} {b0 : Nat} {t e : TypeId} {f0 f1 : Field} {v : Value} {d : DataW H} {p : List MemPlace} (ht : P.underlying t = some (.slice e)) (he : P.underlying e = some (.struct #[f0, f1])) (hone : oneCellFields P #[f0, f1] = true) (hC : P.cellsOf e = 2)
    (h0 : P.underlying f0.type = some .bool) (h1 : P.underlying f1.type = some .string) (hv : Value.okWide P w r b0 t v) (h : DataW.Trod enc P w base spare held t v d p) (hb : Rows.uptoBulk d ≤ 1048576) : ∃ xs : List (Bool × ByteArray), SlR w e_bs v xs ∧ (xs.map (fun d => d.2.size + 2)).sum ≤ 1048576 := by
  obtain ⟨A, len, cap, rfl⟩ := okWide_slice ht hv
  obtain ⟨fuel, hf⟩ := h
  rcases open_slice_fields ht he hone hC hf with ⟨hcs, _⟩ | ⟨a, len', cap', m, D, Pl, hcs, _, hl, hm, hmm, hx, hi⟩
  · simp [Value.cells] at hcs
    obtain ⟨rfl, rfl, rfl⟩ := hcs
    exact ⟨[], SlR.nil _ _, by simp⟩
  · simp [Value.cells] at hcs
    obtain ⟨rfl, rfl, rfl⟩ := hcs
    have hlm : len ≤ m := by rw [hmm]; split <;> omega
    obtain ⟨xs, hxl, hs, hR⟩ := slr_of (w := w) (en := e_bs) (size := 2) (a := a) (len := len) (cap := cap) (fun i d => d.2.size + 2 ≤ Rows.uptoBulk (D i)) (fun _ => rfl) hl (by omega) (fun i hi' => by
      obtain ⟨ys, n', hD, _, hyl, hfl⟩ := hi i (by omega)
      obtain ⟨v0, y0, c0, g0, t0⟩ := hfl 0 f0 rfl
      obtain ⟨v1, y1, c1, g1, t1⟩ := hfl 1 f1 rfl
      obtain ⟨x0, e0, z0⟩ := DataW.trod_bool h0 t0
      obtain ⟨x1, e1, z1, _⟩ := DataW.trod_string h1 t1
      simp only [List.cons.injEq, and_true] at e0 e1
      subst e0 e1 z0 z1
      have hys : ys = [_, _] := List.ext_getElem? (l₂ := [(DataW.lit (.bool x0), []), (DataW.lit (.string x1.data.toList), [])]) (fun j => by
        match j with
        | 0 => exact g0
        | 1 => exact g1
        | j + 2 => rw [List.getElem?_eq_none (by rw [hyl]; simp), List.getElem?_eq_none (by simp)])
      refine ⟨(x0, x1), fun j u hu => ?_, ?_⟩
      · match j, hu with
        | 0, hu => simp only [e_bs, List.getElem?_cons_zero, List.getElem?_cons_succ, Option.some.injEq] at hu; subst hu; exact c0
        | 1, hu => simp only [e_bs, List.getElem?_cons_zero, List.getElem?_cons_succ, Option.some.injEq] at hu; subst hu; exact c1
        | j + 2, hu => simp [e_bs] at hu
      · rw [hD, hys]; simp only [List.map_cons, List.map_nil, Rows.uptoBulk, Rows.uptoBulkAll, ByteArray.size, Array.length_toList]; omega)
    refine ⟨xs, hs, ?_⟩
    · subst hxl
      have h1 := Bulk.sum_le (fun (d : Bool × ByteArray) => d.2.size + 2) D xs (fun i hi => hR i hi)
      have hxx := congrArg Prod.fst hx
      simp only at hxx
      rw [hxx] at hb
      exact Nat.le_trans h1 (Nat.le_trans (Bulk.slice_le _ _) hb)
/-- A slice of structs of the make 'ii'. -/
theorem open_iis {r : Reach} {b0 : Nat} {t e : TypeId} {f0 f1 : Field} {v : Value} {d : DataW H} {p : List MemPlace} (ht : P.underlying t = some (.slice e)) (he : P.underlying e = some (.struct #[f0, f1])) (hone : oneCellFields P #[f0, f1] = true) (hC : P.cellsOf e = 2)
    (h0 : P.underlying f0.type = some (.int .i64)) (h1 : P.underlying f1.type = some (.int .i64)) (hv : Value.okWide P w r b0 t v) (h : DataW.Trod enc P w base spare held t v d p) (hb : Rows.uptoBulk d ≤ 1048576) : ∃ xs : List (Int × Int), SlR w e_ii v xs ∧ (xs.map (fun d => 2)).sum ≤ 1048576 ∧ ∀ d ∈ xs, (Lit.int .i64 d.1).wf = true ∧ (Lit.int .i64 d.2).wf = true := by
  obtain ⟨A, len, cap, rfl⟩ := okWide_slice ht hv
  obtain ⟨fuel, hf⟩ := h
  rcases open_slice_fields ht he hone hC hf with ⟨hcs, _⟩ | ⟨a, len', cap', m, D, Pl, hcs, _, hl, hm, hmm, hx, hi⟩
  · simp [Value.cells] at hcs
    obtain ⟨rfl, rfl, rfl⟩ := hcs
    exact ⟨[], SlR.nil _ _, by simp, by simp⟩
  · simp [Value.cells] at hcs
    obtain ⟨rfl, rfl, rfl⟩ := hcs
    have hlm : len ≤ m := by rw [hmm]; split <;> omega
    obtain ⟨xs, hxl, hs, hR⟩ := slr_of (w := w) (en := e_ii) (size := 2) (a := a) (len := len) (cap := cap) (fun i d => 2 ≤ Rows.uptoBulk (D i) ∧ (Lit.int .i64 d.1).wf = true ∧ (Lit.int .i64 d.2).wf = true) (fun _ => rfl) hl (by omega) (fun i hi' => by
      obtain ⟨ys, n', hD, _, hyl, hfl⟩ := hi i (by omega)
      obtain ⟨v0, y0, c0, g0, t0⟩ := hfl 0 f0 rfl
      obtain ⟨v1, y1, c1, g1, t1⟩ := hfl 1 f1 rfl
      obtain ⟨x0, e0, z0, w0⟩ := DataW.trod_int h0 t0
      obtain ⟨x1, e1, z1, w1⟩ := DataW.trod_int h1 t1
      simp only [List.cons.injEq, and_true] at e0 e1
      subst e0 e1 z0 z1
      have hys : ys = [_, _] := List.ext_getElem? (l₂ := [(DataW.lit (.int .i64 x0), []), (DataW.lit (.int .i64 x1), [])]) (fun j => by
        match j with
        | 0 => exact g0
        | 1 => exact g1
        | j + 2 => rw [List.getElem?_eq_none (by rw [hyl]; simp), List.getElem?_eq_none (by simp)])
      refine ⟨(x0, x1), fun j u hu => ?_, ?_⟩
      · match j, hu with
        | 0, hu => simp only [e_ii, List.getElem?_cons_zero, List.getElem?_cons_succ, Option.some.injEq] at hu; subst hu; exact c0
        | 1, hu => simp only [e_ii, List.getElem?_cons_zero, List.getElem?_cons_succ, Option.some.injEq] at hu; subst hu; exact c1
        | j + 2, hu => simp [e_ii] at hu
      · rw [hD, hys]; simp only [List.map_cons, List.map_nil, Rows.uptoBulk, Rows.uptoBulkAll, ByteArray.size, Array.length_toList]; exact ⟨by omega, w0, w1⟩)
    refine ⟨xs, hs, ?_, fun d hd => ?_⟩
    · subst hxl
      have h1 := Bulk.sum_le (fun (d : Int × Int) => 2) D xs (fun i hi => (hR i hi).1)
      have hxx := congrArg Prod.fst hx
      simp only at hxx
      rw [hxx] at hb
      exact Nat.le_trans h1 (Nat.le_trans (Bulk.slice_le _ _) hb)
    · obtain ⟨i, hi, rfl⟩ := List.getElem_of_mem hd
      exact (hR i hi).2
end
end Go.Proofs.Ytemknajlmocfeaa
